import Derived.Test.YtcambbnmeiolgaaCutP
namespace Go.Proofs.Ytcambbnmeiolgaa
open Go.RowKit
/-! While a stream is not over: what was given out, and what waits, is what came -/
theorem bI_u8 {x : Int} (h : 0 ≤ x ∧ x < 256) : bI [u8 x] = [x] := by
  have : (u8 x).toNat = x.toNat := by
    unfold u8
    rw [UInt8.toNat_ofNat']
    omega
  simp only [bI, List.map_cons, List.map_nil, this]
  congr 1
  omega
theorem stepU_keep (sts : List (List UInt8)) (s : S3) (b : UInt8) (h0 : s.2.2 = false) (h : (stepU sts s b).2.2 = false) : (stepU sts s b).2.1 ++ bI (stepU sts s b).1 = s.2.1 ++ bI s.1 ++ bI [b] := by
  revert h
  unfold stepU
  rw [if_neg (by rw [h0]; simp)]
  split
  · intro h; cases h
  · intro _
    dsimp only
    rw [List.append_assoc, ← bI_append, List.take_append_drop, bI_append, List.append_assoc]
theorem bytesU_keep (sts : List (List UInt8)) (l : List Int) : ∀ (s : S3), (∀ x ∈ l, 0 ≤ x ∧ x < 256) → s.2.2 = false → (bytesU sts s l).2.2 = false → (bytesU sts s l).2.1 ++ bI (bytesU sts s l).1 = s.2.1 ++ bI s.1 ++ l := by
  induction l with
  | nil => intro s _ _ _; simp [bytesU]
  | cons x l ih =>
    intro s hx h0 h
    have e : bytesU sts s (x :: l) = bytesU sts (stepU sts s (u8 x)) l := rfl
    rw [e] at h ⊢
    cases h1 : (stepU sts s (u8 x)).2.2 with
    | true =>
      rw [bytesU_over sts l _ h1, h1] at h
      cases h
    | false =>
      rw [ih _ (fun y hy => hx y (List.mem_cons_of_mem _ hy)) h1 h, stepU_keep sts s _ h0 h1, bI_u8 (hx x (by simp))]
      simp
/-- the bytes of tokens -/
def cameU (wds : List (List Int)) (l : List Int) : List Int := (l.map fun k => wds.getD k.toNat []).flatten
theorem cameU_snoc (wds : List (List Int)) (l : List Int) (k : Int) : cameU wds (l ++ [k]) = cameU wds l ++ wds.getD k.toNat [] := by simp [cameU]
theorem word_u8 {wds : List (List Int)} (hw : ∀ l ∈ wds, l.length ≤ 16 ∧ ∀ x ∈ l, 0 ≤ x ∧ x < 256) (k : Nat) : ∀ x ∈ wds.getD k [], 0 ≤ x ∧ x < 256 := by
  intro x hx
  obtain ⟨y, hy, hxy⟩ := getD_mem hx
  exact (hw y hy).2 x hxy
theorem feedU_keep (sts : List (List UInt8)) (wds : List (List Int)) (hw : ∀ l ∈ wds, l.length ≤ 16 ∧ ∀ x ∈ l, 0 ≤ x ∧ x < 256) (l : List Int) : ∀ (s : S3), (∀ x ∈ l, 1 ≤ x) → s.2.2 = false → (feedU sts wds s l).2.2 = false → (feedU sts wds s l).2.1 ++ bI (feedU sts wds s l).1 = s.2.1 ++ bI s.1 ++ cameU wds l := by
  induction l with
  | nil => intro s _ _ _; simp [feedU, cameU]
  | cons k l ih =>
    intro s hk h0 h
    have e : feedU sts wds s (k :: l) = feedU sts wds (tokU sts wds s k.toNat) l := rfl
    rw [e] at h ⊢
    have hk1 := hk k (by simp)
    have et : tokU sts wds s k.toNat = bytesU sts s (wds.getD k.toNat []) := by unfold tokU; rw [if_neg (by omega)]
    rw [et] at h ⊢
    cases h1 : (bytesU sts s (wds.getD k.toNat [])).2.2 with
    | true =>
      rw [feedU_over sts wds l _ h1, h1] at h
      cases h
    | false =>
      rw [ih _ (fun y hy => hk y (List.mem_cons_of_mem _ hy)) h1 h, bytesU_keep sts _ s (word_u8 hw _) h0 h1]
      simp [cameU]
/-! Without stop strings: never over by bytes alone; 3 wait at most -/
theorem stepU_nil (s : S3) (b : UInt8) (h0 : s.2.2 = false) : (stepU [] s b).2.2 = false ∧ (stepU [] s b).1.length ≤ 3 := by
  have hl : longest [] (s.1 ++ [b]) = 0 := rfl
  have hh : holdL [] (s.1 ++ [b]) = 0 := rfl
  unfold stepU
  rw [if_neg (by rw [h0]; simp), hl, if_neg (by omega)]
  refine ⟨rfl, ?_⟩
  have hw : waitsL [] (s.1 ++ [b]) ≤ 3 := by
    unfold waitsL
    rw [hh]
    have := tailR_le ((s.1 ++ [b]).take ((s.1 ++ [b]).length - 0)) (min 3 ((s.1 ++ [b]).length - 0))
    omega
  dsimp only
  rw [List.length_drop]
  omega
theorem bytesU_nil (l : List Int) : ∀ (s : S3), s.2.2 = false → s.1.length ≤ 3 → (bytesU [] s l).2.2 = false ∧ (bytesU [] s l).1.length ≤ 3 := by
  induction l with
  | nil => intro s h0 h3; exact ⟨h0, h3⟩
  | cons x l ih =>
    intro s h0 h3
    have h := stepU_nil s (u8 x) h0
    exact ih _ h.1 h.2
theorem feedU_nil (wds : List (List Int)) (l : List Int) : ∀ (s : S3), (∀ x ∈ l, 1 ≤ x) → s.2.2 = false → s.1.length ≤ 3 → (feedU [] wds s l).2.2 = false ∧ (feedU [] wds s l).1.length ≤ 3 := by
  induction l with
  | nil => intro s _ h0 h3; exact ⟨h0, h3⟩
  | cons k l ih =>
    intro s hk h0 h3
    have e : feedU [] wds s (k :: l) = feedU [] wds (tokU [] wds s k.toNat) l := rfl
    have hk1 := hk k (by simp)
    have et : tokU [] wds s k.toNat = bytesU [] s (wds.getD k.toNat []) := by unfold tokU; rw [if_neg (by omega)]
    rw [e, et]
    have h := bytesU_nil (wds.getD k.toNat []) s h0 h3
    exact ih _ (fun y hy => hk y (List.mem_cons_of_mem _ hy)) h.1 h.2
end Go.Proofs.Ytcambbnmeiolgaa
