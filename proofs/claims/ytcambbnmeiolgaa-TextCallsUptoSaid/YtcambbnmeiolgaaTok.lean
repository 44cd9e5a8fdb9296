import Derived.Test.YtcambbnmeiolgaaStp
import Derived.RegionTactic
import Derived.RegionCalls
namespace Go.Proofs.Ytcambbnmeiolgaa
open Go.RowKit

/-- a stream as it is seen: what waits, what was given out, is it over? -/
abbrev S3 := List UInt8 × List Int × Bool
def u8 (x : Int) : UInt8 := UInt8.ofNat x.toNat
def stepU (sts : List (List UInt8)) (s : S3) (b : UInt8) : S3 :=
  if s.2.2 then s
  else if 0 < longest sts (s.1 ++ [b]) then ((s.1 ++ [b]).drop ((s.1 ++ [b]).length - longest sts (s.1 ++ [b])), s.2.1 ++ bI ((s.1 ++ [b]).take ((s.1 ++ [b]).length - longest sts (s.1 ++ [b]))), true)
  else ((s.1 ++ [b]).drop ((s.1 ++ [b]).length - waitsL sts (s.1 ++ [b])), s.2.1 ++ bI ((s.1 ++ [b]).take ((s.1 ++ [b]).length - waitsL sts (s.1 ++ [b]))), false)
def endU (s : S3) : S3 := if s.2.2 then s else ([], s.2.1 ++ bI s.1, true)
/-- the bytes of a token come -/
def bytesU (sts : List (List UInt8)) (s : S3) (l : List Int) : S3 := l.foldl (fun s x => stepU sts s (u8 x)) s
def tokU (sts : List (List UInt8)) (wds : List (List Int)) (s : S3) (k : Nat) : S3 := if k = 0 then endU s else bytesU sts s (wds.getD k [])
theorem bytesU_snoc (sts : List (List UInt8)) (s : S3) (l : List Int) (x : Int) : bytesU sts s (l ++ [x]) = stepU sts (bytesU sts s l) (u8 x) := by simp [bytesU]
theorem stepU_over (sts : List (List UInt8)) (s : S3) (b : UInt8) (h : s.2.2 = true) : stepU sts s b = s := by unfold stepU; rw [if_pos h]
theorem bytesU_over (sts : List (List UInt8)) (l : List Int) : ∀ (s : S3), s.2.2 = true → bytesU sts s l = s := by
  induction l with
  | nil => intro s _; rfl
  | cons x l ih =>
    intro s h
    show bytesU sts (stepU sts s (u8 x)) l = s
    rw [stepU_over sts s _ h]
    exact ih s h
theorem hold1_16 (t s : List UInt8) (hs : s.length ≤ 16) (h : Nat) (hh : h ≤ 15) : hold1 t s h (min (s.length - 1) t.length) ≤ 15 := by
  have := (hold1_le t s h (min (s.length - 1) t.length)).2
  omega
theorem holdL_16 (t : List UInt8) : ∀ (sts : List (List UInt8)), (∀ s ∈ sts, s.length ≤ 16) → holdL sts t ≤ 15 := by
  have : ∀ (sts : List (List UInt8)) (h : Nat), h ≤ 15 → (∀ s ∈ sts, s.length ≤ 16) → sts.foldl (fun h s => hold1 t s h (min (s.length - 1) t.length)) h ≤ 15 := by
    intro sts
    induction sts with
    | nil => intro h hh _; exact hh
    | cons s r ih =>
      intro h hh hs
      rw [List.foldl_cons]
      exact ih _ (hold1_16 t s (hs s (by simp)) h hh) (fun x hx => hs x (by simp [hx]))
  exact fun sts hs => this sts 0 (Nat.zero_le _) hs
theorem waitsL_18 (sts : List (List UInt8)) (t : List UInt8) (hs : ∀ s ∈ sts, s.length ≤ 16) : waitsL sts t ≤ 18 := by
  have h1 := holdL_16 t sts hs
  have h2 := tailR_le (t.take (t.length - holdL sts t)) (min 3 (t.length - holdL sts t))
  unfold waitsL
  omega
theorem longest_16 (t : List UInt8) : ∀ (sts : List (List UInt8)), (∀ s ∈ sts, s.length ≤ 16) → longest sts t ≤ 16 := by
  have : ∀ (sts : List (List UInt8)) (g : Nat), g ≤ 16 → (∀ s ∈ sts, s.length ≤ 16) → sts.foldl (fun g s => if sfx t s then max g s.length else g) g ≤ 16 := by
    intro sts
    induction sts with
    | nil => intro g hg _; exact hg
    | cons s r ih =>
      intro g hg hs
      rw [List.foldl_cons]
      refine ih _ ?_ (fun x hx => hs x (by simp [hx]))
      have := hs s (by simp)
      split <;> omega
  exact fun sts hs => this sts 0 (Nat.zero_le _) hs
/-- little waits; what comes is given out or waits -/
theorem stepU_len (sts : List (List UInt8)) (s : S3) (b : UInt8) (hs : ∀ s ∈ sts, s.length ≤ 16) (h : s.1.length ≤ 18) : (stepU sts s b).1.length ≤ 18 ∧ (stepU sts s b).2.1.length + (stepU sts s b).1.length ≤ s.2.1.length + s.1.length + 1 := by
  have h1 := longest_16 (s.1 ++ [b]) sts hs
  have h2 := longest_le (s.1 ++ [b]) sts
  have h3 := waitsL_18 sts (s.1 ++ [b]) hs
  have h4 := waitsL_le sts (s.1 ++ [b])
  have h5 : (s.1 ++ [b]).length = s.1.length + 1 := by simp
  unfold stepU
  split
  · omega
  · split
    · simp only [List.length_drop, List.length_append, bI_length, List.length_take, List.length_cons, List.length_nil] at *
      omega
    · simp only [List.length_drop, List.length_append, bI_length, List.length_take, List.length_cons, List.length_nil] at *
      omega
theorem bytesU_len (sts : List (List UInt8)) (hs : ∀ s ∈ sts, s.length ≤ 16) (l : List Int) : ∀ (s : S3), s.1.length ≤ 18 → (bytesU sts s l).1.length ≤ 18 ∧ (bytesU sts s l).2.1.length + (bytesU sts s l).1.length ≤ s.2.1.length + s.1.length + l.length := by
  induction l with
  | nil => intro s h; exact ⟨h, by simp [bytesU]⟩
  | cons x l ih =>
    intro s h
    obtain ⟨h1, h2⟩ := stepU_len sts s (u8 x) hs h
    obtain ⟨h3, h4⟩ := ih _ h1
    show (bytesU sts (stepU sts s (u8 x)) l).1.length ≤ 18 ∧ _
    refine ⟨h3, ?_⟩
    show (bytesU sts (stepU sts s (u8 x)) l).2.1.length + (bytesU sts (stepU sts s (u8 x)) l).1.length ≤ _
    simp only [List.length_cons]
    omega
theorem tokU_len (sts : List (List UInt8)) (wds : List (List Int)) (hs : ∀ s ∈ sts, s.length ≤ 16) (hw : ∀ l ∈ wds, l.length ≤ 16) (s : S3) (k : Nat) (h : s.1.length ≤ 18) : (tokU sts wds s k).1.length ≤ 18 ∧ (tokU sts wds s k).2.1.length + (tokU sts wds s k).1.length ≤ s.2.1.length + s.1.length + 16 := by
  unfold tokU
  split
  · unfold endU
    split
    · omega
    · simp only [List.length_nil, List.length_append, bI_length]
      omega
  · obtain ⟨h1, h2⟩ := bytesU_len sts hs (wds.getD k []) s h
    have h3 : (wds.getD k []).length ≤ 16 := by
      rcases Nat.lt_or_ge k wds.length with hk | hk
      · rw [List.getD_eq_getElem?_getD, List.getElem?_eq_getElem hk]
        exact hw _ (List.getElem_mem _)
      · rw [List.getD_eq_getElem?_getD, List.getElem?_eq_none hk]
        simp
    exact ⟨h1, by omega⟩

/-- slices of bytes, each in memory of its own -/
def WU (w : World) (base : Nat) (vals : List Value) (ls : List (List Int)) : Prop := vals.length = ls.length ∧ ∀ (i : Nat) (v : Value), vals[i]? = some v → w.ownsRow base 5 1 v (ls.getD i []).length (B8 (ls.getD i []))
theorem WU.kept {w w' : World} {base : Nat} {vals : List Value} {ls : List (List Int)} {r : Option Nat} (h : WU w base vals ls) (hg : w.grownBy w' r) (hv : ∀ v ∈ vals, v.ownBlock = none ∨ v.ownBlock ≠ r) : WU w' base vals ls :=
  ⟨h.1, fun i v h1 => (h.2 i v h1).kept hg (hv v (List.mem_of_getElem? h1))⟩
/-- what a stream keeps for good -/
structure Sta (w : World) (p : Nat) (wv sv : Value) (wds : List (List Int)) (sts : List ByteArray) : Prop where
  wo : ∃ vals, w.ownsRow 0 34 1 wv wds.length vals ∧ WU w 0 vals wds ∧ (wv.ownBlock = none ∨ wv.ownBlock ≠ some p) ∧ (∀ v ∈ vals, v.ownBlock = none ∨ v.ownBlock ≠ some p)
  so : w.ownsRow 0 9 1 sv sts.length (sts.map Value.string) ∧ (sv.ownBlock = none ∨ sv.ownBlock ≠ some p)
  w64 : wds.length ≤ 64
  w16 : ∀ l ∈ wds, l.length ≤ 16 ∧ ∀ x ∈ l, 0 ≤ x ∧ x < 256
  s4 : sts.length ≤ 4
  s16 : ∀ s ∈ sts, 1 ≤ s.size ∧ s.size ≤ 16
theorem Sta.kept {w w' : World} {p : Nat} {wv sv : Value} {wds : List (List Int)} {sts : List ByteArray} (h : Sta w p wv sv wds sts) (hg : w.grownBy w' (some p)) : Sta w' p wv sv wds sts := by
  obtain ⟨vals, h1, h2, h3, h4⟩ := h.wo
  refine ⟨⟨vals, h1.kept hg h3, h2.kept hg h4, h3, h4⟩, ⟨h.so.1.kept hg h.so.2, h.so.2⟩, h.w64, h.w16, h.s4, h.s16⟩
theorem Sta.stops {w : World} {p : Nat} {wv sv : Value} {wds : List (List Int)} {sts : List ByteArray} (h : Sta w p wv sv wds sts) : ∃ A c, sv = .slice A sts.length c ∧ Rd w A (sts.map Value.string) := by
  obtain ⟨A, c, h1, _, h3⟩ := own_rd h.so.1
  exact ⟨A, c, h1, h3⟩
theorem own_rdv {w : World} {base : Nat} {e : TypeId} {size n m c : Nat} {A : Option Addr} {xs : List Value} (h : w.ownsRow base e size (.slice A m c) n xs) : Rd w A xs := by
  obtain ⟨A', c', h1, _, h2⟩ := own_rd h
  injection h1 with h1
  subst h1
  exact h2
/-- a token's bytes, and where they lie: for as long as the stream lives -/
theorem Sta.word {w : World} {p : Nat} {wv sv : Value} {wds : List (List Int)} {sts : List ByteArray} (h : Sta w p wv sv wds sts) (k : Nat) (hk : k < wds.length) : ∃ b o c A c', wv = .slice (some ⟨b, o, none⟩) wds.length c ∧ ∀ w', w.grownBy w' (some p) → w'.cell? ⟨b, o + k, none⟩ = some (.slice A (wds.getD k []).length c') ∧ Rd w' A (B8 (wds.getD k [])) := by
  obtain ⟨vals, h1, h2, h3, h4⟩ := h.wo
  obtain ⟨A, c, e1, _, r1⟩ := own_rd h1
  have hl : vals.length = wds.length := h2.1
  obtain ⟨v, h5⟩ : ∃ v, vals[k]? = some v := ⟨_, List.getElem?_eq_getElem (show k < vals.length by omega)⟩
  have h6 := h2.2 k v h5
  obtain ⟨b, o, rfl, _⟩ := r1.at k (by omega)
  obtain ⟨A', c', e2, _, _⟩ := own_rd h6
  refine ⟨b, o, c, A', c', e1, fun w' hg => ?_⟩
  have k1 := h1.kept hg h3
  rw [e1] at k1
  have k2 := h6.kept hg (h4 v (List.mem_of_getElem? h5))
  rw [e2] at k2
  refine ⟨?_, own_rdv k2⟩
  rcases own_rdv k1 with r | ⟨b', o', e, r⟩
  · rw [r] at hl
    simp at hl
    omega
  · injection e with e
    injection e with e3 e4
    subst e3 e4
    rw [r k (by omega), h5, e2]
theorem Sta.lens {w : World} {p : Nat} {wv sv : Value} {wds : List (List Int)} {sts : List ByteArray} (h : Sta w p wv sv wds sts) : ∀ s ∈ sts.map lst, s.length ≤ 16 := by
  intro s hs
  obtain ⟨x, hx, rfl⟩ := List.mem_map.1 hs
  rw [lst_length]
  exact (h.s16 x hx).2
theorem pushes (ns : List Int) : ∀ (s : ByteArray), lst (ns.foldl (fun r n => r.push (UInt8.ofNat n.toNat)) s) = lst s ++ ns.map u8 := by
  induction ns with
  | nil => intro s; simp
  | cons n r ih =>
    intro s
    rw [List.foldl_cons, ih]
    have : lst (s.push (UInt8.ofNat n.toNat)) = lst s ++ [u8 n] := by
      show (s.push (UInt8.ofNat n.toNat)).data.toList = _
      cases s
      simp [ByteArray.push, lst, u8]
    rw [this, List.map_cons, List.append_assoc]
    rfl
/-- string(b) -/
theorem conv_str (w : World) (A : Option Addr) (n c : Nat) (ns : List Int) (hn : ns.length = n) (h : Rd w A (B8 ns)) : ∃ s : ByteArray, lst s = ns.map u8 ∧ (convert 34 9 (.slice A n c)).run Try.prog w = .ok (.string s) w := by
  rw [run_convert_bytes_string w 34 9 5 A n c Try.underlying34 Try.underlying5 Try.underlying9]
  rcases Nat.eq_zero_or_pos n with h0 | h0
  · subst h0
    obtain rfl := List.length_eq_zero_iff.1 hn
    cases A with
    | none => exact ⟨⟨#[]⟩, rfl, by simp [Conv.bytesToString]; rfl⟩
    | some a =>
      refine ⟨ByteArray.empty, rfl, ?_⟩
      exact run_bytesToString w a 0 c [] (by simp [loadCells, loadCellsFrom])
  · obtain ⟨b, o, rfl⟩ : ∃ b o, A = some ⟨b, o, none⟩ := by
      rcases h with h | ⟨b, o, h, _⟩
      · have := B8_length ns
        rw [h] at this
        simp at this
        omega
      · exact ⟨b, o, h⟩
    have hl : (loadCells ⟨b, o, none⟩ n).run Try.prog w = .ok (ns.map (Value.int .u8)).toArray w := by
      have := run_loadCells_list (P := Try.prog) w ⟨b, o, none⟩ (ns.map (Value.int .u8)) (fun j v hv => by
        rw [addr_add]
        rcases h with h | ⟨b', o', e, h⟩
        · have := B8_length ns
          rw [h] at this
          simp at this
          omega
        · injection e with e
          injection e with e1 e2
          subst e1 e2
          have hj := (List.getElem?_eq_some_iff.1 hv).1
          rw [h j (by rw [B8_length]; simpa using hj)]
          exact hv)
      rw [List.length_map, hn] at this
      exact this
    refine ⟨_, ?_, run_bytesToString w ⟨b, o, none⟩ n c ns hl⟩
    rw [pushes]
    rfl
theorem blk_rd {w : World} {g : Nat} {arr : Array Value} {t : TypeId} {xs : List Value} (h : Blk w g arr t) (he : arr.toList = xs) : Rd w (some ⟨g, 0, none⟩) xs :=
  .inr ⟨g, 0, rfl, fun i hi => by rw [Nat.zero_add, h.cell, ← he, Array.getElem?_toList]⟩
theorem conv_run (w : World) (A : Option Addr) (n c : Nat) (ns : List Int) (hn : ns.length = n) (h : Rd w A (B8 ns)) : (convert 34 9 (.slice A n c)).run Try.prog w = .ok (.string ⟨(ns.map u8).toArray⟩) w := by
  obtain ⟨s, h1, h2⟩ := conv_str w A n c ns hn h
  rw [h2, ← h1, mk_lst]
end Go.Proofs.Ytcambbnmeiolgaa
