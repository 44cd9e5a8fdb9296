import Derived.Test.YtcambbnmeiolgaaCutP
import Derived.Test.YtcambbnmeiolgaaWaiP
import Derived.Deep.QuietTactic
import Derived.BigQuiet
import Derived.Laws.Cover4
import Derived.Laws.IdiomStrings
import Derived.Test.YtcambbnmeiolgaaEnc
import Derived.Test.YtcambbnmeiolgaaDec
namespace Go.Proofs.Ytcambbnmeiolgaa
open Go.RowKit
/-! While a stream is not over: what was given out, and what waits, is what came -/
theorem bI_u8 {x : Int} (h : 0 ≤ x ∧ x < 256) : bI [u8 x] = [x] := by
  have : (u8 x).toNat = x.toNat := by
    unfold u8
    rw [UInt8.toNat_ofNat']
    omega
  simp only [bI, List.map_cons, List.map_nil, this]
  congr 1
  omega
theorem stepU_keep (sts : List (List UInt8)) (s : S3) (b : UInt8) (h0 : s.2.2 = false) (h : (stepU sts s b).2.2 = false) : (stepU sts s b).2.1 ++ bI (stepU sts s b).1 = s.2.1 ++ bI s.1 ++ bI [b] := by
  revert h
  unfold stepU
  rw [if_neg (by rw [h0]; simp)]
  split
  · intro h; cases h
  · intro _
    dsimp only
    rw [List.append_assoc, ← bI_append, List.take_append_drop, bI_append, List.append_assoc]
theorem bytesU_keep (sts : List (List UInt8)) (l : List Int) : ∀ (s : S3), (∀ x ∈ l, 0 ≤ x ∧ x < 256) → s.2.2 = false → (bytesU sts s l).2.2 = false → (bytesU sts s l).2.1 ++ bI (bytesU sts s l).1 = s.2.1 ++ bI s.1 ++ l := by
  induction l with
  | nil => intro s _ _ _; simp [bytesU]
  | cons x l ih =>
    intro s hx h0 h
    have e : bytesU sts s (x :: l) = bytesU sts (stepU sts s (u8 x)) l := rfl
    rw [e] at h ⊢
    cases h1 : (stepU sts s (u8 x)).2.2 with
    | true =>
      rw [bytesU_over sts l _ h1, h1] at h
      cases h
    | false =>
      rw [ih _ (fun y hy => hx y (List.mem_cons_of_mem _ hy)) h1 h, stepU_keep sts s _ h0 h1, bI_u8 (hx x (by simp))]
      simp
/-- the bytes of tokens -/
def cameU (wds : List (List Int)) (l : List Int) : List Int := (l.map fun k => wds.getD k.toNat []).flatten
theorem cameU_snoc (wds : List (List Int)) (l : List Int) (k : Int) : cameU wds (l ++ [k]) = cameU wds l ++ wds.getD k.toNat [] := by simp [cameU]
theorem word_u8 {wds : List (List Int)} (hw : ∀ l ∈ wds, l.length ≤ 16 ∧ ∀ x ∈ l, 0 ≤ x ∧ x < 256) (k : Nat) : ∀ x ∈ wds.getD k [], 0 ≤ x ∧ x < 256 := by
  intro x hx
  obtain ⟨y, hy, hxy⟩ := getD_mem hx
  exact (hw y hy).2 x hxy
theorem feedU_keep (sts : List (List UInt8)) (wds : List (List Int)) (hw : ∀ l ∈ wds, l.length ≤ 16 ∧ ∀ x ∈ l, 0 ≤ x ∧ x < 256) (l : List Int) : ∀ (s : S3), (∀ x ∈ l, 1 ≤ x) → s.2.2 = false → (feedU sts wds s l).2.2 = false → (feedU sts wds s l).2.1 ++ bI (feedU sts wds s l).1 = s.2.1 ++ bI s.1 ++ cameU wds l := by
  induction l with
  | nil => intro s _ _ _; simp [feedU, cameU]
  | cons k l ih =>
    intro s hk h0 h
    have e : feedU sts wds s (k :: l) = feedU sts wds (tokU sts wds s k.toNat) l := rfl
    rw [e] at h ⊢
    have hk1 := hk k (by simp)
    have et : tokU sts wds s k.toNat = bytesU sts s (wds.getD k.toNat []) := by unfold tokU; rw [if_neg (by omega)]
    rw [et] at h ⊢
    cases h1 : (bytesU sts s (wds.getD k.toNat [])).2.2 with
    | true =>
      rw [feedU_over sts wds l _ h1, h1] at h
      cases h
    | false =>
      rw [ih _ (fun y hy => hk y (List.mem_cons_of_mem _ hy)) h1 h, bytesU_keep sts _ s (word_u8 hw _) h0 h1]
      simp [cameU]
/-! Without stop strings: never over by bytes alone; 3 wait at most -/
theorem stepU_nil (s : S3) (b : UInt8) (h0 : s.2.2 = false) : (stepU [] s b).2.2 = false ∧ (stepU [] s b).1.length ≤ 3 := by
  have hl : longest [] (s.1 ++ [b]) = 0 := rfl
  have hh : holdL [] (s.1 ++ [b]) = 0 := rfl
  unfold stepU
  rw [if_neg (by rw [h0]; simp), hl, if_neg (by omega)]
  refine ⟨rfl, ?_⟩
  have hw : waitsL [] (s.1 ++ [b]) ≤ 3 := by
    unfold waitsL
    rw [hh]
    have := tailR_le ((s.1 ++ [b]).take ((s.1 ++ [b]).length - 0)) (min 3 ((s.1 ++ [b]).length - 0))
    omega
  dsimp only
  rw [List.length_drop]
  omega
theorem bytesU_nil (l : List Int) : ∀ (s : S3), s.2.2 = false → s.1.length ≤ 3 → (bytesU [] s l).2.2 = false ∧ (bytesU [] s l).1.length ≤ 3 := by
  induction l with
  | nil => intro s h0 h3; exact ⟨h0, h3⟩
  | cons x l ih =>
    intro s h0 h3
    have h := stepU_nil s (u8 x) h0
    exact ih _ h.1 h.2
theorem feedU_nil (wds : List (List Int)) (l : List Int) : ∀ (s : S3), (∀ x ∈ l, 1 ≤ x) → s.2.2 = false → s.1.length ≤ 3 → (feedU [] wds s l).2.2 = false ∧ (feedU [] wds s l).1.length ≤ 3 := by
  induction l with
  | nil => intro s _ h0 h3; exact ⟨h0, h3⟩
  | cons k l ih =>
    intro s hk h0 h3
    have e : feedU [] wds s (k :: l) = feedU [] wds (tokU [] wds s k.toNat) l := rfl
    have hk1 := hk k (by simp)
    have et : tokU [] wds s k.toNat = bytesU [] s (wds.getD k.toNat []) := by unfold tokU; rw [if_neg (by omega)]
    rw [e, et]
    have h := bytesU_nil (wds.getD k.toNat []) s h0 h3
    exact ih _ (fun y hy => hk y (List.mem_cons_of_mem _ hy)) h.1 h.2
end Go.Proofs.Ytcambbnmeiolgaa
namespace Go.Proofs.Ytcambbnmeiolgaa
open Go.RowKit
/-! Runes as bytes: decoding a list of bytes; whole runes -/
/-- decoding at the front of a list of bytes -/
def decL (l : List UInt8) : Nat × Nat :=
  let at' (k : Nat) : Nat := (l.getD k 0).toNat
  let cont (k : Nat) : Bool := decide (k < l.length) && at' k / 64 == 2
  let b0 := at' 0
  if b0 < 0x80 then (b0, 1)
  else if b0 / 32 == 6 && cont 1 then
    let c := (b0 % 32) * 64 + at' 1 % 64
    if c ≥ 0x80 then (c, 2) else (Utf8.runeError, 1)
  else if b0 / 16 == 14 && cont 1 && cont 2 then
    let c := (b0 % 16) * 4096 + (at' 1 % 64) * 64 + at' 2 % 64
    if c ≥ 0x800 && Utf8.valid c then (c, 3) else (Utf8.runeError, 1)
  else if b0 / 8 == 30 && cont 1 && cont 2 && cont 3 then
    let c := (b0 % 8) * 262144 + (at' 1 % 64) * 4096 + (at' 2 % 64) * 64 + at' 3 % 64
    if c ≥ 0x10000 && Utf8.valid c then (c, 4) else (Utf8.runeError, 1)
  else (Utf8.runeError, 1)
theorem get_lst (s : ByteArray) (i k : Nat) : s.get! (i + k) = ((lst s).drop i).getD k 0 := by
  rw [List.getD_eq_getElem?_getD, List.getElem?_drop]
  show s.data[i + k]! = _
  rw [getElem!_def]
  cases h : s.data[i + k]? with
  | none =>
    have : (lst s)[i + k]? = none := by rw [← h]; simp [lst]
    rw [this]; rfl
  | some x =>
    have : (lst s)[i + k]? = some x := by rw [← h]; simp [lst]
    rw [this]; rfl
theorem decode_lst (s : ByteArray) (i : Nat) : Utf8.decode s i = decL ((lst s).drop i) := by
  have hc : ∀ k, decide (i + k < s.size) = decide (k < ((lst s).drop i).length) := by
    intro k
    rw [List.length_drop, lst_length]
    exact decide_eq_decide.2 (by omega)
  unfold Utf8.decode decL
  simp only [get_lst, hc]
/-- a code point -/
def okC (c : Nat) : Prop := c < 0xD800 ∨ (0xE000 ≤ c ∧ c ≤ 0x10FFFF)
theorem valid_okC {c : Nat} : Utf8.valid (c : Int) = true ↔ okC c := by
  unfold Utf8.valid okC
  simp only [Bool.or_eq_true, Bool.and_eq_true, decide_eq_true_eq]
  omega
/-- its bytes -/
def encN (c : Nat) : List UInt8 :=
  if c < 0x80 then [UInt8.ofNat c]
  else if c < 0x800 then [UInt8.ofNat (0xC0 + c / 64), UInt8.ofNat (0x80 + c % 64)]
  else if c < 0x10000 then [UInt8.ofNat (0xE0 + c / 4096), UInt8.ofNat (0x80 + c / 64 % 64), UInt8.ofNat (0x80 + c % 64)]
  else [UInt8.ofNat (0xF0 + c / 262144), UInt8.ofNat (0x80 + c / 4096 % 64), UInt8.ofNat (0x80 + c / 64 % 64), UInt8.ofNat (0x80 + c % 64)]
theorem encode_eqN (r : Int) : lst (Utf8.encode r) = encN (if Utf8.valid r then r.toNat else Utf8.runeError) := by
  unfold Utf8.encode
  generalize (if Utf8.valid r then r.toNat else Utf8.runeError) = c
  unfold encN
  dsimp only
  (repeat' split) <;> rfl
theorem encode_ok (r : Int) : ∃ c, okC c ∧ lst (Utf8.encode r) = encN c := by
  refine ⟨_, ?_, encode_eqN r⟩
  split
  · rename_i h
    have h0 : ((r.toNat : Nat) : Int) = r := by
      unfold Utf8.valid at h
      simp only [Bool.or_eq_true, Bool.and_eq_true, decide_eq_true_eq] at h
      omega
    rw [← valid_okC, h0]
    exact h
  · unfold okC Utf8.runeError
    omega
theorem encode_of {c : Nat} (h : okC c) : lst (Utf8.encode (c : Int)) = encN c := by
  rw [encode_eqN, if_pos (valid_okC.2 h), Int.toNat_natCast]
theorem ofN {n : Nat} (h : n < 256) : (UInt8.ofNat n).toNat = n := by
  rw [UInt8.toNat_ofNat']
  omega
theorem encN_len (c : Nat) : 1 ≤ (encN c).length ∧ (encN c).length ≤ 4 := by
  unfold encN
  (repeat' split) <;> simp
/-- the decoding of a rune's bytes, whatever follows -/
theorem dec_enc {c : Nat} (h : okC c) (t : List UInt8) : decL (encN c ++ t) = (c, (encN c).length) := by
  have hv := valid_okC.2 h
  unfold okC at h
  unfold encN
  split
  · rename_i h1
    unfold decL
    simp only [List.cons_append, List.nil_append, List.getD_cons_zero, ofN (show c < 256 by omega), if_pos h1]
    rfl
  · rename_i h1
    split
    · rename_i h2
      unfold decL
      simp only [List.cons_append, List.nil_append, List.getD_cons_zero, List.getD_cons_succ, ofN (show 0xC0 + c / 64 < 256 by omega), ofN (show 0x80 + c % 64 < 256 by omega), List.length_cons]
      rw [if_neg (by omega), if_pos (by simp; omega), if_pos (by omega)]
      simp only [List.length_nil, Prod.mk.injEq, and_true]
      omega
    · rename_i h2
      split
      · rename_i h3
        unfold decL
        simp only [List.cons_append, List.nil_append, List.getD_cons_zero, List.getD_cons_succ, ofN (show 0xE0 + c / 4096 < 256 by omega), ofN (show 0x80 + c / 64 % 64 < 256 by omega), ofN (show 0x80 + c % 64 < 256 by omega), List.length_cons]
        have e : (0xE0 + c / 4096) % 16 * 4096 + (0x80 + c / 64 % 64) % 64 * 64 + (0x80 + c % 64) % 64 = c := by omega
        rw [if_neg (by omega), if_neg (by simp; omega), if_pos (by simp; omega), e, if_pos (by rw [hv]; simp; omega)]
        rfl
      · rename_i h3
        unfold decL
        simp only [List.cons_append, List.nil_append, List.getD_cons_zero, List.getD_cons_succ, ofN (show 0xF0 + c / 262144 < 256 by omega), ofN (show 0x80 + c / 4096 % 64 < 256 by omega), ofN (show 0x80 + c / 64 % 64 < 256 by omega), ofN (show 0x80 + c % 64 < 256 by omega), List.length_cons]
        have e : (0xF0 + c / 262144) % 8 * 262144 + (0x80 + c / 4096 % 64) % 64 * 4096 + (0x80 + c / 64 % 64) % 64 * 64 + (0x80 + c % 64) % 64 = c := by omega
        rw [if_neg (by omega), if_neg (by simp; omega), if_neg (by simp; omega), if_pos (by simp; omega), e, if_pos (by rw [hv]; simp; omega)]
        rfl
theorem u8_eq {a : UInt8} {n : Nat} (h : a.toNat = n) : a = UInt8.ofNat n := by
  subst h
  simp
theorem lt256 (a : UInt8) : a.toNat < 256 := a.toNat_lt
theorem list2 {t : List UInt8} (h : 2 ≤ t.length) : ∃ b d u, t = b :: d :: u := by
  match t, h with
  | b :: d :: u, _ => exact ⟨b, d, u, rfl⟩
  | [_], h => simp at h
theorem list3 {t : List UInt8} (h : 3 ≤ t.length) : ∃ b d e u, t = b :: d :: e :: u := by
  match t, h with
  | b :: d :: e :: u, _ => exact ⟨b, d, e, u, rfl⟩
  | [_, _], h => simp at h
  | [_], h => simp at h
set_option maxRecDepth 10000 in
set_option maxHeartbeats 4000000 in
/-- what the decoding of a list that is not empty tells -/
theorem dec_inv (a : UInt8) (t : List UInt8) : (a.toNat < 128 ∧ decL (a :: t) = (a.toNat, 1)) ∨ (128 ≤ a.toNat ∧ decL (a :: t) = (Utf8.runeError, 1)) ∨ ∃ c r, okC c ∧ 128 ≤ c ∧ a :: t = encN c ++ r ∧ decL (a :: t) = (c, (encN c).length) ∧ 2 ≤ (encN c).length := by
  by_cases h : a.toNat < 128
  · left
    refine ⟨h, ?_⟩
    unfold decL
    simp only [List.getD_cons_zero, if_pos h]
  · right
    have fin : ∀ c r, okC c → 128 ≤ c → a :: t = encN c ++ r → ((128 ≤ a.toNat ∧ decL (a :: t) = (Utf8.runeError, 1)) ∨ ∃ c r, okC c ∧ 128 ≤ c ∧ a :: t = encN c ++ r ∧ decL (a :: t) = (c, (encN c).length) ∧ 2 ≤ (encN c).length) := by
      intro c r h1 h2 h3
      refine .inr ⟨c, r, h1, h2, h3, by rw [h3]; exact dec_enc h1 r, ?_⟩
      unfold encN
      rw [if_neg (by omega)]
      (repeat' split) <;> simp
    have ha := lt256 a
    obtain ⟨D, hd0⟩ : ∃ D, decL (a :: t) = D := ⟨_, rfl⟩
    have hd := hd0
    unfold decL at hd
    simp only [List.getD_cons_zero] at hd
    rw [if_neg h] at hd
    split at hd
    · rename_i h1
      simp only [Bool.and_eq_true, beq_iff_eq, decide_eq_true_eq] at h1
      obtain ⟨h1, h2, h3⟩ := h1
      cases t with
      | nil => simp at h2
      | cons b t =>
        have hb := lt256 b
        simp only [List.getD_cons_succ, List.getD_cons_zero] at h3 hd
        split at hd
        · rename_i h4
          exact fin (a.toNat % 32 * 64 + b.toNat % 64) t (by unfold okC; omega) h4 (by
            unfold encN
            rw [if_neg (by omega), if_pos (by omega)]
            simp only [List.cons_append, List.nil_append, List.cons.injEq, and_true]
            exact ⟨u8_eq (by omega), u8_eq (by omega)⟩)
        · left; exact ⟨by omega, hd0.trans hd.symm⟩
    · split at hd
      · rename_i h0 h1
        simp only [Bool.and_eq_true, beq_iff_eq, decide_eq_true_eq] at h1
        obtain ⟨⟨h1, h2, h3⟩, h4, h5⟩ := h1
        obtain ⟨b, d, t, rfl⟩ := list2 (t := t) (by simp at h4; omega)
        · have hb := lt256 b
          have hdd := lt256 d
          simp only [List.getD_cons_succ, List.getD_cons_zero] at h3 h5 hd
          split at hd
          · rename_i h6
            simp only [Bool.and_eq_true, decide_eq_true_eq] at h6
            exact fin (a.toNat % 16 * 4096 + b.toNat % 64 * 64 + d.toNat % 64) t (valid_okC.1 h6.2) (by omega) (by
              unfold encN
              rw [if_neg (by omega), if_neg (by omega), if_pos (by omega)]
              simp only [List.cons_append, List.nil_append, List.cons.injEq, and_true]
              exact ⟨u8_eq (by omega), u8_eq (by omega), u8_eq (by omega)⟩)
          · left; exact ⟨by omega, hd0.trans hd.symm⟩
      · split at hd
        · rename_i h0 h0' h1
          simp only [Bool.and_eq_true, beq_iff_eq, decide_eq_true_eq] at h1
          obtain ⟨⟨⟨h1, h2, h3⟩, h4, h5⟩, h6, h7⟩ := h1
          obtain ⟨b, d, e, t, rfl⟩ := list3 (t := t) (by simp at h6; omega)
          · have hb := lt256 b
            have hdd := lt256 d
            have hee := lt256 e
            simp only [List.getD_cons_succ, List.getD_cons_zero] at h3 h5 h7 hd
            split at hd
            · rename_i h8
              simp only [Bool.and_eq_true, decide_eq_true_eq] at h8
              exact fin (a.toNat % 8 * 262144 + b.toNat % 64 * 4096 + d.toNat % 64 * 64 + e.toNat % 64) t (valid_okC.1 h8.2) (by omega) (by
                unfold encN
                rw [if_neg (by omega), if_neg (by omega), if_neg (by omega)]
                simp only [List.cons_append, List.nil_append, List.cons.injEq, and_true]
                exact ⟨u8_eq (by omega), u8_eq (by omega), u8_eq (by omega), u8_eq (by omega)⟩)
            · left; exact ⟨by omega, hd0.trans hd.symm⟩
        · left; exact ⟨by omega, hd0.trans hd.symm⟩
/-- a byte within a rune -/
def contB (x : UInt8) : Prop := x.toNat / 64 = 2
/-- the first byte of a rune is none within a rune, the others are -/
theorem enc_first {c : Nat} (h : okC c) : ∃ a t, encN c = a :: t ∧ ¬ contB a ∧ ∀ x ∈ t, contB x := by
  unfold okC at h
  unfold contB encN
  split
  · exact ⟨_, _, rfl, by rw [ofN (by omega)]; omega, fun x hx => by cases hx⟩
  · split
    · refine ⟨_, _, rfl, by rw [ofN (by omega)]; omega, fun x hx => ?_⟩
      simp only [List.mem_cons, List.not_mem_nil, or_false] at hx
      subst hx
      rw [ofN (by omega)]; omega
    · split
      · refine ⟨_, _, rfl, by rw [ofN (by omega)]; omega, fun x hx => ?_⟩
        simp only [List.mem_cons, List.not_mem_nil, or_false] at hx
        rcases hx with rfl | rfl <;> (rw [ofN (by omega)]; omega)
      · refine ⟨_, _, rfl, by rw [ofN (by omega)]; omega, fun x hx => ?_⟩
        simp only [List.mem_cons, List.not_mem_nil, or_false] at hx
        rcases hx with rfl | rfl | rfl <;> (rw [ofN (by omega)]; omega)
/-! Beginnings of runes -/
theorem oneB_iff (y : List UInt8) : oneB ⟨y.toArray⟩ = true ↔ y ≠ [] ∧ y.length ≤ (decL y).2 := by
  have hs : (⟨y.toArray⟩ : ByteArray).size = y.length := List.size_toArray
  have hd : Utf8.decode ⟨y.toArray⟩ 0 = decL y := by rw [decode_lst]; rfl
  unfold oneB
  rw [decide_eq_true_eq, hs, hd, List.length_pos_iff]
theorem tryB_iff (x : List UInt8) (k n : Nat) : tryB ⟨x.toArray⟩ k n = oneB ⟨(x ++ Lib.repeatL (lst (fillA k)) (n - x.length)).toArray⟩ := by
  unfold tryB
  have hs : (⟨x.toArray⟩ : ByteArray).size = x.length := List.size_toArray
  rw [hs]
  congr 1
theorem begL_some {x : List UInt8} (hx : x ≠ []) (h : begL x = true) : ∃ c y, okC c ∧ y ≠ [] ∧ encN c = x ++ y := by
  have hs : (⟨x.toArray⟩ : ByteArray).size = x.length := List.size_toArray
  unfold begL begB at h
  rw [List.any_eq_true] at h
  obtain ⟨k, hk, h⟩ := h
  rw [List.any_eq_true] at h
  obtain ⟨n, hn, h⟩ := h
  rw [Bool.and_eq_true, decide_eq_true_eq, hs, tryB_iff, oneB_iff] at h
  obtain ⟨h1, h2, h3⟩ := h
  have hf : (lst (fillA k)).length = 1 := by rw [lst_length, fill_size]
  have hl := Lib.repeatL_length (lst (fillA k)) (n - x.length)
  rw [hf] at hl
  have hl2 : (x ++ Lib.repeatL (lst (fillA k)) (n - x.length)).length = n := by rw [List.length_append, hl]; omega
  have hp : 0 < x.length := List.length_pos_iff.2 hx
  cases hy : x ++ Lib.repeatL (lst (fillA k)) (n - x.length) with
  | nil => exact absurd hy h2
  | cons a t =>
    rw [hy] at h3 hl2
    rcases dec_inv a t with ⟨_, h4⟩ | ⟨_, h4⟩ | ⟨c, r, hc, _, he, h4, _⟩
    · rw [h4] at h3; simp only at h3; omega
    · rw [h4] at h3; simp only at h3; omega
    · rw [h4] at h3
      have h5 := congrArg List.length he
      rw [List.length_append] at h5
      simp only at h3
      have hr : r = [] := List.length_eq_zero_iff.1 (by omega)
      refine ⟨c, Lib.repeatL (lst (fillA k)) (n - x.length), hc, ?_, ?_⟩
      · intro h6
        rw [h6] at hl
        simp at hl
        omega
      · rw [hy, he, hr, List.append_nil]
theorem begL_of {x : List UInt8} {k n : Nat} (hk : k < 2) (h1 : x.length < n) (h2 : n ≤ 4) {c : Nat} (hc : okC c) (h : x ++ Lib.repeatL (lst (fillA k)) (n - x.length) = encN c) : begL x = true := by
  have hs : (⟨x.toArray⟩ : ByteArray).size = x.length := List.size_toArray
  refine begB_true (k := k) (n := n) hk (by rw [hs]; exact h1) h2 ?_
  rw [tryB_iff, h, oneB_iff]
  have := dec_enc hc []
  rw [List.append_nil] at this
  rw [this]
  have := (encN_len c).1
  exact ⟨fun he => by rw [he] at this; simp at this, Nat.le_refl _⟩
theorem encN2 {c : Nat} (h1 : 0x80 ≤ c) (h2 : c < 0x800) : encN c = [UInt8.ofNat (0xC0 + c / 64), UInt8.ofNat (0x80 + c % 64)] := by unfold encN; rw [if_neg (by omega), if_pos h2]
theorem encN3 {c : Nat} (h1 : 0x800 ≤ c) (h2 : c < 0x10000) : encN c = [UInt8.ofNat (0xE0 + c / 4096), UInt8.ofNat (0x80 + c / 64 % 64), UInt8.ofNat (0x80 + c % 64)] := by unfold encN; rw [if_neg (by omega), if_neg (by omega), if_pos h2]
theorem encN4 {c : Nat} (h1 : 0x10000 ≤ c) : encN c = [UInt8.ofNat (0xF0 + c / 262144), UInt8.ofNat (0x80 + c / 4096 % 64), UInt8.ofNat (0x80 + c / 64 % 64), UInt8.ofNat (0x80 + c % 64)] := by unfold encN; rw [if_neg (by omega), if_neg (by omega), if_neg (by omega)]
theorem fill_1 : Lib.repeatL (lst (fillA 0)) 1 = [128] := rfl
theorem fill_2 : Lib.repeatL (lst (fillA 0)) 2 = [128, 128] := rfl
theorem fill_3 : Lib.repeatL (lst (fillA 0)) 3 = [128, 128, 128] := rfl
theorem e128 {n : Nat} (h : n = 128) : (128 : UInt8) = UInt8.ofNat n := by rw [h]; rfl
theorem u8n {m n : Nat} (hm : m = n) : UInt8.ofNat m = UInt8.ofNat n := by rw [hm]
/-- a part of a rune's bytes, from the first one on, is a beginning -/
theorem begL_part {c : Nat} (hc : okC c) {x y : List UInt8} (he : encN c = x ++ y) (hx : x ≠ []) (hy : y ≠ []) : begL x = true := by
  unfold okC at hc
  by_cases c1 : c < 0x80
  · have : encN c = [UInt8.ofNat c] := by unfold encN; rw [if_pos c1]
    rw [this] at he
    have := congrArg List.length he
    have h1 := List.length_pos_iff.2 hx
    have h2 := List.length_pos_iff.2 hy
    simp at this
    omega
  · by_cases c2 : c < 0x800
    · rw [encN2 (by omega) c2] at he
      match x, he, hx with
      | [a], he, _ =>
        simp only [List.cons_append, List.nil_append, List.cons.injEq] at he
        obtain ⟨rfl, rfl⟩ := he
        refine begL_of (k := 0) (n := 2) (c := c / 64 * 64) (by omega) (by simp) (by omega) (by unfold okC; omega) ?_
        rw [encN2 (by omega) (by omega)]
        simp only [List.length_cons, List.length_nil, Nat.reduceAdd, Nat.reduceSub, fill_1, List.cons_append, List.nil_append, List.cons.injEq, and_true]
        exact ⟨u8n (by omega), e128 (by omega)⟩
      | [a, b], he, _ =>
        simp only [List.cons_append, List.nil_append, List.cons.injEq] at he
        exact absurd he.2.2.symm hy
      | a :: b :: d :: t, he, _ => simp at he
    · by_cases c3 : c < 0x10000
      · rw [encN3 (by omega) c3] at he
        match x, he, hx with
        | [a], he, _ =>
          simp only [List.cons_append, List.nil_append, List.cons.injEq] at he
          obtain ⟨rfl, rfl⟩ := he
          by_cases c4 : c / 4096 = 0
          · refine begL_of (k := 1) (n := 3) (c := 4095) (by omega) (by simp) (by omega) (by unfold okC; omega) ?_
            rw [c4]
            rfl
          · refine begL_of (k := 0) (n := 3) (c := c / 4096 * 4096) (by omega) (by simp) (by omega) (by unfold okC; omega) ?_
            rw [encN3 (by omega) (by omega)]
            simp only [List.length_cons, List.length_nil, Nat.reduceAdd, Nat.reduceSub, fill_2, List.cons_append, List.nil_append, List.cons.injEq, and_true]
            exact ⟨u8n (by omega), e128 (by omega), e128 (by omega)⟩
        | [a, b], he, _ =>
          simp only [List.cons_append, List.nil_append, List.cons.injEq] at he
          obtain ⟨rfl, rfl, rfl⟩ := he
          refine begL_of (k := 0) (n := 3) (c := c / 64 * 64) (by omega) (by simp) (by omega) (by unfold okC; omega) ?_
          rw [encN3 (by omega) (by omega)]
          simp only [List.length_cons, List.length_nil, Nat.reduceAdd, Nat.reduceSub, fill_1, List.cons_append, List.nil_append, List.cons.injEq, and_true]
          exact ⟨u8n (by omega), u8n (by omega), e128 (by omega)⟩
        | [a, b, d], he, _ =>
          simp only [List.cons_append, List.nil_append, List.cons.injEq] at he
          exact absurd he.2.2.2.symm hy
        | a :: b :: d :: e :: t, he, _ => simp at he
      · rw [encN4 (by omega)] at he
        match x, he, hx with
        | [a], he, _ =>
          simp only [List.cons_append, List.nil_append, List.cons.injEq] at he
          obtain ⟨rfl, rfl⟩ := he
          by_cases c4 : c / 262144 = 0
          · refine begL_of (k := 1) (n := 4) (c := 262143) (by omega) (by simp) (by omega) (by unfold okC; omega) ?_
            rw [c4]
            rfl
          · refine begL_of (k := 0) (n := 4) (c := c / 262144 * 262144) (by omega) (by simp) (by omega) (by unfold okC; omega) ?_
            rw [encN4 (by omega)]
            simp only [List.length_cons, List.length_nil, Nat.reduceAdd, Nat.reduceSub, fill_3, List.cons_append, List.nil_append, List.cons.injEq, and_true]
            exact ⟨u8n (by omega), e128 (by omega), e128 (by omega), e128 (by omega)⟩
        | [a, b], he, _ =>
          simp only [List.cons_append, List.nil_append, List.cons.injEq] at he
          obtain ⟨rfl, rfl, rfl⟩ := he
          refine begL_of (k := 0) (n := 4) (c := c / 4096 * 4096) (by omega) (by simp) (by omega) (by unfold okC; omega) ?_
          rw [encN4 (by omega)]
          simp only [List.length_cons, List.length_nil, Nat.reduceAdd, Nat.reduceSub, fill_2, List.cons_append, List.nil_append, List.cons.injEq, and_true]
          exact ⟨u8n (by omega), u8n (by omega), e128 (by omega), e128 (by omega)⟩
        | [a, b, d], he, _ =>
          simp only [List.cons_append, List.nil_append, List.cons.injEq] at he
          obtain ⟨rfl, rfl, rfl, rfl⟩ := he
          refine begL_of (k := 0) (n := 4) (c := c / 64 * 64) (by omega) (by simp) (by omega) (by unfold okC; omega) ?_
          rw [encN4 (by omega)]
          simp only [List.length_cons, List.length_nil, Nat.reduceAdd, Nat.reduceSub, fill_1, List.cons_append, List.nil_append, List.cons.injEq, and_true]
          exact ⟨u8n (by omega), u8n (by omega), u8n (by omega), e128 (by omega)⟩
        | [a, b, d, e], he, _ =>
          simp only [List.cons_append, List.nil_append, List.cons.injEq] at he
          exact absurd he.2.2.2.2.symm hy
        | a :: b :: d :: e :: f :: t, he, _ => simp at he
end Go.Proofs.Ytcambbnmeiolgaa
namespace Go.Proofs.Ytcambbnmeiolgaa
open Go.RowKit
/-! Stop strings: none stands in what comes out; where one ended the stream, it stands right behind -/
theorem u8_bI (l : List UInt8) : (bI l).map u8 = l := by
  unfold bI
  rw [List.map_map]
  conv => rhs; rw [← List.map_id l]
  refine List.map_congr_left (fun b _ => ?_)
  show u8 (b.toNat : Int) = b
  unfold u8
  simp
theorem bI_u8s {l : List Int} (h : ∀ x ∈ l, 0 ≤ x ∧ x < 256) : bI (l.map u8) = l := by
  induction l with
  | nil => rfl
  | cons x l ih =>
    have h1 := bI_u8 (h x (by simp))
    have h2 := ih (fun y hy => h y (List.mem_cons_of_mem _ hy))
    simp only [bI, List.map_cons, List.map_nil, List.cons.injEq] at h1 h2 ⊢
    exact ⟨h1.1, h2⟩
theorem sfx_snoc {x t : List UInt8} {b : UInt8} {k : Nat} (hk : k < x.length) (h : x.take (k + 1) <:+ t ++ [b]) : x.take k <:+ t := by
  rw [List.take_succ_eq_append_getElem hk] at h
  obtain ⟨p, hp⟩ := h
  rw [← List.append_assoc] at hp
  obtain ⟨h1, _⟩ := List.append_inj' hp rfl
  exact ⟨p, h1⟩
theorem inf_snoc {x t : List UInt8} {b : UInt8} (h : x <:+: t ++ [b]) : x <:+: t ∨ x <:+ t ++ [b] := by
  obtain ⟨p, q, hq⟩ := h
  rcases List.eq_nil_or_concat q with rfl | ⟨q', c, rfl⟩
  · exact .inr ⟨p, by simpa using hq⟩
  · left
    rw [List.concat_eq_append, ← List.append_assoc] at hq
    obtain ⟨h1, _⟩ := List.append_inj' hq rfl
    exact ⟨p, q', h1⟩
theorem hold1_ge {t s : List UInt8} {h k : Nat} (hs : sfx t (s.take k) = true) : ∀ K, k ≤ K → k ≤ hold1 t s h K := by
  intro K
  induction K with
  | zero => intro hk; omega
  | succ K ih =>
    intro hk
    simp only [hold1]
    split
    · omega
    · split
      · omega
      · rename_i h2
        rcases Nat.lt_or_ge k (K + 1) with h3 | h3
        · exact ih (by omega)
        · obtain rfl : k = K + 1 := by omega
          exact absurd hs h2
theorem holdF_ge (t : List UInt8) : ∀ (sts : List (List UInt8)) (h : Nat), h ≤ sts.foldl (fun h s => hold1 t s h (min (s.length - 1) t.length)) h := by
  intro sts
  induction sts with
  | nil => intro h; exact Nat.le_refl _
  | cons s r ih =>
    intro h
    rw [List.foldl_cons]
    exact Nat.le_trans (hold1_le t s h _).1 (ih _)
theorem holdL_ge {t s : List UInt8} {k : Nat} (hs : sfx t (s.take k) = true) (h1 : k ≤ s.length - 1) (h2 : k ≤ t.length) : ∀ (sts : List (List UInt8)) (h : Nat), s ∈ sts → k ≤ sts.foldl (fun h s => hold1 t s h (min (s.length - 1) t.length)) h := by
  intro sts
  induction sts with
  | nil => intro h hm; cases hm
  | cons x r ih =>
    intro h hm
    rw [List.foldl_cons]
    rcases List.mem_cons.1 hm with rfl | hm
    · exact Nat.le_trans (hold1_ge hs _ (by omega)) (holdF_ge t r _)
    · exact ih _ hm
theorem longF_ge (t : List UInt8) : ∀ (sts : List (List UInt8)) (g : Nat), g ≤ sts.foldl (fun g s => if sfx t s then max g s.length else g) g := by
  intro sts
  induction sts with
  | nil => intro g; exact Nat.le_refl _
  | cons s r ih =>
    intro g
    rw [List.foldl_cons]
    refine Nat.le_trans ?_ (ih _)
    split <;> omega
theorem longest_ge {t s : List UInt8} (hs : sfx t s = true) : ∀ (sts : List (List UInt8)) (g : Nat), s ∈ sts → s.length ≤ sts.foldl (fun g s => if sfx t s then max g s.length else g) g := by
  intro sts
  induction sts with
  | nil => intro g hm; cases hm
  | cons x r ih =>
    intro g hm
    rw [List.foldl_cons]
    rcases List.mem_cons.1 hm with rfl | hm
    · refine Nat.le_trans ?_ (longF_ge t r _)
      rw [if_pos hs]
      omega
    · exact ih _ hm
theorem longest_mem (t : List UInt8) : ∀ (sts : List (List UInt8)) (g : Nat), sts.foldl (fun g s => if sfx t s then max g s.length else g) g = g ∨ ∃ s ∈ sts, sfx t s = true ∧ s.length = sts.foldl (fun g s => if sfx t s then max g s.length else g) g := by
  intro sts
  induction sts with
  | nil => intro g; exact .inl rfl
  | cons x r ih =>
    intro g
    rw [List.foldl_cons]
    rcases ih (if sfx t x then max g x.length else g) with h | ⟨s, hm, h1, h2⟩
    · rw [h]
      split
      · rename_i hx
        rcases Nat.le_total g x.length with hl | hl
        · exact .inr ⟨x, by simp, hx, by omega⟩
        · left; omega
      · exact .inl rfl
    · exact .inr ⟨s, by simp [hm], h1, h2⟩
/-- what holds of a stream that has seen t -/
def StpI (sts : List (List UInt8)) (s : S3) (t : List UInt8) : Prop :=
  ∃ o, s.2.1 = bI o ∧
    (s.2.2 = false → o ++ s.1 = t ∧ (∀ x ∈ sts, ¬ x <:+: t) ∧ (∀ x ∈ sts, ∀ k, k ≤ x.length → x.take k <:+ t → k ≤ s.1.length)) ∧
    (s.2.2 = true → (∃ x ∈ sts, (o ++ x) <+: t) ∧ (∀ x ∈ sts, ¬ x <:+: o))
theorem stpI_zero {sts : List (List UInt8)} (h1 : ∀ x ∈ sts, 1 ≤ x.length) : StpI sts ([], [], false) [] := by
  refine ⟨[], rfl, fun _ => ⟨rfl, fun x hx h => ?_, fun x hx k hk h => ?_⟩, fun h => by cases h⟩
  · have e := h.length_le
    have e1 := h1 x hx
    rw [List.length_nil] at e
    omega
  · have e := h.length_le
    have e1 := h1 x hx
    rw [List.length_take, List.length_nil] at e
    dsimp only
    rw [List.length_nil]
    omega
theorem stpI_step {sts : List (List UInt8)} (h1 : ∀ x ∈ sts, 1 ≤ x.length) {s : S3} {t : List UInt8} (b : UInt8) (h : StpI sts s t) : StpI sts (stepU sts s b) (t ++ [b]) := by
  obtain ⟨o, ho, hF, hT⟩ := h
  cases h0 : s.2.2 with
  | true =>
    rw [stepU_over sts s b h0]
    obtain ⟨⟨x, hx, hp⟩, hn⟩ := hT h0
    exact ⟨o, ho, fun h => (by rw [h0] at h; cases h), fun _ => ⟨⟨x, hx, hp.trans (List.prefix_append _ _)⟩, hn⟩⟩
  | false =>
    obtain ⟨e, hno, hk⟩ := hF h0
    unfold stepU
    rw [if_neg (by rw [h0]; simp)]
    obtain ⟨tl, htl⟩ : ∃ tl, s.1 ++ [b] = tl := ⟨_, rfl⟩
    have e' : o ++ tl = t ++ [b] := by rw [← htl, ← List.append_assoc, e]
    have hlen : tl.length = s.1.length + 1 := by rw [← htl]; simp
    rw [htl]
    have hll := longest_le tl sts
    have hsub : ∀ {y : List UInt8} {m : Nat}, y <:+ t ++ [b] → y.length ≤ m → m ≤ tl.length → y <:+ tl := by
      intro y m hy h1 h2
      refine List.suffix_of_suffix_length_le hy ⟨o, e'⟩ (by omega)
    split
    · rename_i hg
      refine ⟨o ++ tl.take (tl.length - longest sts tl), by dsimp only; rw [ho, bI_append], fun h => (by cases h), fun _ => ?_⟩
      rcases longest_mem tl sts 0 with h | ⟨x, hx, hs, hxl⟩
      · exact absurd h (by unfold longest at hg; omega)
      · have hxl' : x.length = longest sts tl := hxl
        have hxe : x = tl.drop (tl.length - longest sts tl) := by
          have := List.suffix_iff_eq_drop.1 (sfx_iff.1 hs)
          rw [hxl'] at this
          exact this
        have hte : (o ++ tl.take (tl.length - longest sts tl)) ++ x = t ++ [b] := by
          rw [hxe, List.append_assoc, List.take_append_drop, e']
        refine ⟨⟨x, hx, by rw [hte]; exact List.prefix_refl _⟩, fun y hy hin => hno y hy ?_⟩
        refine List.IsInfix.trans hin ?_
        have hpre : (o ++ tl.take (tl.length - longest sts tl)) <+: t := by
          refine List.prefix_of_prefix_length_le (l₃ := t ++ [b]) ⟨x, hte⟩ (List.prefix_append _ _) ?_
          have := congrArg List.length hte
          rw [List.length_append, List.length_append (bs := [b])] at this
          have h3 := h1 x hx
          simp only [List.length_cons, List.length_nil] at this
          omega
        exact hpre.isInfix
    · rename_i hg
      have hnos : ∀ x ∈ sts, ¬ x <:+ t ++ [b] := by
        intro x hx hs
        have h2 := h1 x hx
        obtain ⟨m, hm⟩ : ∃ m, x.length = m + 1 := ⟨x.length - 1, by omega⟩
        have h3 : x.take m <:+ t := sfx_snoc (b := b) (by omega) (by rw [← hm, List.take_length]; exact hs)
        have h4 := hk x hx m (by omega) h3
        have h5 : sfx tl x = true := sfx_iff.2 (hsub hs (Nat.le_refl _) (by omega))
        have h6 := longest_ge h5 sts 0 hx
        unfold longest at hg
        omega
      have hw := waitsL_le sts tl
      refine ⟨o ++ tl.take (tl.length - waitsL sts tl), by dsimp only; rw [ho, bI_append], fun _ => ⟨?_, ?_, ?_⟩, fun h => (by cases h)⟩
      · dsimp only
        rw [List.append_assoc, List.take_append_drop, e']
      · intro x hx hin
        rcases inf_snoc hin with h | h
        · exact hno x hx h
        · exact hnos x hx h
      · intro x hx k hkx hs
        dsimp only
        rw [List.length_drop]
        rcases Nat.eq_zero_or_pos k with rfl | hpos
        · omega
        · rcases Nat.lt_or_ge k x.length with hlt | hge
          · obtain ⟨m, rfl⟩ : ∃ m, k = m + 1 := ⟨k - 1, by omega⟩
            have h4 := hk x hx m (by omega) (sfx_snoc (by omega) hs)
            have h5 : sfx tl (x.take (m + 1)) = true := sfx_iff.2 (hsub hs (by rw [List.length_take]; exact Nat.min_le_left _ _) (by omega))
            have h6 : m + 1 ≤ holdL sts tl := holdL_ge h5 (by omega) (by omega) sts 0 hx
            unfold waitsL at hw ⊢
            omega
          · exact absurd (by rwa [List.take_of_length_le hge] at hs) (hnos x hx)
theorem stpI_bytes {sts : List (List UInt8)} (h1 : ∀ x ∈ sts, 1 ≤ x.length) (l : List Int) : ∀ (s : S3) (t : List UInt8), StpI sts s t → StpI sts (bytesU sts s l) (t ++ l.map u8) := by
  induction l with
  | nil => intro s t h; simpa [bytesU] using h
  | cons x l ih =>
    intro s t h
    have := ih _ _ (stpI_step h1 (u8 x) h)
    rw [List.append_assoc] at this
    exact this
theorem stpI_feed {sts : List (List UInt8)} (h1 : ∀ x ∈ sts, 1 ≤ x.length) (wds : List (List Int)) (l : List Int) : ∀ (s : S3) (t : List UInt8), (∀ x ∈ l, 1 ≤ x) → StpI sts s t → StpI sts (feedU sts wds s l) (t ++ (cameU wds l).map u8) := by
  induction l with
  | nil => intro s t _ h; simpa [feedU, cameU] using h
  | cons k l ih =>
    intro s t hk h
    have hk1 := hk k (by simp)
    have et : tokU sts wds s k.toNat = bytesU sts s (wds.getD k.toNat []) := by unfold tokU; rw [if_neg (by omega)]
    have := ih (tokU sts wds s k.toNat) _ (fun y hy => hk y (List.mem_cons_of_mem _ hy)) (by rw [et]; exact stpI_bytes h1 (wds.getD k.toNat []) s t h)
    have e : cameU wds (k :: l) = wds.getD k.toNat [] ++ cameU wds l := by simp [cameU]
    rw [e, List.map_append, ← List.append_assoc]
    exact this
theorem came_byte {wds : List (List Int)} (hw : ∀ l ∈ wds, l.length ≤ 16 ∧ ∀ x ∈ l, 0 ≤ x ∧ x < 256) (l : List Int) : ∀ x ∈ cameU wds l, 0 ≤ x ∧ x < 256 := by
  intro x hx
  unfold cameU at hx
  obtain ⟨y, hy, hxy⟩ := List.mem_flatten.1 hx
  obtain ⟨k, _, rfl⟩ := List.mem_map.1 hy
  exact word_u8 hw _ x hxy
/-- what came out in all, of tokens none of which is the end -/
def allOut (sts : List (List UInt8)) (wds : List (List Int)) (l : List Int) : List Int := (feedU sts wds ([], [], false) l).2.1 ++ (if (feedU sts wds ([], [], false) l).2.2 then [] else bI (feedU sts wds ([], [], false) l).1)
theorem stops_open {sts : List (List UInt8)} (h1 : ∀ x ∈ sts, 1 ≤ x.length) {wds : List (List Int)} (hw : ∀ l ∈ wds, l.length ≤ 16 ∧ ∀ x ∈ l, 0 ≤ x ∧ x < 256) (l : List Int) (hl : ∀ x ∈ l, 1 ≤ x) (h : (feedU sts wds ([], [], false) l).2.2 = false) :
    allOut sts wds l = cameU wds l ∧ ∀ x ∈ sts, ¬ x <:+: (cameU wds l).map u8 := by
  obtain ⟨o, ho, hF, _⟩ := stpI_feed h1 wds l _ _ hl (stpI_zero h1)
  obtain ⟨e, hno, _⟩ := hF h
  unfold allOut
  rw [List.nil_append] at e hno
  refine ⟨?_, hno⟩
  rw [h, if_neg (by simp), ho, ← bI_append, e, bI_u8s (came_byte hw l)]
theorem stops_over {sts : List (List UInt8)} (h1 : ∀ x ∈ sts, 1 ≤ x.length) {wds : List (List Int)} (hw : ∀ l ∈ wds, l.length ≤ 16 ∧ ∀ x ∈ l, 0 ≤ x ∧ x < 256) (l : List Int) (hl : ∀ x ∈ l, 1 ≤ x) (h : (feedU sts wds ([], [], false) l).2.2 = true) :
    (∃ x ∈ sts, allOut sts wds l ++ bI x <+: cameU wds l) ∧ ∀ x ∈ sts, ¬ x <:+: (allOut sts wds l).map u8 := by
  obtain ⟨o, ho, _, hT⟩ := stpI_feed h1 wds l _ _ hl (stpI_zero h1)
  obtain ⟨⟨x, hx, hp⟩, hno⟩ := hT h
  have e : allOut sts wds l = bI o := by unfold allOut; rw [h, if_pos rfl, ho, List.append_nil]
  rw [List.nil_append] at hp
  refine ⟨⟨x, hx, ?_⟩, fun y hy => ?_⟩
  · rw [e, ← bI_append, ← bI_u8s (came_byte hw l)]
    obtain ⟨q, hq⟩ := hp
    exact ⟨bI q, by rw [← bI_append, hq]⟩
  · rw [e, u8_bI]; exact hno y hy
end Go.Proofs.Ytcambbnmeiolgaa
namespace Go.Proofs.Ytcambbnmeiolgaa
open Go.RowKit
/-! Whole runes in, whole runes out -/
def Whole (l : List UInt8) : Prop := ∃ cs : List Nat, (∀ c ∈ cs, okC c) ∧ l = (cs.map encN).flatten
theorem whole_nil : Whole [] := ⟨[], by simp, rfl⟩
theorem whole_cons {c : Nat} (hc : okC c) {l : List UInt8} (h : Whole l) : Whole (encN c ++ l) := by
  obtain ⟨cs, h1, rfl⟩ := h
  exact ⟨c :: cs, by simpa using ⟨hc, h1⟩, by simp⟩
theorem whole_enc {c : Nat} (hc : okC c) : Whole (encN c) := by
  have := whole_cons hc whole_nil
  rwa [List.append_nil] at this
theorem Whole.append {a b : List UInt8} (h : Whole a) (h' : Whole b) : Whole (a ++ b) := by
  obtain ⟨cs, h1, rfl⟩ := h
  obtain ⟨ds, h2, rfl⟩ := h'
  refine ⟨cs ++ ds, fun c hc => ?_, by simp⟩
  rcases List.mem_append.1 hc with h | h
  · exact h1 c h
  · exact h2 c h
theorem whole_cut (cs : List Nat) : ∀ (x y : List UInt8), (∀ c ∈ cs, okC c) → (cs.map encN).flatten = x ++ y → (Whole x ∧ Whole y) ∨ ∃ w p q c r, x = w ++ p ∧ okC c ∧ encN c = p ++ q ∧ p ≠ [] ∧ q ≠ [] ∧ y = q ++ r := by
  induction cs with
  | nil =>
    intro x y _ h
    obtain ⟨rfl, rfl⟩ := List.append_eq_nil_iff.1 h.symm
    exact .inl ⟨whole_nil, whole_nil⟩
  | cons c cs ih =>
    intro x y hk h
    have hc := hk c (by simp)
    have hk' : ∀ d ∈ cs, okC d := fun d hd => hk d (by simp [hd])
    rw [List.map_cons, List.flatten_cons] at h
    rcases List.append_eq_append_iff.1 h with ⟨a, h1, h2⟩ | ⟨a, h1, h2⟩
    · rcases ih a y hk' h2 with ⟨h3, h4⟩ | ⟨w, p, q, d, r, h3, h4, h5, h6, h7, h8⟩
      · exact .inl ⟨by rw [h1]; exact whole_cons hc h3, h4⟩
      · exact .inr ⟨encN c ++ w, p, q, d, r, by rw [h1, h3, List.append_assoc], h4, h5, h6, h7, h8⟩
    · have hr : Whole (cs.map encN).flatten := ⟨cs, hk', rfl⟩
      by_cases hx : x = []
      · subst hx
        rw [List.nil_append] at h1
        exact .inl ⟨whole_nil, by rw [h2, ← h1]; exact whole_cons hc hr⟩
      · by_cases ha : a = []
        · subst ha
          rw [List.append_nil] at h1
          rw [List.nil_append] at h2
          exact .inl ⟨by rw [← h1]; exact whole_enc hc, by rw [h2]; exact hr⟩
        · exact .inr ⟨[], x, a, c, _, rfl, hc, h1, hx, ha, h2⟩
theorem part_cont {c : Nat} (hc : okC c) {p q : List UInt8} (h : encN c = p ++ q) (hp : p ≠ []) : ∀ x ∈ q, contB x := by
  obtain ⟨a, t, he, _, ht⟩ := enc_first hc
  intro x hx
  cases p with
  | nil => exact absurd rfl hp
  | cons b p =>
    rw [h] at he
    simp only [List.cons_append, List.cons.injEq] at he
    exact ht x (by rw [← he.2]; simp [hx])
theorem part_first {c : Nat} (hc : okC c) {a : UInt8} {p q : List UInt8} (h : encN c = (a :: p) ++ q) : ¬ contB a := by
  obtain ⟨b, t, he, hb, _⟩ := enc_first hc
  rw [h] at he
  simp only [List.cons_append, List.cons.injEq] at he
  rw [he.1]
  exact hb
theorem whole_first {a : UInt8} {t : List UInt8} (h : Whole (a :: t)) : ¬ contB a := by
  obtain ⟨cs, hk, he⟩ := h
  cases cs with
  | nil => cases he
  | cons c cs =>
    obtain ⟨b, u, h1, h2, _⟩ := enc_first (hk c (by simp))
    rw [List.map_cons, List.flatten_cons, h1] at he
    simp only [List.cons_append, List.cons.injEq] at he
    rw [he.1]
    exact h2
theorem whole_split {x y : List UInt8} (h : Whole (x ++ y)) (hy : ∀ a t, y = a :: t → ¬ contB a) : Whole x ∧ Whole y := by
  obtain ⟨cs, hk, he⟩ := h
  rcases whole_cut cs x y hk he.symm with h | ⟨w, p, q, c, r, h3, h4, h5, h6, h7, h8⟩
  · exact h
  · cases q with
    | nil => exact absurd rfl h7
    | cons b q => exact absurd (part_cont h4 h5 h6 b (by simp)) (hy b (q ++ r) h8)
theorem whole_rest (cs : List Nat) : ∀ y, (∀ c ∈ cs, okC c) → Whole ((cs.map encN).flatten ++ y) → Whole y := by
  induction cs with
  | nil => intro y _ h; exact h
  | cons c cs ih =>
    intro y hk h
    rw [List.map_cons, List.flatten_cons, List.append_assoc] at h
    obtain ⟨ds, hd, he⟩ := h
    have hc := hk c (by simp)
    refine ih y (fun d hd => hk d (by simp [hd])) ?_
    cases ds with
    | nil =>
      have := congrArg List.length he
      have h1 := (encN_len c).1
      rw [List.length_append] at this
      simp only [List.map_nil, List.flatten_nil, List.length_nil] at this
      omega
    | cons d ds =>
      rw [List.map_cons, List.flatten_cons] at he
      have h1 := congrArg decL he
      rw [dec_enc hc, dec_enc (hd d (by simp))] at h1
      injection h1 with h1 _
      subst h1
      exact ⟨ds, fun e he => hd e (by simp [he]), List.append_cancel_left he⟩
theorem tailR_pos (a : List UInt8) : ∀ R, 0 < tailR a R → begL (a.drop (a.length - tailR a R)) = true := by
  intro R
  induction R with
  | zero => intro h; simp [tailR] at h
  | succ R ih =>
    simp only [tailR]
    split
    · rename_i h; intro _; exact h
    · exact ih
theorem tailR_zero (a : List UInt8) : ∀ R, tailR a R = 0 → ∀ k, 0 < k → k ≤ R → begL (a.drop (a.length - k)) = false := by
  intro R
  induction R with
  | zero => intro _ k h1 h2; omega
  | succ R ih =>
    simp only [tailR]
    split
    · intro h; omega
    · rename_i hn
      intro h k h1 h2
      rcases Nat.lt_or_ge k (R + 1) with h3 | h3
      · exact ih h k h1 (by omega)
      · obtain rfl : k = R + 1 := by omega
        simpa using hn
theorem hold1_mem (t s : List UInt8) (h : Nat) : ∀ K, hold1 t s h K = h ∨ (sfx t (s.take (hold1 t s h K)) = true ∧ hold1 t s h K ≤ K) := by
  intro K
  induction K with
  | zero => exact .inl rfl
  | succ K ih =>
    simp only [hold1]
    split
    · exact .inl rfl
    · split
      · rename_i h2; exact .inr ⟨h2, Nat.le_refl _⟩
      · rcases ih with h | ⟨h3, h4⟩
        · exact .inl h
        · exact .inr ⟨h3, by omega⟩
theorem holdF_mem (t : List UInt8) : ∀ (sts : List (List UInt8)) (h : Nat), sts.foldl (fun h s => hold1 t s h (min (s.length - 1) t.length)) h = h ∨ ∃ s ∈ sts, sfx t (s.take (sts.foldl (fun h s => hold1 t s h (min (s.length - 1) t.length)) h)) = true ∧ sts.foldl (fun h s => hold1 t s h (min (s.length - 1) t.length)) h ≤ s.length - 1 := by
  intro sts
  induction sts with
  | nil => intro h; exact .inl rfl
  | cons x r ih =>
    intro h
    rw [List.foldl_cons]
    rcases ih (hold1 t x h (min (x.length - 1) t.length)) with h1 | ⟨s, hm, h1, h2⟩
    · rw [h1]
      rcases hold1_mem t x h (min (x.length - 1) t.length) with h2 | ⟨h2, h3⟩
      · exact .inl h2
      · exact .inr ⟨x, by simp, h2, by omega⟩
    · exact .inr ⟨s, by simp [hm], h1, h2⟩
theorem sfx_drop {t s : List UInt8} (h : sfx t s = true) : s = t.drop (t.length - s.length) := List.suffix_iff_eq_drop.1 (sfx_iff.1 h)
/-- what waits begins where a rune begins -/
theorem keep_whole {sts : List (List UInt8)} (hw : ∀ s ∈ sts, Whole s) {tl f : List UInt8} (h : Whole (tl ++ f)) : Whole (tl.take (tl.length - waitsL sts tl)) ∧ Whole (tl.drop (tl.length - waitsL sts tl) ++ f) := by
  have h' := h
  rw [← List.take_append_drop (tl.length - waitsL sts tl) tl, List.append_assoc] at h'
  have hle := waitsL_le sts tl
  obtain ⟨hh, hhe⟩ : ∃ hh, holdL sts tl = hh := ⟨_, rfl⟩
  have hhl := holdL_le tl sts
  obtain ⟨r, hre⟩ : ∃ r, tailR (tl.take (tl.length - holdL sts tl)) (min 3 (tl.length - holdL sts tl)) = r := ⟨_, rfl⟩
  have hrl := tailR_le (tl.take (tl.length - holdL sts tl)) (min 3 (tl.length - holdL sts tl))
  have hwe : waitsL sts tl = hh + r := by unfold waitsL; rw [hre, hhe]
  have hal : (tl.take (tl.length - holdL sts tl)).length = tl.length - hh := by rw [List.length_take, hhe]; omega
  rw [hre] at hrl
  rw [hhe] at hhl
  by_cases hr0 : 0 < r
  · refine whole_split h' (fun a t he => ?_)
    have h1 := tailR_pos _ _ (by rw [hre]; exact hr0)
    rw [hre, hal, hhe] at h1
    obtain ⟨y, hy⟩ : ∃ y, (tl.take (tl.length - hh)).drop (tl.length - hh - r) = y := ⟨_, rfl⟩
    have hye : tl.drop (tl.length - waitsL sts tl) = y ++ tl.drop (tl.length - hh) := by
      rw [hwe, ← hy, List.drop_take, show tl.length - hh - (tl.length - hh - r) = r by omega, show tl.length - hh - r = tl.length - (hh + r) by omega]
      have e := (List.take_append_drop r (tl.drop (tl.length - (hh + r)))).symm
      rw [List.drop_drop, show tl.length - (hh + r) + r = tl.length - hh by omega] at e
      exact e
    have hyl : y.length = r := by rw [← hy, List.length_drop, List.length_take]; omega
    rw [hy] at h1
    cases y with
    | nil => simp at hyl; omega
    | cons b y =>
      obtain ⟨c, z, hc, _, hz⟩ := begL_some (by simp) h1
      rw [hye] at he
      simp only [List.cons_append, List.cons.injEq] at he
      rw [← he.1]
      exact part_first hc hz
  · obtain rfl : r = 0 := by omega
    by_cases hh0 : 0 < hh
    · refine whole_split h' (fun a t he => ?_)
      rcases holdF_mem tl sts 0 with h1 | ⟨s, hs, h1, h2⟩
      · have : hh = 0 := by rw [← hhe]; exact h1
        omega
      · have h3 : sfx tl (s.take hh) = true := by rw [← hhe]; exact h1
        have h4 : hh ≤ s.length - 1 := by rw [← hhe]; exact h2
        have h5 := sfx_drop h3
        rw [List.length_take, show min hh s.length = hh by omega] at h5
        rw [hwe, Nat.add_zero, ← h5] at he
        cases s with
        | nil => simp at h4; omega
        | cons b s =>
          obtain ⟨m, rfl⟩ : ∃ m, hh = m + 1 := ⟨hh - 1, by omega⟩
          rw [List.take_succ_cons] at he
          simp only [List.cons_append, List.cons.injEq] at he
          rw [← he.1]
          exact whole_first (hw _ hs)
    · obtain rfl : hh = 0 := by omega
      rw [hwe, Nat.add_zero, Nat.sub_zero, List.take_length, List.drop_length, List.nil_append] at h' ⊢
      obtain ⟨cs, hk, he⟩ := h'
      rcases whole_cut cs tl f hk he.symm with h | ⟨w, p, q, c, r, h3, h4, h5, h6, h7, h8⟩
      · exact h
      · exfalso
        rw [hhe, Nat.sub_zero, List.take_length] at hre
        have hpl := List.length_pos_iff.2 h6
        have hql := List.length_pos_iff.2 h7
        have hcl := (encN_len c).2
        rw [h5, List.length_append] at hcl
        have h9 := tailR_zero _ _ hre p.length hpl (by rw [h3, List.length_append]; omega)
        have h10 : tl.drop (tl.length - p.length) = p := by
          rw [h3, List.length_append, Nat.add_sub_cancel, List.drop_left]
        rw [h10, begL_part h4 h5 h6 h7] at h9
        cases h9
/-- what holds of a stream ahead of further bytes -/
def RunI (s : S3) (f : List UInt8) : Prop := ∃ o, s.2.1 = bI o ∧ Whole o ∧ (s.2.2 = false → Whole (s.1 ++ f))
theorem runI_step {sts : List (List UInt8)} (hw : ∀ s ∈ sts, Whole s) {s : S3} {b : UInt8} {f : List UInt8} (h : RunI s (b :: f)) : RunI (stepU sts s b) f := by
  obtain ⟨o, ho, hwo, hF⟩ := h
  cases h0 : s.2.2 with
  | true =>
    rw [stepU_over sts s b h0]
    exact ⟨o, ho, hwo, fun h => (by rw [h0] at h; cases h)⟩
  | false =>
    have hz := hF h0
    unfold stepU
    rw [if_neg (by rw [h0]; simp)]
    obtain ⟨tl, htl⟩ : ∃ tl, s.1 ++ [b] = tl := ⟨_, rfl⟩
    rw [show s.1 ++ b :: f = tl ++ f by rw [← htl]; simp] at hz
    rw [htl]
    split
    · rename_i hg
      have hll := longest_le tl sts
      have hsp : Whole (tl.take (tl.length - longest sts tl)) := by
        rcases longest_mem tl sts 0 with h | ⟨x, hx, hs, hxl⟩
        · exact absurd h (by unfold longest at hg; omega)
        · have hxl' : x.length = longest sts tl := hxl
          have hxe := sfx_drop hs
          rw [hxl'] at hxe
          rw [← List.take_append_drop (tl.length - longest sts tl) tl, List.append_assoc, ← hxe] at hz
          refine (whole_split hz (fun a t he => ?_)).1
          cases x with
          | nil => simp at hxl'; omega
          | cons c x =>
            simp only [List.cons_append, List.cons.injEq] at he
            rw [← he.1]
            exact whole_first (hw _ hx)
      exact ⟨o ++ tl.take (tl.length - longest sts tl), by dsimp only; rw [ho, bI_append], hwo.append hsp, fun h => by cases h⟩
    · have hk := keep_whole hw hz
      exact ⟨o ++ tl.take (tl.length - waitsL sts tl), by dsimp only; rw [ho, bI_append], hwo.append hk.1, fun _ => hk.2⟩
theorem runI_bytes {sts : List (List UInt8)} (hw : ∀ s ∈ sts, Whole s) (l : List Int) : ∀ (s : S3) (f : List UInt8), RunI s (l.map u8 ++ f) → RunI (bytesU sts s l) f := by
  induction l with
  | nil => intro s f h; exact h
  | cons x l ih =>
    intro s f h
    exact ih _ f (runI_step hw h)
theorem runI_feed {sts : List (List UInt8)} (hw : ∀ s ∈ sts, Whole s) (wds : List (List Int)) (l : List Int) : ∀ (s : S3) (f : List UInt8), (∀ x ∈ l, 1 ≤ x) → RunI s ((cameU wds l).map u8 ++ f) → RunI (feedU sts wds s l) f := by
  induction l with
  | nil => intro s f _ h; exact h
  | cons k l ih =>
    intro s f hk h
    have hk1 := hk k (by simp)
    have et : tokU sts wds s k.toNat = bytesU sts s (wds.getD k.toNat []) := by unfold tokU; rw [if_neg (by omega)]
    have e : cameU wds (k :: l) = wds.getD k.toNat [] ++ cameU wds l := by simp [cameU]
    rw [e, List.map_append, List.append_assoc] at h
    have := ih (tokU sts wds s k.toNat) f (fun y hy => hk y (List.mem_cons_of_mem _ hy)) (by rw [et]; exact runI_bytes hw (wds.getD k.toNat []) s _ h)
    exact this
end Go.Proofs.Ytcambbnmeiolgaa
namespace Go.Proofs.Ytcambbnmeiolgaa
open Go.RowKit
def toU (l : List Int) : List UInt8 := l.map u8
theorem toU_length (l : List Int) : (toU l).length = l.length := List.length_map _
/-- does one of the texts stand in the bytes? -/
def hasL (bs : List Int) (sts : List (List UInt8)) : Bool := sts.any fun s => decide (s <:+: toU bs)
theorem hasL_true {bs : List Int} {sts : List (List UInt8)} {s : List UInt8} (h : s ∈ sts) (hi : s <:+: toU bs) : hasL bs sts = true := by
  unfold hasL
  rw [List.any_eq_true]
  exact ⟨s, h, decide_eq_true hi⟩
theorem hasL_false {bs : List Int} {sts : List (List UInt8)} (h : ∀ s ∈ sts, ¬ s <:+: toU bs) : hasL bs sts = false := by
  unfold hasL
  rw [List.any_eq_false]
  intro s hs
  rw [decide_eq_false (h s hs)]
  decide
theorem inf_at {s L : List UInt8} {j : Nat} (h : (L.drop j).take s.length = s) : s <:+: L := by
  refine ⟨L.take j, (L.drop j).drop s.length, ?_⟩
  have h1 := List.take_append_drop s.length (L.drop j)
  rw [h] at h1
  rw [List.append_assoc, h1, List.take_append_drop]
theorem inf_none {s L : List UInt8} (h : ∀ j, j + s.length ≤ L.length → (L.drop j).take s.length ≠ s) : ¬ s <:+: L := by
  rintro ⟨p, q, hq⟩
  refine h p.length (by rw [← hq, List.length_append, List.length_append]; omega) ?_
  rw [← hq, List.append_assoc, List.drop_left, List.take_left]
theorem rd_cut {w : World} {b o : Nat} {l : List Int} (h : Rd w (some ⟨b, o, none⟩) (B8 l)) (a n : Nat) (hle : a + n ≤ l.length) : Rd w (some ⟨b, o + a, none⟩) (B8 ((l.drop a).take n)) := by
  rcases h with h | ⟨b', o', e, h⟩
  · refine .inl ?_
    have : l = [] := by simpa [B8] using h
    subst this
    simp [B8]
  · injection e with e
    injection e with e1 e2
    subst e1 e2
    refine .inr ⟨b, o + a, rfl, fun i hi => ?_⟩
    have hi2 : i < n := by simp [B8] at hi; omega
    have := h (a + i) (by simp [B8]; omega)
    rw [show o + a + i = o + (a + i) by omega, this]
    simp [B8, hi2]
theorem str_ne {a b : ByteArray} (h : ¬ a = b) : (a.toList == b.toList) = false := by
  rw [beq_eq_false_iff_ne, ByteArray.toList_eq, ByteArray.toList_eq]
  intro he
  exact h (by rw [← mk_lst a, ← mk_lst b]; show (⟨(lst a).toArray⟩ : ByteArray) = ⟨(lst b).toArray⟩; rw [show lst a = lst b from he])
theorem cut_u8 (l : List Int) (a n : Nat) : toU ((l.drop a).take n) = ((toU l).drop a).take n := by unfold toU; rw [List.map_take, List.map_drop]

set_option maxRecDepth 100000 in
set_option maxHeartbeats 2000000 in
/-- has -/
theorem has_any (B S : Option Addr) (bn bc sn sc : Nat) (bs : List Int) (strs : List ByteArray) (w : World) (hb : bs.length = bn) (hbc : bn ≤ bc) (rB : Rd w B (B8 bs)) (hbn : bn ≤ 1099511627776) (hS : strs.length = sn) (rS : Rd w S (strs.map Value.string)) (hsn : sn ≤ 140737488355328) (h16 : ∀ s ∈ strs, 1 ≤ s.size ∧ s.size ≤ 16) :
    Calls Try.prog 27 #[.slice B bn bc, .slice S sn sc] w fun e w' => e = .returned (.bool (hasL bs (strs.map lst))) ∧ Below w.heap.size w w' := by
  have RB := Lib.hid rB
  have RS := Lib.hid rS
  clear rB rS
  go_enter Try.func27, Try.ntmps27
  go_wp2
  go_loopw [5, 6] (fun i _ wr => ∃ a : Nat, a ≤ sn ∧ i = .int .i64 (a : Int) ∧ (∀ s ∈ (strs.map lst).take a, ¬ s <:+: toU bs) ∧ Below w.heap.size w wr) (fun i _ _ => sn - (intOf i).toNat)
  case atStart => exact ⟨0, by omega, rfl, by simp, Below.refl _ _⟩
  case round =>
    obtain ⟨a, ha, rfl, hno, hbl⟩ := hrel
    have NO := Lib.hid hno
    clear hno
    by_cases hlt : a < sn
    · have g1 : (a : Int) < (sn : Int) := by omega
      obtain ⟨hst1, hst⟩ := h16 strs[a] (List.getElem_mem _)
      have ME := Lib.hid (show lst strs[a] ∈ strs.map lst from List.mem_map.2 ⟨_, List.getElem_mem _, rfl⟩)
      have TK := Lib.hid (show (strs.map lst).take (a + 1) = (strs.map lst).take a ++ [lst strs[a]] by rw [List.take_succ_eq_append_getElem (by rw [List.length_map]; omega), List.getElem_map])
      have AT := Lib.hid (fun (w' : World) (h : Below w.heap.size w w') => (RS.out.below h).at a (by rw [List.length_map]; omega))
      have E := Lib.hid (List.getElem_map lst (l := strs) (i := a) (h := by rw [List.length_map]; omega))
      have CE := Lib.hid (show (strs.map Value.string)[a]'(by rw [List.length_map]; omega) = .string strs[a] by rw [List.getElem_map])
      generalize strs[a] = st at *
      go_wp2
      go_loopw [6] (fun k wr => ∃ j : Nat, j ≤ bn + 1 ∧ k = .int .i64 (j : Int) ∧ (∀ j' < j, ((toU bs).drop j').take st.size ≠ lst st) ∧ Below w.heap.size w wr) (fun k _ => bn + 1 - (intOf k).toNat)
      case atStart => exact ⟨0, by omega, rfl, fun j' h => by omega, hbl⟩
      case round =>
        clear hbl
        obtain ⟨j, hj, rfl, hne, hbl⟩ := hrel
        have NE := Lib.hid hne
        clear hne
        obtain ⟨sb, so, rfl, y0⟩ := AT.out _ hbl
        rw [CE.out] at y0
        have ea := addr_add sb so a
        by_cases hle : j + st.size ≤ bn
        · have g2 : (j : Int) + (st.size : Int) ≤ (bn : Int) := by omega
          obtain ⟨bb, bo, rfl⟩ : ∃ bb bo, B = some ⟨bb, bo, none⟩ := by
            rcases RB.out with h | ⟨b', o', e, _⟩
            · have : bs = [] := by simpa [B8] using h
              subst this
              simp at hb
              omega
            · exact ⟨b', o', e⟩
          obtain ⟨str, hstr⟩ : ∃ str : ByteArray, str = ⟨(toU ((bs.drop j).take st.size)).toArray⟩ := ⟨_, rfl⟩
          have hl : lst str = ((toU bs).drop j).take st.size := by rw [hstr, ← cut_u8]
          have hcv : ∀ c q, (convert 34 9 (.slice (some ⟨bb, bo + j, none⟩) st.size c)).run Try.prog (wr.drewN q) = .ok (.string str) (wr.drewN q) := by
            intro c q
            rw [hstr]
            exact conv_run _ _ _ _ _ (by rw [List.length_take, List.length_drop]; omega) (rd_cut (RB.out.below (bdraw hbl q)) j st.size (by omega))
          have ea2 := addr_add bb bo j
          have g3 : (j : Int) + (st.size : Int) ≤ (bc : Int) := by omega
          have g4 : (j : Int) ≤ (j : Int) + (st.size : Int) := by omega
          have g5 : j + st.size ≤ bc := by omega
          clear hstr
          by_cases hq : str = st
          · subst hq
            have HT := Lib.hid (show hasL bs (strs.map lst) = true from hasL_true ME.out (inf_at (j := j) (by rw [lst_length]; exact hl.symm)))
            clear hl
            go_wp2
            go_quiet (fail)
            all_goals go_wp2
            go_returns
            exact ⟨by rw [HT.out]; rfl, bdraw hbl _⟩
          · have hq2 : (str.toList == st.toList) = false := str_ne hq
            have HL := Lib.hid hl
            clear hl
            go_wp2
            go_quiet (fail)
            all_goals go_wp2
            go_roundw
            case rel =>
              refine ⟨j + 1, by omega, by go_num, ?_, bdraw hbl _⟩
              intro j' hj'
              rcases Nat.lt_or_ge j' j with h | h
              · exact NE.out j' h
              · obtain rfl : j' = j := by omega
                intro he
                rw [← HL.out] at he
                exact hq (by rw [← mk_lst str, he, mk_lst])
            case measure => simp [intOf]; omega
        · have g2 : ¬ (j : Int) + (st.size : Int) ≤ (bn : Int) := by omega
          have g3 : (bn : Int) < (j : Int) + (st.size : Int) := by omega
          go_wp2
          go_roundw
          case rel =>
            refine ⟨a + 1, by omega, by go_num, ?_, hbl⟩
            intro s hs
            rw [TK.out] at hs
            rcases List.mem_append.1 hs with h | h
            · exact NO.out s h
            · rw [List.mem_singleton.1 h]
              refine inf_none (fun j' hj' => ?_)
              rw [lst_length] at hj' ⊢
              rw [toU_length, hb] at hj'
              exact NE.out j' (by omega)
          case measure => simp [intOf]; omega
    · obtain rfl : a = sn := by omega
      have HF := Lib.hid (show hasL bs (strs.map lst) = false from hasL_false (by have := NO.out; rwa [List.take_of_length_le (by rw [List.length_map]; omega)] at this))
      go_wp2
      go_returns
      exact ⟨by rw [HF.out]; rfl, hbl⟩
end Go.Proofs.Ytcambbnmeiolgaa
namespace Go.Proofs.Ytcambbnmeiolgaa
open Go.RowKit
theorem runesFrom_grows (s : ByteArray) : ∀ (b i : Nat) (acc : Array Value), acc.size ≤ (Conv.runesFrom s b i acc).size
  | 0, _, acc => by simp [Conv.runesFrom]
  | b + 1, i, acc => by
    unfold Conv.runesFrom
    split
    · have := runesFrom_grows s b (i + (Utf8.decode s i).2) (acc.push (.int .i32 (Int.ofNat (Utf8.decode s i).1)))
      simp at this ⊢
      omega
    · exact Nat.le_refl _
theorem runes_first {s : ByteArray} (h : 0 < s.size) : ((Utf8.decode s 0).2 < s.size → 2 ≤ (Conv.runesFrom s s.size 0 #[]).size) ∧ (s.size ≤ (Utf8.decode s 0).2 → Conv.runesFrom s s.size 0 #[] = #[.int .i32 (Int.ofNat (Utf8.decode s 0).1)]) := by
  obtain ⟨n, hn⟩ : ∃ n, s.size = n + 1 := ⟨s.size - 1, by omega⟩
  have hw := width_pos s 0 h
  have e : Conv.runesFrom s s.size 0 #[] = Conv.runesFrom s n (0 + (Utf8.decode s 0).2) #[.int .i32 (Int.ofNat (Utf8.decode s 0).1)] := by
    rw [show Conv.runesFrom s s.size 0 #[] = Conv.runesFrom s (n + 1) 0 #[] by rw [← hn], Conv.runesFrom, if_pos h]
    rfl
  rw [e, Nat.zero_add]
  constructor
  · intro hlt
    obtain ⟨m, rfl⟩ : ∃ m, n = m + 1 := ⟨n - 1, by omega⟩
    rw [Conv.runesFrom, if_pos hlt]
    exact runesFrom_grows s m _ #[.int .i32 (Int.ofNat (Utf8.decode s 0).1), .int .i32 (Int.ofNat (Utf8.decode s (Utf8.decode s 0).2).1)]
  · intro hle
    cases n with
    | zero => rfl
    | succ m => rw [Conv.runesFrom, if_neg (by omega)]
/-- one rune, rightly written? -/
def oneR (s : ByteArray) : Bool := decide (s.size ≤ (Utf8.decode s 0).2) && ((Utf8.encode (Int.ofNat (Utf8.decode s 0).1)).toList == s.toList)
theorem toList_lst {a b : ByteArray} : (a.toList == b.toList) = true ↔ lst a = lst b := by
  rw [beq_iff_eq, ByteArray.toList_eq, ByteArray.toList_eq]
theorem oneR_iff {s : ByteArray} : oneR s = true ↔ ∃ c, okC c ∧ lst s = encN c := by
  unfold oneR
  rw [Bool.and_eq_true, decide_eq_true_eq, toList_lst]
  have hd : Utf8.decode s 0 = decL (lst s) := by rw [decode_lst]; rfl
  constructor
  · rintro ⟨_, h⟩
    obtain ⟨c, hc, he⟩ := encode_ok (Int.ofNat (Utf8.decode s 0).1)
    exact ⟨c, hc, by rw [← h, he]⟩
  · rintro ⟨c, hc, he⟩
    have h1 := dec_enc hc []
    rw [List.append_nil] at h1
    rw [hd, he, h1]
    refine ⟨?_, ?_⟩
    · rw [← lst_length, he]
      exact Nat.le_refl _
    · rw [show Int.ofNat (c, (encN c).length).1 = (c : Int) from rfl, encode_of hc]

set_option maxRecDepth 100000 in
set_option maxHeartbeats 1000000 in
/-- one -/
theorem one_any (s : ByteArray) (w : World) (h0 : 1 ≤ s.size) (h4 : s.size ≤ 4) :
    Calls Try.prog 49 #[.string s] w fun e w' => e = .returned (.bool (oneR s)) ∧ Below w.heap.size w w' := by
  have hsz : (Conv.runesFrom s s.size 0 #[]).size ≤ s.size := by simpa using size_runesFrom s s.size 0 #[]
  have hconv := run_runes_of_string (P := Try.prog) w 9 64 21 s Try.underlying9 Try.underlying64 Try.underlying21 (by omega)
  obtain ⟨hl, hg⟩ := runes_first (s := s) (by omega)
  obtain ⟨K, hK⟩ : ∃ K, grownCap w (Conv.runesFrom s s.size 0 #[]).size 0 21 = K := ⟨_, rfl⟩
  rw [hK] at hconv
  have hb : Below w.heap.size w (w.drew.alloc (.cells (Conv.runesFrom s s.size 0 #[] ++ Array.replicate (K - (Conv.runesFrom s s.size 0 #[]).size) (.int .i32 0)) 21)) :=
    (Below.drew (Below.refl _ _)).alloc (Nat.le_refl _) _
  by_cases hle : s.size ≤ (Utf8.decode s 0).2
  · have e1 := hg hle
    rw [e1] at hconv hb
    have hR : oneR s = ((Utf8.encode (Int.ofNat (Utf8.decode s 0).1)).toList == s.toList) := by unfold oneR; rw [decide_eq_true hle, Bool.true_and]
    have HR := Lib.hid hR
    clear e1 hl hg hle hsz hK hR
    generalize Int.ofNat (Utf8.decode s 0).1 = r at *
    have hcv : (convert 64 9 (.slice (some ⟨w.heap.size, 0, none⟩) 1 K)).run Try.prog (w.drew.alloc (.cells (#[.int .i32 r] ++ Array.replicate (K - 1) (.int .i32 0)) 21)) = .ok (.string (Utf8.encode r)) (w.drew.alloc (.cells (#[.int .i32 r] ++ Array.replicate (K - 1) (.int .i32 0)) 21)) := by
      have hb1 := Blk.new w.drew (#[.int .i32 r] ++ Array.replicate (K - 1) (.int .i32 0)) 21
      have := run_convert_runes (P := Try.prog) (w.drew.alloc (.cells (#[.int .i32 r] ++ Array.replicate (K - 1) (.int .i32 0)) 21)) 64 9 21 ⟨w.heap.size, 0, none⟩ 1 K [r] (by simp) Try.underlying64 Try.underlying21 Try.underlying9 (fun j hj => by
        obtain rfl : j = 0 := by simp at hj; omega
        rw [addr_add]
        exact (hb1.cell 0).trans (by rw [Array.getElem?_append_left (by simp)]; rfl))
      rw [this]
      have hr : runesBytes (List.take 1 [r]) = Utf8.encode r := by
        show ByteArray.empty ++ _ = _
        rw [ByteArray.empty_append]
      rw [hr]
    generalize Utf8.encode r = en at *
    generalize (w.drew.alloc (.cells (#[.int .i32 r] ++ Array.replicate (K - 1) (.int .i32 0)) 21)) = w1 at *
    simp only [List.size_toArray, List.length_cons, List.length_nil] at hconv
    go_enter Try.func49, Try.ntmps49
    go_wp2
    go_returns
    exact ⟨by rw [HR.out]; rfl, hb⟩
  · have e1 := hl (by omega)
    have HR := Lib.hid (show oneR s = false by unfold oneR; rw [decide_eq_false hle, Bool.false_and])
    generalize Conv.runesFrom s s.size 0 #[] = R at *
    have h1 : ¬ R.size = 1 := by omega
    have h2 : ¬ (R.size : Int) = 1 := by omega
    clear hl hg hle hK
    generalize (w.drew.alloc (.cells (R ++ Array.replicate (K - R.size) (.int .i32 0)) 21)) = w1 at *
    go_enter Try.func49, Try.ntmps49
    go_wp2
    go_returns
    exact ⟨by rw [HR.out]; rfl, hb⟩
end Go.Proofs.Ytcambbnmeiolgaa
namespace Go.Proofs.Ytcambbnmeiolgaa
open Go.RowKit
theorem extract_lst (s : ByteArray) (i k : Nat) : lst (s.extract i (i + k)) = ((lst s).drop i).take k := by
  show (s.extract i (i + k)).data.toList = _
  rw [ByteArray.data_extract, Array.toList_extract]
  simp [lst, List.extract_eq_take_drop]
theorem whole_behind {L : List UInt8} {i : Nat} (h : Whole L) (hi : Whole (L.take i)) : Whole (L.drop i) := by
  obtain ⟨cs, hc, he⟩ := hi
  refine whole_rest cs _ hc ?_
  rw [← he, List.take_append_drop]
  exact h
theorem whole_head {L : List UInt8} (h : Whole L) (h0 : L ≠ []) : ∃ c k, okC c ∧ 1 ≤ k ∧ k ≤ 4 ∧ k ≤ L.length ∧ L.take k = encN c := by
  obtain ⟨cs, hc, he⟩ := h
  cases cs with
  | nil => exact absurd he h0
  | cons c cs =>
    rw [List.map_cons, List.flatten_cons] at he
    have hl := encN_len c
    refine ⟨c, (encN c).length, hc c (by simp), hl.1, hl.2, ?_, ?_⟩
    · rw [he, List.length_append]; omega
    · rw [he, List.take_left]
theorem whole_on {L : List UInt8} {i k : Nat} (h : Whole (L.take i)) {c : Nat} (hc : okC c) (he : (L.drop i).take k = encN c) : Whole (L.take (i + k)) := by
  rw [List.take_add, he]
  exact h.append (whole_enc hc)

/-- whole runes? -/
def VldOut (l : List UInt8) (w : World) (e : Ending) (w' : World) : Prop := ∃ b : Bool, e = .returned (.bool b) ∧ (b = true ↔ Whole l) ∧ Below w.heap.size w w'
set_option maxRecDepth 100000 in
set_option maxHeartbeats 2000000 in
/-- valid -/
theorem valid_any (B : Option Addr) (bn bc : Nat) (bs : List Int) (w : World) (hb : bs.length = bn) (rB : Rd w B (B8 bs)) (hbn : bn ≤ 281474976710656) :
    Calls Try.prog 28 #[.slice B bn bc] w (VldOut (toU bs) w) := by
  have hcv := conv_run w B bn bc bs hb rB
  obtain ⟨str, hstr⟩ : ∃ str : ByteArray, (⟨(bs.map u8).toArray⟩ : ByteArray) = str := ⟨_, rfl⟩
  have hl : lst str = toU bs := by rw [← hstr]; rfl
  have hm : str.size = bn := by rw [← lst_length, hl, toU_length, hb]
  rw [hstr] at hcv
  rw [← hl]
  have hmm : str.size ≤ 281474976710656 := by omega
  clear hstr rB hl hb hm
  go_enter Try.func28, Try.ntmps28
  go_wp2
  go_loopw [4, 5, 6] (fun iv _ _ wr => ∃ i : Nat, i ≤ str.size ∧ iv = .int .i64 (i : Int) ∧ Whole ((lst str).take i) ∧ Below w.heap.size w wr) (fun iv _ _ _ => str.size - (intOf iv).toNat)
  case atStart => exact ⟨0, by omega, rfl, by rw [List.take_zero]; exact whole_nil, Below.refl _ _⟩
  case round =>
    obtain ⟨i, hi, rfl, hw, hbl⟩ := hrel
    have HW := Lib.hid hw
    clear hw
    by_cases hlt : i < str.size
    · have g1 : (i : Int) < (str.size : Int) := by omega
      go_wp2
      go_loopw [5, 6] (fun nv jv wr => ∃ j n : Nat, j ≤ 4 ∧ nv = .int .i64 (n : Int) ∧ jv = .int .i64 (j : Int) ∧ ((n = 0 ∧ ∀ k, j < k → k ≤ 4 → i + k ≤ str.size → ¬ ∃ c, okC c ∧ ((lst str).drop i).take k = encN c) ∨ (1 ≤ n ∧ i + n ≤ str.size ∧ ∃ c, okC c ∧ ((lst str).drop i).take n = encN c)) ∧ Below w.heap.size w wr) (fun _ jv _ => (intOf jv).toNat)
      case atStart => exact ⟨4, 0, by omega, rfl, rfl, .inl ⟨rfl, fun k h1 h2 => by omega⟩, hbl⟩
      case round =>
        clear hbl
        obtain ⟨j, n, hj, rfl, rfl, hc, hbl⟩ := hrel
        have HC := Lib.hid hc
        clear hc
        by_cases hj0 : 0 < j
        · have g2 : (0 : Int) < (j : Int) := by omega
          by_cases hfit : i + j ≤ str.size
          · have g3 : (i : Int) + (j : Int) ≤ (str.size : Int) := by omega
            have g4 : (i : Int) ≤ (i : Int) + (j : Int) := by omega
            have hes : (str.extract i (i + j)).size = j := by rw [← lst_length, extract_lst, List.length_take, List.length_drop, lst_length]; omega
            go_wp2_with fail
            refine (one_any (str.extract i (i + j)) wr (by omega) (by omega)).mono ?_
            rintro e w1 ⟨rfl, hb1⟩
            have hbl1 := bthen hbl hb1
            clear hbl hb1
            cases ho : oneR (str.extract i (i + j)) with
            | true =>
              have HO := Lib.hid (oneR_iff.1 ho)
              clear ho
              go_wp2
              go_roundw
              case rel => exact ⟨j - 1, j, by omega, rfl, by go_num, .inr ⟨hj0, hfit, by have := HO.out; rwa [extract_lst] at this⟩, hbl1⟩
              case measure => simp [intOf]; omega
            | false =>
              have HO := Lib.hid (show ¬ ∃ c, okC c ∧ ((lst str).drop i).take j = encN c by rw [← extract_lst, ← oneR_iff, ho]; decide)
              clear ho
              go_wp2
              go_roundw
              case rel =>
                refine ⟨j - 1, n, by omega, rfl, by go_num, ?_, hbl1⟩
                rcases HC.out with ⟨h1, h2⟩ | h
                · refine .inl ⟨h1, fun k h3 h4 h5 => ?_⟩
                  rcases Nat.lt_or_ge j k with h6 | h6
                  · exact h2 k h6 h4 h5
                  · obtain rfl : k = j := by omega
                    exact HO.out
                · exact .inr h
              case measure => simp [intOf]; omega
          · have g3 : ¬ (i : Int) + (j : Int) ≤ (str.size : Int) := by omega
            go_wp2
            go_roundw
            case rel =>
              refine ⟨j - 1, n, by omega, rfl, by go_num, ?_, hbl⟩
              rcases HC.out with ⟨h1, h2⟩ | h
              · refine .inl ⟨h1, fun k h3 h4 h5 => ?_⟩
                exact h2 k (by omega) h4 h5
              · exact .inr h
            case measure => simp [intOf]; omega
        · obtain rfl : j = 0 := by omega
          by_cases hn : n = 0
          · subst hn
            have HN := Lib.hid (show ¬ Whole (lst str) by
              intro hW
              rcases HC.out with ⟨_, h2⟩ | ⟨h, _⟩
              · have h3 := whole_behind hW HW.out
                obtain ⟨c, k, h4, h5, h6, h7, h8⟩ := whole_head h3 (by
                  intro he
                  have := congrArg List.length he
                  rw [List.length_drop, lst_length, List.length_nil] at this
                  omega)
                rw [List.length_drop, lst_length] at h7
                exact h2 k (by omega) h6 (by omega) ⟨c, h4, h8⟩
              · omega)
            go_wp2
            go_returns
            exact ⟨false, rfl, ⟨fun h => (by cases h), fun h => absurd h HN.out⟩, hbl⟩
          · have g4 : ¬ (n : Int) = 0 := by omega
            have HN := Lib.hid (show 1 ≤ n ∧ i + n ≤ str.size ∧ Whole ((lst str).take (i + n)) by
              rcases HC.out with ⟨h, _⟩ | ⟨h1, h2, c, h3, h4⟩
              · exact absurd h hn
              · exact ⟨h1, h2, whole_on HW.out h3 h4⟩)
            have h2 := HN.out.2.1
            have h1 := HN.out.1
            go_wp2
            go_roundw
            case rel => exact ⟨i + n, h2, by go_num, HN.out.2.2, hbl⟩
            case measure => simp [intOf]; omega
    · obtain rfl : i = str.size := by omega
      have HN := Lib.hid (show Whole (lst str) by have := HW.out; rwa [List.take_of_length_le (by rw [lst_length]; exact Nat.le_refl _)] at this)
      go_wp2
      go_returns
      exact ⟨true, rfl, ⟨fun _ => HN.out, fun _ => rfl⟩, hbl⟩
end Go.Proofs.Ytcambbnmeiolgaa
namespace Go.Proofs.Ytcambbnmeiolgaa
open Go.RowKit
section
variable {w w6 : World} {p1 p2 : Nat} {v1 v2 : Value × Value} {wds : List (List Int)} {s1 s2 : List ByteArray} {wr : World} {av bv : Value} {oa ob : List Int} {x1 x2 : List UInt8 × Bool}
/-- Feed of the first stream; other rows stay -/
theorem TwoS.feed2 (h : TwoS w w6 p1 p2 v1 v2 wds s1 s2 wr av bv oa ob x1 x2) (A : Option Addr) (n c : Nat) (l : List Int) (hl : l.length = n) (hn : n ≤ 1099511627776) (hx : Rd wr A (I64 l)) (hA : ∀ b o, A = some ⟨b, o, none⟩ → 0 < n → b ≠ p1) (hok : okTs wds.length l) (S : List UInt8 × List Int × Bool) (hS : feedU (s1.map lst) wds (x1.1, [], x1.2) l = S) :
    Calls Try.prog 18 #[.pointer (some ⟨p1, 0, none⟩), .slice A n c] wr fun en w' => ∃ U uc, en = .returned (.tuple #[.slice U S.2.1.length uc, .int .i64 0]) ∧ w'.ownsRow wr.heap.size 5 1 (.slice U S.2.1.length uc) S.2.1.length (B8 S.2.1) ∧ (∀ (base : Nat) (e : TypeId) (sz : Nat) (v : Value) (n : Nat) (xs : List Value), w6.heap.size ≤ base → wr.ownsRow base e sz v n xs → w'.ownsRow base e sz v n xs) ∧ TwoS w w6 p1 p2 v1 v2 wds s1 s2 w' av bv oa ob (S.1, S.2.2) x2 := by
  subst hS
  refine (feed_anyV A n c l wr p1 v1.1 v1.2 wds s1 x1.1 x1.2 h.str h.t1 hl hn hx hA hok).mono ?_
  rintro en w' ⟨u, rfl, ou, hs, hg⟩
  have hlen := (feedU_len (s1.map lst) wds h.st1.lens (fun x hx => (h.st1.w16 x hx).1) l (x1.1, [], x1.2) h.t1).1
  obtain ⟨U, uc, rfl, _, _⟩ := own_rd ou
  refine ⟨U, uc, rfl, ou, fun base e sz v n xs hb ho => ho.kept hg (.inr (fun he => ?_)), h.move (x := (_, _)) hs hlen hg⟩
  have := (own_lt ho _ he).1
  have := h.lt1
  omega
/-- Close of the first stream; other rows stay -/
theorem TwoS.close2 (h : TwoS w w6 p1 p2 v1 v2 wds s1 s2 wr av bv oa ob x1 x2) (h0 : 0 < wds.length) (o : List Int) (tl : List UInt8) (ho : (if x1.2 then [] else bI x1.1) = o) (ht : (if x1.2 then x1.1 else []) = tl) :
    Calls Try.prog 22 #[.pointer (some ⟨p1, 0, none⟩)] wr fun en w' => ∃ U uc, en = .returned (.slice U o.length uc) ∧ w'.ownsRow wr.heap.size 5 1 (.slice U o.length uc) o.length (B8 o) ∧ (∀ (base : Nat) (e : TypeId) (sz : Nat) (v : Value) (n : Nat) (xs : List Value), w6.heap.size ≤ base → wr.ownsRow base e sz v n xs → w'.ownsRow base e sz v n xs) ∧ TwoS w w6 p1 p2 v1 v2 wds s1 s2 w' av bv oa ob (tl, true) x2 := by
  subst ho ht
  refine (close_bothV wr p1 v1.1 v1.2 wds s1 x1.1 x1.2 h.str h.t1 h0).mono ?_
  rintro en w' ⟨u, rfl, ou, hs, hg⟩
  obtain ⟨U, uc, rfl, _, _⟩ := own_rd ou
  refine ⟨U, uc, rfl, ou, fun base e sz v n xs hb ho => ho.kept hg (.inr (fun he => ?_)), h.move (x := (_, _)) hs (by have := h.t1; dsimp only; split <;> simp_all) hg⟩
  have := (own_lt ho _ he).1
  have := h.lt1
  omega
/-- join onto the first text; other rows stay -/
theorem TwoS.join2 (h : TwoS w w6 p1 p2 v1 v2 wds s1 s2 wr av bv oa ob x1 x2) (base : Nat) (U : Option Addr) (un uc : Nat) (o o' : List Int) (ou : wr.ownsRow base 5 1 (.slice U un uc) o.length (B8 o)) (hu : o.length = un) (hne : ∀ q, (Value.slice U un uc).ownBlock = some q → av.ownBlock ≠ some q) (hs : oa.length + o.length ≤ 70368744177664) (ho' : oa ++ o = o') :
    Calls Try.prog 19 #[av, .slice U un uc] wr fun en w' => ∃ A ac, en = .returned (.slice A o'.length ac) ∧ (∀ (base : Nat) (e : TypeId) (sz : Nat) (v : Value) (n : Nat) (xs : List Value), wr.ownsRow base e sz v n xs → (v.ownBlock = none ∨ v.ownBlock ≠ av.ownBlock) → w'.ownsRow base e sz v n xs) ∧ TwoS w w6 p1 p2 v1 v2 wds s1 s2 w' (.slice A o'.length ac) bv o' ob x1 x2 := by
  subst ho'
  refine (join_any wr w6.heap.size av oa.length oa U un uc o h.ra h.sz hu (own_rdv ou) ?_ (by omega)).mono ?_
  · intro b o' hU hpos
    subst hU
    exact hne b rfl
  · rintro en w' ⟨av', rfl, ho, hg, hor⟩
    have hT := h.text ho (by simp; omega) hg hor
    obtain ⟨A, ac, rfl, _, _⟩ := own_rd hT.ra
    exact ⟨A, ac, rfl, fun base e sz v n xs hr hv => hr.kept hg hv, hT⟩
/-- a row made later is none of the texts' -/
theorem TwoS.fresh (h : TwoS w w6 p1 p2 v1 v2 wds s1 s2 wr av bv oa ob x1 x2) {w' : World} {e : TypeId} {sz n : Nat} {v : Value} {xs : List Value} (ho : w'.ownsRow wr.heap.size e sz v n xs) : (∀ q, v.ownBlock = some q → av.ownBlock ≠ some q) ∧ (∀ q, v.ownBlock = some q → bv.ownBlock ≠ some q) :=
  ⟨fun q hq he => by have := (own_lt ho q hq).1; have := (own_lt h.ra q he).2; omega, fun q hq he => by have := (own_lt ho q hq).1; have := (own_lt h.rb q he).2; omega⟩
end
theorem apart_of {u v : Value} (h : ∀ q, u.ownBlock = some q → v.ownBlock ≠ some q) : u.ownBlock = none ∨ u.ownBlock ≠ v.ownBlock := by
  rcases hq : u.ownBlock with _ | q
  · exact .inl rfl
  · exact .inr (fun he => h q hq he.symm)
end Go.Proofs.Ytcambbnmeiolgaa
namespace Go.Proofs.Ytcambbnmeiolgaa
open Go.RowKit
/-! A text and the bytes that stand in it -/
structure BldP (t bs : List Int) : Prop where
  nd : bs.Nodup
  rb : ∀ b ∈ bs, 0 ≤ b ∧ b < 256
  al : ∀ b ∈ t, b ∈ bs
  wh : Whole (toU t)
  rt : ∀ b ∈ t, 0 ≤ b ∧ b < 256
  ne : t = [] → bs = []
structure Bld (w wr : World) (q : Nat) (tv bv : Value) (t bs : List Int) : Prop where
  blk : Blk wr q #[bv, .slice none 0 0] 37
  rt : wr.ownsRow (q + 1) 5 1 tv t.length (B8 t)
  rb : wr.ownsRow (q + 1) 5 1 bv bs.length (B8 bs)
  ap : tv.ownBlock = none ∨ tv.ownBlock ≠ bv.ownBlock
  bl : Below w.heap.size w wr
  qz : w.heap.size ≤ q
section
variable {w wr : World} {q : Nat} {tv bv : Value} {t bs : List Int}
theorem Bld.below {w' : World} (h : Bld w wr q tv bv t bs) (hb : Below wr.heap.size wr w') : Bld w w' q tv bv t bs :=
  ⟨h.blk.below hb, own_below h.rt hb, own_below h.rb hb, h.ap, bthen h.bl hb, h.qz⟩
theorem Bld.text {w' : World} {tv' : Value} {t' : List Int} (h : Bld w wr q tv bv t bs) (ho : w'.ownsRow (q + 1) 5 1 tv' t'.length (B8 t')) (hg : wr.grownBy w' tv.ownBlock) (hor : tv'.ownBlock = tv.ownBlock ∨ ∀ k, tv'.ownBlock = some k → wr.heap.size ≤ k) : Bld w w' q tv' bv t' bs := by
  have hq : ∀ k, tv.ownBlock = some k → q + 1 ≤ k := fun k hk => (own_lt h.rt k hk).1
  have h1 := h.qz
  refine ⟨h.blk.kept hg (fun he => by have := hq q he.symm; omega), ho, h.rb.kept hg ?_, ?_, h.bl.grown hg h.bl.size (fun k e => by have := hq k e; omega), h.qz⟩
  · rcases h.ap with e | e
    · rcases hb : bv.ownBlock with _ | k
      · exact .inl rfl
      · exact .inr (by rw [e]; simp)
    · exact .inr e.symm
  · rcases hor with e | e
    · rw [e]; exact h.ap
    · cases ha : tv'.ownBlock with
      | none => exact .inl rfl
      | some k =>
        refine .inr (fun he => ?_)
        have h3 := e k ha
        have h4 := (own_lt h.rb k he.symm).2
        omega
end
theorem bytes_conv (w : World) (s : ByteArray) : ∃ C w', (convert 9 34 (.string s)).run Try.prog w = .ok (.slice (some ⟨w.heap.size, 0, none⟩) s.size C) w' ∧ Rd w' (some ⟨w.heap.size, 0, none⟩) (B8 (bI (lst s))) ∧ Below w.heap.size w w' ∧ s.size ≤ C := by
  have h := run_bytes_of_string (P := Try.prog) w 9 34 5 s Try.underlying9 Try.underlying34 Try.underlying5
  obtain ⟨K, hK⟩ : ∃ K, grownCap w s.size 0 5 = K := ⟨_, rfl⟩
  have hge := grownCap_ge w s.size 0 5
  rw [hK] at h hge
  refine ⟨_, _, h, .inr ⟨w.heap.size, 0, rfl, fun i hi => ?_⟩, ?_, hge⟩
  · have hi2 : i < s.size := by simp [B8, bI] at hi; exact hi
    have e : (bytesRow s K)[i]? = (B8 (bI (lst s)))[i]? := by
      have hd : i < s.data.size := hi2
      unfold bytesRow
      rw [Array.getElem?_append_left (by simp; exact hd)]
      simp [B8, bI, lst]
      rfl
    rw [← e]
    have hh : (w.drew.alloc (.cells (bytesRow s K) 5 ((bytesRow s K).size, (bytesRow s K).size + 1))).heap[w.heap.size]? = some (.cells (bytesRow s K) 5 ((bytesRow s K).size, (bytesRow s K).size + 1)) := by
      show (w.heap.push _)[w.heap.size]? = _
      simp
    rw [Nat.zero_add]
    unfold World.cell?
    dsimp only
    rw [hh]
    simp
  · exact (Below.drew (Below.refl _ _)).alloc (Nat.le_refl _) _
/-- one more byte of the text is known -/
def BldK (t bs bs0 : List Int) (k : Nat) (m : Nat) : Prop :=
  bs.Nodup ∧ (∀ b ∈ bs, 0 ≤ b ∧ b < 256) ∧ (∀ b ∈ t.take k, b ∈ bs) ∧ (∀ b ∈ bs0, b ∈ bs) ∧ bs.length ≤ 39 + (k - m) ∧ (bs = [] ∨ t ≠ [])
theorem mem_take_succ {t : List Int} {k : Nat} (hk : k < t.length) {b : Int} (h : b ∈ t.take (k + 1)) : b ∈ t.take k ∨ b = t[k] := by
  rw [List.take_succ_eq_append_getElem hk] at h
  rcases List.mem_append.1 h with h | h
  · exact .inl h
  · exact .inr (List.mem_singleton.1 h)
theorem bldK_known {t bs bs0 : List Int} {k m : Nat} (h : BldK t bs bs0 k m) (hk : k < t.length) (hm : t[k] ∈ bs) : BldK t bs bs0 (k + 1) m := by
  obtain ⟨h1, h2, h3, h4, h5, h6⟩ := h
  refine ⟨h1, h2, fun b hb => ?_, h4, by omega, h6⟩
  rcases mem_take_succ hk hb with h | rfl
  · exact h3 b h
  · exact hm
theorem bldK_new {t bs bs0 : List Int} {k m : Nat} (h : BldK t bs bs0 k m) (hk : k < t.length) (hm : ¬ t[k] ∈ bs) (hr : 0 ≤ t[k] ∧ t[k] < 256) (ho : ∀ b ∈ t.take m, b ∈ bs0) : BldK t (bs ++ [t[k]]) bs0 (k + 1) m := by
  obtain ⟨h1, h2, h3, h4, h5, h6⟩ := h
  have hmk : m ≤ k := by
    rcases Nat.lt_or_ge k m with h | h
    · exact absurd (h4 _ (ho _ (by
        rw [List.mem_iff_getElem]
        exact ⟨k, by rw [List.length_take]; omega, List.getElem_take⟩))) hm
    · exact h
  refine ⟨?_, ?_, ?_, fun b hb => List.mem_append_left _ (h4 b hb), by rw [List.length_append, List.length_singleton]; omega, .inr (fun he => by rw [he] at hk; simp at hk)⟩
  · rw [List.nodup_append]
    refine ⟨h1, by simp, fun a ha b hb => ?_⟩
    rw [List.mem_singleton.1 hb]
    exact fun he => hm (he ▸ ha)
  · intro b hb
    rcases List.mem_append.1 hb with h | h
    · exact h2 b h
    · rw [List.mem_singleton.1 h]; exact hr
  · intro b hb
    rcases mem_take_succ hk hb with h | rfl
    · exact List.mem_append_left _ (h3 b h)
    · exact List.mem_append_right _ (by simp)
theorem Bld.push {w wr w4 : World} {q : Nat} {tv bv : Value} {t bs : List Int} (hB : Bld w wr q tv bv t bs) (x : Int) (g cap : Nat) (os4 : w4.ownsRow (q + 1) 5 1 (.slice (some ⟨g, 0, none⟩) (bs.length + 1) cap) (bs.length + 1) (B8 bs ++ [.int .u8 x])) (hg4 : ((wr.alloc (.cells #[.int .u8 x] 5)).drew).grownBy w4 bv.ownBlock) (hat : bv.ownBlock = some g ∨ g = ((wr.alloc (.cells #[.int .u8 x] 5)).drew).heap.size) :
    Bld w (w4.setCell ⟨q, 0, none⟩ (.slice (some ⟨g, 0, none⟩) (bs.length + 1) cap)) q tv (.slice (some ⟨g, 0, none⟩) (bs.length + 1) cap) t (bs ++ [x]) := by
  have k1 := (hB.blk.alloc (.cells #[.int .u8 x] 5)).drew
  have hns := hB.blk.not_row (by decide) hB.rb
  have k4 := k1.kept hg4 hns
  have hap : tv.ownBlock = none ∨ tv.ownBlock ≠ bv.ownBlock := hB.ap
  have rt1 : ((wr.alloc (.cells #[.int .u8 x] 5)).drew).ownsRow (q + 1) 5 1 tv t.length (B8 t) := hB.rt.alloc _
  have rt4 := rt1.kept hg4 hap
  have hbl : Below w.heap.size w ((wr.alloc (.cells #[.int .u8 x] 5)).drew) := (hB.bl.alloc hB.bl.size _).drew
  have hz := hB.qz
  have hbl4 := hbl.grown hg4 hbl.size (fun k e => by have := (own_lt hB.rb k e).1; omega)
  refine ⟨k4.set 0 _, own_set_other rt4 q 0 _ (k4.not_row (by decide) rt4), ?_, ?_, hbl4.setCell (p := ⟨q, 0, none⟩) hz _, hz⟩
  · rw [List.length_append, List.length_singleton, show B8 (bs ++ [x]) = B8 bs ++ [.int .u8 x] by simp [B8]]
    exact own_set_other os4 q 0 _ (k4.not_row (by decide) os4)
  · rcases hat with e | e
    · show tv.ownBlock = none ∨ tv.ownBlock ≠ some g
      rw [← e]; exact hap
    · refine Or.inr (fun he => ?_)
      have h1 : tv.ownBlock = some g := he
      have h2 := (own_lt hB.rt g h1).2
      have h3 : ((wr.alloc (.cells #[.int .u8 x] 5)).drew).heap.size = wr.heap.size + 1 := World.size_alloc _ _
      omega
end Go.Proofs.Ytcambbnmeiolgaa
namespace Go.Proofs.Ytcambbnmeiolgaa
open Go.RowKit

theorem joined_mem {P : Int → Prop} (p : Int × Int) {t : Int} (h : P t) : ∀ (n : Nat) (l : List Int), l.length ≤ n → (∀ y ∈ l, P y) → ∀ y ∈ joined p t l, P y := by
  intro n
  induction n with
  | zero => intro l hl _; match l, hl with | [], _ => intro y hy; simp [joined] at hy
  | succ n ih =>
    intro l hl hP
    match l, hl, hP with
    | [], _, _ => intro y hy; simp [joined] at hy
    | [x], _, hP => intro y hy; exact hP y (by simpa [joined] using hy)
    | x :: z :: r, hl, hP =>
      intro y hy
      unfold joined at hy
      split at hy
      · rcases List.mem_cons.1 hy with rfl | hy
        · exact h
        · exact ih r (by simp at hl; omega) (fun q hq => hP q (by simp [hq])) y hy
      · rcases List.mem_cons.1 hy with rfl | hy
        · exact hP _ (by simp)
        · exact ih (z :: r) (by simpa using hl) (fun q hq => hP q (List.mem_cons_of_mem _ hq)) y hy
/-- what holds of each step of joining holds of its end -/
theorem joinAll_ind {n : Nat} {ps : List (Int × Int)} {Q : List Int → Prop} (step : ∀ l, Q l → ∀ (j : Nat) (h : j < ps.length), Q (joined ps[j] (1 + n + j : Nat) l)) : ∀ (k : Nat) (l : List Int), l.length ≤ k → Q l → Q (joinAll n ps l) := by
  intro k
  induction k with
  | zero =>
    intro l hl hQ
    rw [joinAll_none]
    · exact hQ
    · intro h
      have hs : stands l ps[ps.findIdx (stands l)] = true := List.findIdx_getElem
      obtain ⟨i, hi, _⟩ := (stands_iff _ _).1 hs
      omega
  | succ k ih =>
    intro l hl hQ
    by_cases h : ps.findIdx (stands l) < ps.length
    · have hs : stands l ps[ps.findIdx (stands l)] = true := List.findIdx_getElem
      rw [joinAll_step rfl h]
      have := joined_lt ps[ps.findIdx (stands l)] ((1 + n + ps.findIdx (stands l) : Nat) : Int) _ l (Nat.le_refl _) hs
      exact ih _ (by omega) (step l hQ _ h)
    · rw [joinAll_none h]
      exact hQ
theorem flat_cons (ls : List (List Int)) (x : Int) (l : List Int) : flat ls (x :: l) = tok ls x.toNat ++ flat ls l := by simp [flat]
theorem joined_flat {ls : List (List Int)} {p : Int × Int} {t : Nat} (h : tok ls t = tok ls p.1.toNat ++ tok ls p.2.toNat) : ∀ (n : Nat) (l : List Int), l.length ≤ n → flat ls (joined p t l) = flat ls l := by
  intro n
  induction n with
  | zero => intro l hl; match l, hl with | [], _ => simp [joined]
  | succ n ih =>
    intro l hl
    match l, hl with
    | [], _ => simp [joined]
    | [x], _ => simp [joined]
    | x :: y :: r, hl =>
      unfold joined
      split
      · rename_i he
        rw [flat_cons, flat_cons, flat_cons, ih r (by simp at hl; omega), Int.toNat_natCast, h, he.1, he.2, List.append_assoc]
      · rw [flat_cons, flat_cons, ih (y :: r) (by simpa using hl)]
theorem base_flat {bs : List Int} {ps : List (Int × Int)} {ls : List (List Int)} (hT : Toks bs ps ls) : ∀ (x : List Int), (∀ z ∈ x, z ∈ bs) → flat ls (x.map (baseT bs)) = x := by
  intro x
  induction x with
  | nil => intro _; rfl
  | cons z r ih =>
    intro h
    rw [List.map_cons, flat_cons, ih (fun q hq => h q (List.mem_cons_of_mem _ hq))]
    have hz := h z (by simp)
    have hi : bs.idxOf z < bs.length := List.idxOf_lt_length_of_mem hz
    have hb := hT.base _ hi
    rw [List.getElem_idxOf] at hb
    have : tok ls (baseT bs z).toNat = [z] := by
      unfold baseT
      rw [if_pos hz]
      show ls.getD _ [] = _
      rw [← hb]
      congr 1
    rw [this]
    rfl
/-- what Encode answers, decoded, is the text -/
theorem round_ok {bs : List Int} {ps : List (Int × Int)} {ls : List (List Int)} (hq : vocF bs ps = some ls) {x : List Int} (hx : x.all (fun b => decide (b ∈ bs)) = true) : errD bs ps (encL bs ps x) = 0 ∧ bytD bs ps (encL bs ps x) = x := by
  have hT := toks_of hq
  have hxb : ∀ z ∈ x, z ∈ bs := fun z hz => of_decide_eq_true (List.all_eq_true.1 hx z hz)
  have he : encL bs ps x = joinAll bs.length ps (x.map (baseT bs)) := by unfold encL; rw [hq]; simp only; rw [if_pos hx]
  have hf : flat ls (joinAll bs.length ps (x.map (baseT bs))) = x := by
    refine joinAll_ind (Q := fun l => flat ls l = x) (fun l hl j hj => ?_) _ _ (Nat.le_refl _) (base_flat hT x hxb)
    rw [joined_flat (hT.pair j hj).2.2.2.2 _ l (Nat.le_refl _), hl]
  have hal : (joinAll bs.length ps (x.map (baseT bs))).all (okTok ls.length) = true := by
    rw [List.all_eq_true]
    refine joinAll_ind (Q := fun l => ∀ y ∈ l, okTok ls.length y = true) (fun l hl j hj => joined_mem _ ?_ _ l (Nat.le_refl _) hl) _ _ (Nat.le_refl _) ?_
    · have := hT.len
      simp only [okTok, decide_eq_true_eq]
      omega
    · intro y hy
      obtain ⟨z, hz, rfl⟩ := List.mem_map.1 hy
      have hi : bs.idxOf z < bs.length := List.idxOf_lt_length_of_mem (hxb z hz)
      have := hT.len
      unfold baseT
      rw [if_pos (hxb z hz)]
      simp only [okTok, decide_eq_true_eq]
      omega
  unfold errD bytD
  rw [he, hq]
  simp only
  rw [if_pos hal, if_pos hal]
  exact ⟨rfl, hf⟩
/-- no pair stands in what is joined to the end -/
theorem settled (n : Nat) (ps : List (Int × Int)) : ∀ (k : Nat) (l : List Int), l.length ≤ k → ∀ p ∈ ps, stands (joinAll n ps l) p = false := by
  intro k
  induction k with
  | zero =>
    intro l hl p _
    have : (joinAll n ps l).length ≤ l.length := joinAll_len n ps _ l (Nat.le_refl _)
    cases hs : stands (joinAll n ps l) p with
    | false => rfl
    | true =>
      obtain ⟨i, hi, _⟩ := (stands_iff _ _).1 hs
      omega
  | succ k ih =>
    intro l hl p hp
    by_cases h : ps.findIdx (stands l) < ps.length
    · have hs : stands l ps[ps.findIdx (stands l)] = true := List.findIdx_getElem
      rw [joinAll_step rfl h]
      have := joined_lt ps[ps.findIdx (stands l)] ((1 + n + ps.findIdx (stands l) : Nat) : Int) _ l (Nat.le_refl _) hs
      exact ih _ (by omega) p hp
    · rw [joinAll_none h]
      cases hs : stands l p with
      | false => rfl
      | true => exact absurd (List.findIdx_lt_length_of_exists ⟨p, hp, hs⟩) h
/-- fewer pairs first, the others later: the same -/
theorem joinAll_take (n : Nat) (ps : List (Int × Int)) (keep : Nat) : ∀ (k : Nat) (l : List Int), l.length ≤ k → joinAll n ps (joinAll n (ps.take keep) l) = joinAll n ps l := by
  intro k
  induction k with
  | zero =>
    intro l hl
    rw [joinAll_none (ps := ps.take keep)]
    intro h
    have hs : stands l (ps.take keep)[(ps.take keep).findIdx (stands l)] = true := List.findIdx_getElem
    obtain ⟨i, hi, _⟩ := (stands_iff _ _).1 hs
    omega
  | succ k ih =>
    intro l hl
    by_cases h : (ps.take keep).findIdx (stands l) < (ps.take keep).length
    · have hs : stands l (ps.take keep)[(ps.take keep).findIdx (stands l)] = true := List.findIdx_getElem
      have hj : ps.findIdx (stands l) = (ps.take keep).findIdx (stands l) := by
        have h1 : (ps.take keep).findIdx (stands l) < ps.length := by
          have : (ps.take keep).length ≤ ps.length := by rw [List.length_take]; omega
          omega
        refine findIdx_at h1 (by rw [List.getElem_take] at hs; exact hs) (fun j hj p hp => ?_)
        have h2 := List.not_of_lt_findIdx hj
        have h3 : (ps.take keep)[j]'(by omega) = p := by
          rw [List.getElem_take]
          obtain ⟨_, h4⟩ := List.getElem?_eq_some_iff.1 hp
          exact h4
        rw [h3] at h2
        simpa using h2
      have hlt : ps.findIdx (stands l) < ps.length := by
        have : (ps.take keep).length ≤ ps.length := by rw [List.length_take]; omega
        omega
      rw [joinAll_step (ps := ps.take keep) rfl h, joinAll_step (ps := ps) hj (by omega)]
      have he : (ps.take keep)[(ps.take keep).findIdx (stands l)] = ps[(ps.take keep).findIdx (stands l)]'(by omega) := List.getElem_take
      rw [he]
      have := joined_lt (ps.take keep)[(ps.take keep).findIdx (stands l)] ((1 + n + (ps.take keep).findIdx (stands l) : Nat) : Int) _ l (Nat.le_refl _) hs
      rw [he] at this
      exact ih _ (by omega)
    · rw [joinAll_none (ps := ps.take keep) h]
end Go.Proofs.Ytcambbnmeiolgaa
namespace Go.Proofs.Ytcambbnmeiolgaa
open Go.RowKit
set_option maxRecDepth 100000 in
set_option maxHeartbeats 2000000 in
/-- bpe.Decode -/
theorem decode_wide (A A' T : Option Addr) (n m t c c' ct : Nat) (bs : List Int) (ps : List (Int × Int)) (l : List Int) (w : World) (hv : Voc w A A' n m bs ps) (hwf : Wf bs ps) (hl : l.length = t) (ht : Rd w T (I64 l)) (hs : t ≤ 2147483648) :
    Calls Try.prog 25 #[.agg #[.slice A n c, .slice A' m c'], .slice T t ct] w fun e w' => ∃ v, e = .returned (.tuple #[v, .int .i64 (errD bs ps l)]) ∧ w'.ownsRow w.heap.size 5 1 v (bytD bs ps l).length (B8 (bytD bs ps l)) ∧ Below w.heap.size w w' := by
  have h0 : Below w.heap.size w (w.alloc (.cells #[.slice A n c, .slice A' m c'] 37)) := by go_grown
  have eN := eN55
  go_enter Try.func25, Try.ntmps25
  go_wp2_with fail
  refine (pieces_any A A' n m c c' bs ps _ (hv.below h0) hwf).mono ?_
  rintro e w1 ⟨hb, hp⟩
  replace hb := bthen h0 hb
  cases hq : vocF bs ps with
  | none =>
    have he : errD bs ps l = 50 := by unfold errD; rw [hq]
    have hy : bytD bs ps l = [] := by unfold bytD; rw [hq]
    rw [hq] at hp
    have HR := Lib.hid he
    have HY := Lib.hid hy
    clear he hq hy
    subst hp
    go_wp2
    go_returns
    refine ⟨.slice none 0 0, by rw [HR.out]; rfl, ?_, hb⟩
    rw [HY.out]
    exact World.ownsRow_nil _ _ _ _
  | some ls =>
    have hT := toks_of hq
    have h1 := hT.len
    have h2 := hT.n64
    obtain ⟨hlb, hnn⟩ : ls.length ≤ 64 ∧ 0 < ls.length := by omega
    have he : errD bs ps l = if l.all (okTok ls.length) then 0 else 52 := by unfold errD; rw [hq]
    have hy : bytD bs ps l = if l.all (okTok ls.length) then flat ls l else [] := by unfold bytD; rw [hq]
    rw [hq] at hp
    obtain ⟨g, cap, vals, rfl, ho, hp⟩ := hp
    clear hq h1 h2
    have HR := Lib.hid he
    have HY := Lib.hid hy
    clear he hy
    replace ht := ht.below hb
    have hfz : ∀ (i : Nat) (v : Value), vals[i]? = some v → ∀ j, v.ownBlock = some j → j < w1.heap.size := fun i v hv j hj => (hp.lt i v hv j hj).2
    go_wp2
    go_loopw [7, 16] (fun ov i wr => ∃ k : Nat, k ≤ t ∧ i = .int .i64 (k : Int) ∧ (l.take k).all (okTok ls.length) = true ∧ wr.ownsRow w1.heap.size 5 1 ov (flat ls (l.take k)).length (B8 (flat ls (l.take k))) ∧ Below w1.heap.size w1 wr) (fun _ i _ => t - (intOf i).toNat)
    case atStart => exact ⟨0, by omega, rfl, rfl, World.ownsRow_nil _ _ _ _, Below.refl _ _⟩
    case round =>
      obtain ⟨k, hk, rfl, hall, oo, hb2⟩ := hrel
      obtain ⟨Ao, co, rfl, _, _⟩ := own_rd oo
      have AL := Lib.hid hall
      clear hall
      by_cases hlt : k < t
      · obtain ⟨b, o, rfl, y1⟩ := (ht.below hb2).i64 k (by omega)
        have ea := addr_add b o k
        have TK := Lib.hid (List.take_succ_eq_append_getElem (show k < l.length by omega))
        have hmem : l[k]'(by omega) ∈ l := List.getElem_mem _
        generalize l[k]'(by omega) = x at *
        by_cases hbad : x < 0 ∨ (ls.length : Int) ≤ x
        · have hr : ¬ (l.all (okTok ls.length) = true) := by
            intro h
            have := List.all_eq_true.1 h x hmem
            simp [okTok] at this
            omega
          have NR := Lib.hid hr
          clear hr hmem
          by_cases z : x < 0
          · clear hbad
            go_wp2
            go_returns
            refine ⟨.slice none 0 0, by rw [HR.out, if_neg NR.out]; rfl, ?_, bthen hb hb2⟩
            rw [HY.out, if_neg NR.out]
            exact World.ownsRow_nil _ _ _ _
          · have z2 : (ls.length : Int) ≤ x := by omega
            clear hbad
            go_wp2
            go_returns
            refine ⟨.slice none 0 0, by rw [HR.out, if_neg NR.out]; rfl, ?_, bthen hb hb2⟩
            rw [HY.out, if_neg NR.out]
            exact World.ownsRow_nil _ _ _ _
        · clear hmem
          obtain ⟨q, rfl⟩ : ∃ q : Nat, x = (q : Int) := ⟨x.toNat, by omega⟩
          have hq : q < ls.length := by omega
          have hx : okTok ls.length (q : Int) = true := by simp [okTok]; omega
          have HX := Lib.hid hx
          clear hbad hx
          obtain ⟨v, hv1, ov⟩ := hp.get q hq
          have c3 := own_cell (own_below ho hb2) q _ hv1
          have ea2 : (⟨g, 0, none⟩ : Addr).add q = ⟨g, q, none⟩ := by simpa using addr_add g 0 q
          have ov' : wr.ownsRow w.heap.size 5 1 v (tok ls q).length (B8 (tok ls q)) := own_base (own_below ov hb2) (by simp)
          obtain ⟨va, vc, rfl, _, _⟩ := own_rd ov'
          have hsz : (tok ls q).length ≤ 16 := hT.small q
          have hfl := flat_small hT (l.take k)
          have hfl2 : (l.take k).length ≤ t := by simp; omega
          have FS := Lib.hid (flat_snoc ls (l.take k) (q : Int))
          clear ov
          go_wp2_with (at_builtin; refine appRow (w0 := w1) w1.heap.size rfl _ _ 34 5 (.int .u8 0) 1 rfl Try.underlying34 info5 rfl (by decide) (.slice Ao (flat ls (l.take k)).length co) (flat ls (l.take k)).length (B8 (flat ls (l.take k))) va (tok ls q).length vc (B8 (tok ls q)) rfl rfl (B8_length _) (B8_one _) (own_rdA ov') oo hb2 hb2.size (by omega) ?_; intro v1 w4 o1 hb5 hg5 hat5)
          go_roundw
          case rel =>
            refine ⟨k + 1, by omega, by go_num, ?_, ?_, hb5⟩
            · rw [TK.out, List.all_append, AL.out]
              simpa using HX.out
            · rw [TK.out, FS.out, List.length_append, B8_append]
              simpa using o1
          case measure => simp [intOf]; omega
      · obtain rfl : t = k := by omega
        have hr : l.all (okTok ls.length) = true := by
          have := AL.out
          rwa [List.take_of_length_le (by omega)] at this
        have hfe : flat ls (l.take t) = flat ls l := by rw [List.take_of_length_le (by omega)]
        generalize flat ls (l.take t) = F at *
        have FE := Lib.hid hfe
        have NR := Lib.hid hr
        clear hr hfe
        go_wp2
        go_returns
        refine ⟨_, by rw [HR.out, if_pos NR.out]; rfl, ?_, bthen hb hb2⟩
        rw [HY.out, if_pos NR.out, ← FE.out]
        exact own_base oo hb.size
/-- of right tokens -/
theorem dec_ok {bs : List Int} {ps : List (Int × Int)} {l : List Int} (h : okTs (toks bs ps).length l) (h2 : 2 ≤ (toks bs ps).length) : errD bs ps l = 0 ∧ bytD bs ps l = cameU (toks bs ps) l := by
  unfold toks at h h2 ⊢
  unfold errD bytD
  cases hq : vocF bs ps with
  | none => rw [hq] at h2; simp at h2
  | some ls =>
    rw [hq] at h
    have hall : l.all (okTok ls.length) = true := by
      rw [List.all_eq_true]
      intro x hx
      unfold okTok
      exact decide_eq_true (h x hx)
    dsimp only
    rw [if_pos hall, if_pos hall]
    refine ⟨rfl, ?_⟩
    unfold flat cameU
    rw [List.flatMap_def]
    rfl
end Go.Proofs.Ytcambbnmeiolgaa
namespace Go.Proofs.Ytcambbnmeiolgaa
open Go.RowKit
theorem newE_nil {bs : List Int} {ps : List (Int × Int)} (h : newE bs ps [] ≠ 0) : vocF bs ps = none := by
  cases hq : vocF bs ps with
  | none => rfl
  | some ls => exact absurd (newE_ok hq (by simp) (by simp)) h
theorem newE_nil0 {bs : List Int} {ps : List (Int × Int)} (h : newE bs ps [] = 0) : ∃ ls, vocF bs ps = some ls := by
  cases hq : vocF bs ps with
  | none => rw [newE_voc hq] at h; cases h
  | some ls => exact ⟨ls, rfl⟩
theorem baseT_pos {bs : List Int} {b : Int} (h : b ∈ bs) : 1 ≤ baseT bs b := by
  unfold baseT
  rw [if_pos h]
  omega
theorem enc_pos {bs : List Int} {ps : List (Int × Int)} {x : List Int} : ∀ y ∈ encL bs ps x, 1 ≤ y := by
  unfold encL
  cases vocF bs ps with
  | none => intro y hy; cases hy
  | some ls =>
    dsimp only
    split
    · refine joinAll_ind (Q := fun l => ∀ y ∈ l, 1 ≤ y) (fun l hl j hj => ?_) _ _ (Nat.le_refl _) ?_
      · exact joined_mem ps[j] (P := fun y => 1 ≤ y) (by show (1 : Int) ≤ _; omega) _ l (Nat.le_refl _) hl
      · intro y hy
        obtain ⟨b, hb, rfl⟩ := List.mem_map.1 hy
        rename_i hall
        rw [List.all_eq_true] at hall
        exact baseT_pos (of_decide_eq_true (hall b hb))
    · intro y hy; cases hy
/-- what Encode answers, and what its tokens are -/
theorem enc_what {bs : List Int} {ps : List (Int × Int)} {ls : List (List Int)} (hq : vocF bs ps = some ls) (x : List Int) : errE bs ps x = 51 ∨ (errE bs ps x = 0 ∧ okTs (toks bs ps).length (encL bs ps x) ∧ cameU (toks bs ps) (encL bs ps x) = x) := by
  have he : errE bs ps x = if x.all (fun b => decide (b ∈ bs)) then 0 else 51 := by unfold errE; rw [hq]
  cases hx : x.all (fun b => decide (b ∈ bs)) with
  | false => left; rw [he, hx]; rfl
  | true =>
    right
    obtain ⟨h1, h2⟩ := round_ok hq hx
    have hok : okTs (toks bs ps).length (encL bs ps x) := by
      unfold errD at h1
      rw [hq] at h1
      dsimp only at h1
      split at h1
      · rename_i hall
        rw [List.all_eq_true] at hall
        intro y hy
        have := of_decide_eq_true (hall y hy)
        unfold toks
        rw [hq]
        exact this
      · cases h1
    have h3 : 2 ≤ (toks bs ps).length := newE_some (newE_ok (strs := []) hq (by simp) (by simp))
    exact ⟨by rw [he, hx]; rfl, hok, by rw [← (dec_ok hok h3).2]; exact h2⟩
theorem enc_len (bs : List Int) (ps : List (Int × Int)) (x : List Int) : (encL bs ps x).length ≤ x.length := by
  unfold encL
  cases vocF bs ps with
  | none => simp
  | some ls =>
    dsimp only
    split
    · exact Nat.le_trans (joinAll_len _ _ _ _ (Nat.le_refl _)) (by simp)
    · simp
set_option maxRecDepth 100000 in
set_option maxHeartbeats 16000000 in
/-- TextWhole -/
theorem whole_law (A A' B K : Option Addr) (n m tn kn c c' tc kc : Nat) (bs : List Int) (ps : List (Int × Int)) (x cuts : List Int) (w : World) (hv : Voc w A A' n m bs ps) (hwf : Wf bs ps) (hx : x.length = tn) (rB : Rd w B (B8 x)) (hwx : ∀ b ∈ x, (Lit.int .u8 b).wf = true) (hk : cuts.length = kn) (rk : Rd w K (I64 cuts)) (hkn : kn ≤ 140737488355328) :
    Calls Try.prog 10 #[.agg #[.slice A n c, .slice A' m c'], .slice B tn tc, .slice K kn kc] w fun e w' => e = .returned (.bool true) ∧ Below w.heap.size w w' := by
  have h0 : Below w.heap.size w (w.alloc (.cells #[.slice A n c, .slice A' m c'] 37)) := by go_grown
  have q0 := Blk.new w #[.slice A n c, .slice A' m c'] 37
  have RB := Lib.hid rB
  have RK := Lib.hid rk
  have WX := Lib.hid hwx
  clear rB rk hwx
  go_enter Try.func10, Try.ntmps10
  go_wp2_with fail
  refine (long_any _ _).mono ?_
  rintro e w1 ⟨rfl, rfl⟩
  by_cases g1 : (2147483647 : Int) < tn
  · go_wp2
    go_returns
    exact ⟨rfl, h0⟩
  · go_wp2_with fail
    refine (fixed_any _).mono ?_
    rintro e w2 ⟨rfl, hb⟩
    replace q0 := q0.below hb
    replace hb := bthen h0 hb
    have hl2 := q0.lt
    have y0 : w2.cell? ⟨w.heap.size, 0, none⟩ = some (.slice A n c) := q0.cell _
    have y1 : w2.cell? ⟨w.heap.size, 1, none⟩ = some (.slice A' m c') := q0.cell _
    go_wp2_with fail
    refine (encode_any A A' B n m tn c c' tc bs ps x w2 (hv.below hb) hwf hx (RB.out.below hb) WX.out (by omega)).mono ?_
    rintro e w3 ⟨ve, rfl, oe, hb3⟩
    obtain ⟨uA, uc, rfl, hcap, _⟩ := own_rd oe
    have hel := enc_len bs ps x
    replace q0 := q0.below hb3
    replace hb := bthen hb hb3
    have hl3 := q0.lt
    clear y0 y1 hb3
    have y0 : w3.cell? ⟨w.heap.size, 0, none⟩ = some (.slice A n c) := q0.cell _
    have y1 : w3.cell? ⟨w.heap.size, 1, none⟩ = some (.slice A' m c') := q0.cell _
    go_wp2_with fail
    refine (new_any A A' none n m 0 c c' 0 bs ps [] w3 (hv.below hb) hwf rfl (.inl rfl) (by omega)).mono ?_
    rintro e w4 ⟨hb4, h4⟩
    replace q0 := q0.below hb4
    replace hb := bthen hb hb4
    replace oe := own_below oe hb4
    clear y0 y1
    have y0 : w4.cell? ⟨w.heap.size, 0, none⟩ = some (.slice A n c) := q0.cell _
    have y1 : w4.cell? ⟨w.heap.size, 1, none⟩ = some (.slice A' m c') := q0.cell _
    have N2 := Lib.hid (new_any A A' none n m 0 c c' 0 bs ps [] w4 (hv.below hb) hwf rfl (.inl rfl) (by omega))
    rcases h4 with ⟨hne, rfl⟩ | ⟨he0, p, hp, rfl, hs⟩
    · have hq := newE_nil hne
      have e5 : newE bs ps [] = 50 := newE_voc hq
      have e6 : errE bs ps x = 50 := by unfold errE; rw [hq]
      rw [e5, e6]
      clear hne e6
      go_wp2_with fail
      refine N2.out.mono ?_
      rintro e w5 ⟨hb5, (⟨_, rfl⟩ | ⟨he0, _⟩)⟩
      · rw [e5]
        have HB := Lib.hid (bthen hb hb5)
        clear hb hb5 q0 y0 y1 N2
        go_wp2
        go_returns
        exact ⟨rfl, HB.out⟩
      · rw [e5] at he0; cases he0
    · obtain ⟨ls, hq⟩ := newE_nil0 he0
      have hpl0 := hs.lt
      go_wp2_with fail
      refine N2.out.mono ?_
      rintro e w6 ⟨hb6, (⟨hne, _⟩ | ⟨_, p2, hp2, rfl, hs2⟩)⟩
      · exact absurd he0 hne
      · rcases enc_what hq x with e51 | ⟨e0, hok, hcame⟩
        · rw [e51]
          have HB := Lib.hid (bthen hb hb6)
          clear hb hb6 q0 y0 y1 N2 hs hs2
          go_wp2
          go_returns
          exact ⟨rfl, HB.out⟩
        · rw [e0]
          replace hs := hs.below hb6
          replace hb := bthen hb hb6
          replace oe := own_below oe hb6
          have htk := newE_some he0
          have hwp : w.heap.size < p := by omega
          have hwp2 : w.heap.size < p2 := by omega
          obtain ⟨v1, v2, hT0⟩ := two_new hb hs hs2 (by omega) (by omega) (by omega)
          have RP := Lib.hid (@enc_pos bs ps x)
          clear y0 y1 hb6 hs hs2 hb q0 N2 he0 e0 hv hp hp2 hl2 h0
          generalize encL bs ps x = all at *
          obtain ⟨wds, hwds⟩ : ∃ wds, toks bs ps = wds := ⟨_, rfl⟩
          rw [hwds] at hT0 htk hok hcame
          clear hwds hq
          have HC := Lib.hid hcame
          have OK := Lib.hid hok
          have HL1 := Lib.hid (fun j => cutF_len ([] : List (List UInt8)) wds (fun s hs => by cases hs) (fun y hy => (hT0.st1.w16 y hy).1) all j)
          have NV := Lib.hid (show ∀ j, (cutF [] wds all j).2.2 = false ∧ (cutF [] wds all j).1.length ≤ 3 from fun j => feedU_nil wds (all.take j) ([], [], false) (fun y hy => RP.out y (List.mem_of_mem_take hy)) rfl (by simp))
          have KP := Lib.hid (fun j => feedU_keep ([] : List (List UInt8)) wds hT0.st1.w16 (all.take j) ([], [], false) (fun y hy => RP.out y (List.mem_of_mem_take hy)) rfl (NV.out j).1)
          have OE := Lib.hid oe
          clear oe hcame hok
          go_wp2
          go_loopw [14, 15, 16, 17, 18, 19, 20, 21, 22] (fun av bv ai i _ _ _ _ _ wr => ∃ a k : Nat, a ≤ all.length ∧ k ≤ a ∧ ai = .int .i64 (a : Int) ∧ i = .int .i64 (k : Int) ∧ TwoS w w6 p p2 v1 v2 wds [] [] wr av bv (cutF [] wds all a).2.1 (cutF [] wds all a).2.1 ((cutF [] wds all a).1, false) ((cutF [] wds all a).1, false)) (fun _ _ ai _ _ _ _ _ _ _ => all.length - (intOf ai).toNat)
          case atStart => exact ⟨0, 0, by omega, by omega, rfl, rfl, hT0⟩
          case round =>
            obtain ⟨a, k, ha, hka, rfl, rfl, hT⟩ := hrel
            obtain ⟨aA, ac, rfl, _, _⟩ := own_rd hT.ra
            obtain ⟨bA, bc, rfl, _, _⟩ := own_rd hT.rb
            by_cases hlt : a < all.length
            · have g2 : (a : Int) < (all.length : Int) := by omega
              have rku := RK.out.below hT.bl
              obtain ⟨g, rfl⟩ : ∃ g, uA = some ⟨g, 0, none⟩ := by
                rcases OE.out.2 with ⟨_, h⟩ | ⟨g, _, _, h, _⟩
                · omega
                · injection h with h1; exact ⟨g, h1⟩
              have ea := addr_add g 0 a
              rw [Nat.zero_add] at ea
              obtain ⟨nn, hnn⟩ : ∃ nn : Nat, (all.length : Int) - (a : Int) = (nn : Int) := ⟨all.length - a, by omega⟩
              have hs8 : (a : Int) + (nn : Int) ≤ 2147483700 := by omega
              have hn1 : 1 ≤ nn := by omega
              by_cases hkk : k < kn
              · have g3 : (k : Int) < (kn : Int) := by omega
                obtain ⟨b, of, rfl, y9⟩ := rku.i64 k (by omega)
                have eb := addr_add b of k
                generalize cuts[k]'(by omega) = z at *
                by_cases hz0 : 0 < z
                · obtain ⟨r, hr⟩ : ∃ r : Nat, z = (r : Int) := ⟨z.toNat, by omega⟩
                  subst hr
                  by_cases hgt : nn < r
                  · have g4 : (nn : Int) < (r : Int) := by omega
                    clear rku
                    have FA := Lib.hid (cutF_add ([] : List (List UInt8)) wds all a nn)
                    have NA := (NV.out a).1
                    have NB := (NV.out (a + nn)).1
                    rw [NA] at FA
                    obtain ⟨Sx, hSx⟩ : ∃ Sx, feedU [] wds ((cutF [] wds all a).1, [], false) ((all.drop a).take nn) = Sx := ⟨_, rfl⟩
                    have SX := Lib.hid hSx
                    have FB := FA.out
                    rw [hSx] at FB
                    have hz : (cutF [] wds all a).2.1.length + Sx.2.1.length ≤ 70368744177664 := by
                      have := HL1.out (a + nn)
                      rw [FB] at this
                      simp only [sh, List.length_append] at this
                      omega
                    have hov : Sx.2.2 = false := by rw [FB] at NB; exact NB
                    have hO : (cutF [] wds all a).2.1 ++ Sx.2.1 = (cutF [] wds all (a + nn)).2.1 := by rw [FB]; rfl
                    have hT' : (cutF [] wds all (a + nn)).1 = Sx.1 := by rw [FB]; rfl
                    have HO := Lib.hid hO
                    have HTT := Lib.hid hT'
                    have hF1 := hT.feed2 (some ⟨g, a, none⟩) nn (uc - a) ((all.drop a).take nn) (by rw [List.length_take, List.length_drop]; omega) (by omega) (rd_piece (own_rdv (hT.ints (by decide) OE.out)) a nn (by omega)) (fun b o h _ => by cases h; obtain ⟨cs, hb⟩ := hT.b1; exact fun he => hb.not_row (by decide) OE.out (by rw [← he]; rfl)) (fun y hy => OK.out y (List.mem_of_mem_drop (List.mem_of_mem_take hy))) Sx hSx
                    clear FA FB NA NB hSx hO hT'
                    go_wp2_with fail
                    refine hF1.mono ?_
                    clear hF1
                    rintro e wB ⟨uB, ub, rfl, ou2, _, hT3⟩
                    have hF2 := hT3.swap.feed2 (some ⟨g, a, none⟩) nn (uc - a) ((all.drop a).take nn) (by rw [List.length_take, List.length_drop]; omega) (by omega) (rd_piece (own_rdv (hT3.ints (by decide) OE.out)) a nn (by omega)) (fun b o h _ => by cases h; obtain ⟨cs, hb⟩ := hT3.b2; exact fun he => hb.not_row (by decide) OE.out (by rw [← he]; rfl)) (fun y hy => OK.out y (List.mem_of_mem_drop (List.mem_of_mem_take hy))) Sx SX.out
                    go_wp2_with fail
                    refine hF2.mono ?_
                    clear hF2
                    rintro e wC ⟨uC, ud, rfl, ou3, kp3, hT4⟩
                    have ap2 := hT.fresh ou2
                    have ap3 := hT3.fresh ou3
                    have ou2' := kp3 _ _ _ _ _ _ hT.sz ou2
                    clear hT hT3 kp3 ou2
                    replace hT4 := hT4.swap
                    go_wp2_with fail
                    refine (hT4.join2 _ uB _ ub Sx.2.1 _ ou2' rfl (fun q hq => ap2.1 q hq) hz HO.out).mono ?_
                    rintro e wD ⟨aB, ad, rfl, kp4, hT5⟩
                    have ou3' := kp4 _ _ _ _ _ _ ou3 (apart_of (fun q hq => ap3.1 q hq))
                    clear hT4 kp4 ou3 ou2'
                    go_wp2_with fail
                    refine (hT5.swap.join2 _ uC _ ud Sx.2.1 _ ou3' rfl (fun q hq => ap3.2 q hq) hz HO.out).mono ?_
                    rintro e wE ⟨bB, bd, rfl, _, hT6⟩
                    replace hT6 := hT6.swap
                    rw [hov, ← HTT.out] at hT6
                    have HT := Lib.hid hT6
                    clear hT5 ou3' hT6 hz hov
                    go_wp2
                    go_roundw
                    case rel => exact ⟨a + nn, k + 1, by omega, by omega, by go_num, by go_num, HT.out⟩
                    case measure => simp [intOf]; omega
                  · have g4 : ¬ (nn : Int) < (r : Int) := by omega
                    have hs9 : (a : Int) + (r : Int) ≤ 2147483700 := by omega
                    have hr9 : 0 ≤ (r : Int) := by omega
                    clear rku
                    have FA := Lib.hid (cutF_add ([] : List (List UInt8)) wds all a r)
                    have NA := (NV.out a).1
                    have NB := (NV.out (a + r)).1
                    rw [NA] at FA
                    obtain ⟨Sx, hSx⟩ : ∃ Sx, feedU [] wds ((cutF [] wds all a).1, [], false) ((all.drop a).take r) = Sx := ⟨_, rfl⟩
                    have SX := Lib.hid hSx
                    have FB := FA.out
                    rw [hSx] at FB
                    have hz : (cutF [] wds all a).2.1.length + Sx.2.1.length ≤ 70368744177664 := by
                      have := HL1.out (a + r)
                      rw [FB] at this
                      simp only [sh, List.length_append] at this
                      omega
                    have hov : Sx.2.2 = false := by rw [FB] at NB; exact NB
                    have hO : (cutF [] wds all a).2.1 ++ Sx.2.1 = (cutF [] wds all (a + r)).2.1 := by rw [FB]; rfl
                    have hT' : (cutF [] wds all (a + r)).1 = Sx.1 := by rw [FB]; rfl
                    have HO := Lib.hid hO
                    have HTT := Lib.hid hT'
                    have hF1 := hT.feed2 (some ⟨g, a, none⟩) r (uc - a) ((all.drop a).take r) (by rw [List.length_take, List.length_drop]; omega) (by omega) (rd_piece (own_rdv (hT.ints (by decide) OE.out)) a r (by omega)) (fun b o h _ => by cases h; obtain ⟨cs, hb⟩ := hT.b1; exact fun he => hb.not_row (by decide) OE.out (by rw [← he]; rfl)) (fun y hy => OK.out y (List.mem_of_mem_drop (List.mem_of_mem_take hy))) Sx hSx
                    clear FA FB NA NB hSx hO hT'
                    go_wp2_with fail
                    refine hF1.mono ?_
                    clear hF1
                    rintro e wB ⟨uB, ub, rfl, ou2, _, hT3⟩
                    have hF2 := hT3.swap.feed2 (some ⟨g, a, none⟩) r (uc - a) ((all.drop a).take r) (by rw [List.length_take, List.length_drop]; omega) (by omega) (rd_piece (own_rdv (hT3.ints (by decide) OE.out)) a r (by omega)) (fun b o h _ => by cases h; obtain ⟨cs, hb⟩ := hT3.b2; exact fun he => hb.not_row (by decide) OE.out (by rw [← he]; rfl)) (fun y hy => OK.out y (List.mem_of_mem_drop (List.mem_of_mem_take hy))) Sx SX.out
                    go_wp2_with fail
                    refine hF2.mono ?_
                    clear hF2
                    rintro e wC ⟨uC, ud, rfl, ou3, kp3, hT4⟩
                    have ap2 := hT.fresh ou2
                    have ap3 := hT3.fresh ou3
                    have ou2' := kp3 _ _ _ _ _ _ hT.sz ou2
                    clear hT hT3 kp3 ou2
                    replace hT4 := hT4.swap
                    go_wp2_with fail
                    refine (hT4.join2 _ uB _ ub Sx.2.1 _ ou2' rfl (fun q hq => ap2.1 q hq) hz HO.out).mono ?_
                    rintro e wD ⟨aB, ad, rfl, kp4, hT5⟩
                    have ou3' := kp4 _ _ _ _ _ _ ou3 (apart_of (fun q hq => ap3.1 q hq))
                    clear hT4 kp4 ou3 ou2'
                    go_wp2_with fail
                    refine (hT5.swap.join2 _ uC _ ud Sx.2.1 _ ou3' rfl (fun q hq => ap3.2 q hq) hz HO.out).mono ?_
                    rintro e wE ⟨bB, bd, rfl, _, hT6⟩
                    replace hT6 := hT6.swap
                    rw [hov, ← HTT.out] at hT6
                    have HT := Lib.hid hT6
                    clear hT5 ou3' hT6 hz hov
                    go_wp2
                    go_roundw
                    case rel => exact ⟨a + r, k + 1, by omega, by omega, by go_num, by go_num, HT.out⟩
                    case measure => simp [intOf]; omega
                · have g4 : ¬ (nn : Int) < 1 := by omega
                  clear rku
                  have FA := Lib.hid (cutF_add ([] : List (List UInt8)) wds all a 1)
                  have NA := (NV.out a).1
                  have NB := (NV.out (a + 1)).1
                  rw [NA] at FA
                  obtain ⟨Sx, hSx⟩ : ∃ Sx, feedU [] wds ((cutF [] wds all a).1, [], false) ((all.drop a).take 1) = Sx := ⟨_, rfl⟩
                  have SX := Lib.hid hSx
                  have FB := FA.out
                  rw [hSx] at FB
                  have hz : (cutF [] wds all a).2.1.length + Sx.2.1.length ≤ 70368744177664 := by
                    have := HL1.out (a + 1)
                    rw [FB] at this
                    simp only [sh, List.length_append] at this
                    omega
                  have hov : Sx.2.2 = false := by rw [FB] at NB; exact NB
                  have hO : (cutF [] wds all a).2.1 ++ Sx.2.1 = (cutF [] wds all (a + 1)).2.1 := by rw [FB]; rfl
                  have hT' : (cutF [] wds all (a + 1)).1 = Sx.1 := by rw [FB]; rfl
                  have HO := Lib.hid hO
                  have HTT := Lib.hid hT'
                  have hF1 := hT.feed2 (some ⟨g, a, none⟩) 1 (uc - a) ((all.drop a).take 1) (by rw [List.length_take, List.length_drop]; omega) (by omega) (rd_piece (own_rdv (hT.ints (by decide) OE.out)) a 1 (by omega)) (fun b o h _ => by cases h; obtain ⟨cs, hb⟩ := hT.b1; exact fun he => hb.not_row (by decide) OE.out (by rw [← he]; rfl)) (fun y hy => OK.out y (List.mem_of_mem_drop (List.mem_of_mem_take hy))) Sx hSx
                  clear FA FB NA NB hSx hO hT'
                  go_wp2_with fail
                  refine hF1.mono ?_
                  clear hF1
                  rintro e wB ⟨uB, ub, rfl, ou2, _, hT3⟩
                  have hF2 := hT3.swap.feed2 (some ⟨g, a, none⟩) 1 (uc - a) ((all.drop a).take 1) (by rw [List.length_take, List.length_drop]; omega) (by omega) (rd_piece (own_rdv (hT3.ints (by decide) OE.out)) a 1 (by omega)) (fun b o h _ => by cases h; obtain ⟨cs, hb⟩ := hT3.b2; exact fun he => hb.not_row (by decide) OE.out (by rw [← he]; rfl)) (fun y hy => OK.out y (List.mem_of_mem_drop (List.mem_of_mem_take hy))) Sx SX.out
                  go_wp2_with fail
                  refine hF2.mono ?_
                  clear hF2
                  rintro e wC ⟨uC, ud, rfl, ou3, kp3, hT4⟩
                  have ap2 := hT.fresh ou2
                  have ap3 := hT3.fresh ou3
                  have ou2' := kp3 _ _ _ _ _ _ hT.sz ou2
                  clear hT hT3 kp3 ou2
                  replace hT4 := hT4.swap
                  go_wp2_with fail
                  refine (hT4.join2 _ uB _ ub Sx.2.1 _ ou2' rfl (fun q hq => ap2.1 q hq) hz HO.out).mono ?_
                  rintro e wD ⟨aB, ad, rfl, kp4, hT5⟩
                  have ou3' := kp4 _ _ _ _ _ _ ou3 (apart_of (fun q hq => ap3.1 q hq))
                  clear hT4 kp4 ou3 ou2'
                  go_wp2_with fail
                  refine (hT5.swap.join2 _ uC _ ud Sx.2.1 _ ou3' rfl (fun q hq => ap3.2 q hq) hz HO.out).mono ?_
                  rintro e wE ⟨bB, bd, rfl, _, hT6⟩
                  replace hT6 := hT6.swap
                  rw [hov, ← HTT.out] at hT6
                  have HT := Lib.hid hT6
                  clear hT5 ou3' hT6 hz hov
                  go_wp2
                  go_roundw
                  case rel => exact ⟨a + 1, k + 1, by omega, by omega, by go_num, by go_num, HT.out⟩
                  case measure => simp [intOf]; omega
              · have g3 : ¬ (k : Int) < (kn : Int) := by omega
                have g4 : ¬ (nn : Int) < 1 := by omega
                clear rku
                have FA := Lib.hid (cutF_add ([] : List (List UInt8)) wds all a 1)
                have NA := (NV.out a).1
                have NB := (NV.out (a + 1)).1
                rw [NA] at FA
                obtain ⟨Sx, hSx⟩ : ∃ Sx, feedU [] wds ((cutF [] wds all a).1, [], false) ((all.drop a).take 1) = Sx := ⟨_, rfl⟩
                have SX := Lib.hid hSx
                have FB := FA.out
                rw [hSx] at FB
                have hz : (cutF [] wds all a).2.1.length + Sx.2.1.length ≤ 70368744177664 := by
                  have := HL1.out (a + 1)
                  rw [FB] at this
                  simp only [sh, List.length_append] at this
                  omega
                have hov : Sx.2.2 = false := by rw [FB] at NB; exact NB
                have hO : (cutF [] wds all a).2.1 ++ Sx.2.1 = (cutF [] wds all (a + 1)).2.1 := by rw [FB]; rfl
                have hT' : (cutF [] wds all (a + 1)).1 = Sx.1 := by rw [FB]; rfl
                have HO := Lib.hid hO
                have HTT := Lib.hid hT'
                have hF1 := hT.feed2 (some ⟨g, a, none⟩) 1 (uc - a) ((all.drop a).take 1) (by rw [List.length_take, List.length_drop]; omega) (by omega) (rd_piece (own_rdv (hT.ints (by decide) OE.out)) a 1 (by omega)) (fun b o h _ => by cases h; obtain ⟨cs, hb⟩ := hT.b1; exact fun he => hb.not_row (by decide) OE.out (by rw [← he]; rfl)) (fun y hy => OK.out y (List.mem_of_mem_drop (List.mem_of_mem_take hy))) Sx hSx
                clear FA FB NA NB hSx hO hT'
                go_wp2_with fail
                refine hF1.mono ?_
                clear hF1
                rintro e wB ⟨uB, ub, rfl, ou2, _, hT3⟩
                have hF2 := hT3.swap.feed2 (some ⟨g, a, none⟩) 1 (uc - a) ((all.drop a).take 1) (by rw [List.length_take, List.length_drop]; omega) (by omega) (rd_piece (own_rdv (hT3.ints (by decide) OE.out)) a 1 (by omega)) (fun b o h _ => by cases h; obtain ⟨cs, hb⟩ := hT3.b2; exact fun he => hb.not_row (by decide) OE.out (by rw [← he]; rfl)) (fun y hy => OK.out y (List.mem_of_mem_drop (List.mem_of_mem_take hy))) Sx SX.out
                go_wp2_with fail
                refine hF2.mono ?_
                clear hF2
                rintro e wC ⟨uC, ud, rfl, ou3, kp3, hT4⟩
                have ap2 := hT.fresh ou2
                have ap3 := hT3.fresh ou3
                have ou2' := kp3 _ _ _ _ _ _ hT.sz ou2
                clear hT hT3 kp3 ou2
                replace hT4 := hT4.swap
                go_wp2_with fail
                refine (hT4.join2 _ uB _ ub Sx.2.1 _ ou2' rfl (fun q hq => ap2.1 q hq) hz HO.out).mono ?_
                rintro e wD ⟨aB, ad, rfl, kp4, hT5⟩
                have ou3' := kp4 _ _ _ _ _ _ ou3 (apart_of (fun q hq => ap3.1 q hq))
                clear hT4 kp4 ou3 ou2'
                go_wp2_with fail
                refine (hT5.swap.join2 _ uC _ ud Sx.2.1 _ ou3' rfl (fun q hq => ap3.2 q hq) hz HO.out).mono ?_
                rintro e wE ⟨bB, bd, rfl, _, hT6⟩
                replace hT6 := hT6.swap
                rw [hov, ← HTT.out] at hT6
                have HT := Lib.hid hT6
                clear hT5 ou3' hT6 hz hov
                go_wp2
                go_roundw
                case rel => exact ⟨a + 1, k + 1, by omega, by omega, by go_num, by go_num, HT.out⟩
                case measure => simp [intOf]; omega
            · obtain rfl : a = all.length := by omega
              have hkp := KP.out all.length
              have hcl := HC.out
              rw [List.take_length] at hkp
              rw [hcl] at hkp
              have hkp2 : (cutF [] wds all all.length).2.1 ++ bI (cutF [] wds all all.length).1 = x := by unfold cutF; rw [List.take_length]; exact hkp
              have hT3l := (NV.out all.length).2
              obtain ⟨o, ho⟩ : ∃ o, (cutF [] wds all all.length).2.1 = o := ⟨_, rfl⟩
              obtain ⟨tl, htl⟩ : ∃ tl, (cutF [] wds all all.length).1 = tl := ⟨_, rfl⟩
              rw [ho, htl] at hT hkp2
              rw [htl] at hT3l
              rw [ho]
              clear ho htl hkp hcl
              have HKP := Lib.hid hkp2
              have hol : o.length + tl.length = x.length := by rw [← hkp2, List.length_append, bI_length]
              have h00 : 0 < wds.length := by omega
              have hle := HL1.out 0
              clear hkp2 hle
              go_wp2_with fail
              have k3 := Blk.new wr #[.int .i64 0] 3
              have h3 : Below wr.heap.size wr (wr.alloc (.cells #[.int .i64 0] 3)) := by go_grown
              have hF := (hT.below h3).swap.feed2 (some ⟨wr.heap.size, 0, none⟩) 1 1 [0] rfl (by omega) (blk_rd k3 rfl) (fun b o h _ => by cases h; have := hT.swap.lt1; have := hT.sz; omega) (fun y hy => by rw [List.mem_singleton.1 hy]; omega) ([], bI tl, true) rfl
              refine hF.mono ?_
              clear hF
              rintro e wB ⟨uB, ub, rfl, ou2, _, hT4⟩
              have ap2 := (hT.below h3).fresh ou2
              clear k3 h3 hT
              go_wp2_with fail
              refine (hT4.join2 _ uB _ ub (bI tl) x ou2 rfl (fun q hq => ap2.2 q hq) (by rw [bI_length]; omega) HKP.out).mono ?_
              rintro e wC ⟨bB, bd, rfl, _, hT5⟩
              clear hT4 ou2 ap2
              replace hT5 := hT5.swap
              go_wp2_with fail
              refine (hT5.close2 h00 (bI tl) [] rfl rfl).mono ?_
              rintro e wD ⟨uC, ud, rfl, ou3, _, hT6⟩
              have ap3 := hT5.fresh ou3
              clear hT5
              go_wp2_with fail
              refine (hT6.join2 _ uC _ ud (bI tl) x ou3 rfl (fun q hq => ap3.1 q hq) (by rw [bI_length]; omega) HKP.out).mono ?_
              rintro e wE ⟨aB, ad, rfl, _, hT7⟩
              clear hT6 ou3 ap3
              have rx := RB.out.below hT7.bl
              subst hx
              go_wp2_with fail
              refine (eqBytes_any aB B _ _ _ _ x x rfl rfl (by omega) wE (own_rdv hT7.ra) rx).mono ?_
              rintro e wF ⟨rfl, hbF⟩
              rw [decide_eq_true (rfl : x = x)]
              have hT8 := hT7.below hbF
              clear hT7 hbF rx
              have rx := RB.out.below hT8.bl
              go_wp2_with fail
              refine (eqBytes_any bB B _ _ _ _ x x rfl rfl (by omega) wF (own_rdv hT8.rb) rx).mono ?_
              rintro e wG ⟨rfl, hbG⟩
              rw [decide_eq_true (rfl : x = x)]
              have hT9 := hT8.below hbG
              clear hT8 hbG rx
              go_wp2_with fail
              refine hT9.swap.over.mono ?_
              rintro e wH ⟨rfl, rfl⟩
              have HB := Lib.hid hT9.bl
              clear hT9
              go_wp2
              go_returns
              exact ⟨rfl, HB.out⟩
end Go.Proofs.Ytcambbnmeiolgaa
namespace Go.Proofs.Ytcambbnmeiolgaa
open Go.RowKit
/-! Pieces of whole runes -/
theorem RunI.fresh {s : S3} {f : List UInt8} (h : RunI s f) : RunI (s.1, [], s.2.2) f := by
  obtain ⟨o, _, _, h3⟩ := h
  exact ⟨[], rfl, whole_nil, h3⟩
theorem came_app (wds : List (List Int)) (l m : List Int) : cameU wds (l ++ m) = cameU wds l ++ cameU wds m := by simp [cameU]
theorem cut_run {sts : List (List UInt8)} (hw : ∀ s ∈ sts, Whole s) {wds : List (List Int)} {all : List Int} (h1 : ∀ x ∈ all, 1 ≤ x) (hW : Whole ((cameU wds all).map u8)) (a : Nat) : RunI (cutF sts wds all a) ((cameU wds (all.drop a)).map u8) := by
  unfold cutF
  refine runI_feed hw wds (all.take a) ([], [], false) _ (fun x hx => h1 x (List.mem_of_mem_take hx)) ?_
  refine ⟨[], rfl, whole_nil, fun _ => ?_⟩
  rw [← List.map_append, ← came_app, List.take_append_drop, List.nil_append]
  exact hW
theorem piece_run {sts : List (List UInt8)} (hw : ∀ s ∈ sts, Whole s) {wds : List (List Int)} {all : List Int} (h1 : ∀ x ∈ all, 1 ≤ x) (hW : Whole ((cameU wds all).map u8)) (a n : Nat) : Whole (toU (feedU sts wds ((cutF sts wds all a).1, [], (cutF sts wds all a).2.2) ((all.drop a).take n)).2.1) := by
  have h := (cut_run hw h1 hW a).fresh
  have e : all.drop a = (all.drop a).take n ++ (all.drop a).drop n := (List.take_append_drop _ _).symm
  rw [e, came_app, List.map_append] at h
  obtain ⟨o, ho, hwo, _⟩ := runI_feed hw wds ((all.drop a).take n) _ _ (fun x hx => h1 x (List.mem_of_mem_drop (List.mem_of_mem_take hx))) h
  rw [ho]
  unfold toU
  rw [u8_bI]
  exact hwo
theorem end_run {sts : List (List UInt8)} (hw : ∀ s ∈ sts, Whole s) {wds : List (List Int)} {all : List Int} (h1 : ∀ x ∈ all, 1 ≤ x) (hW : Whole ((cameU wds all).map u8)) : Whole (toU (if (cutF sts wds all all.length).2.2 then [] else bI (cutF sts wds all all.length).1)) := by
  obtain ⟨_, _, _, h3⟩ := cut_run hw h1 hW all.length
  rw [List.drop_length] at h3
  cases h : (cutF sts wds all all.length).2.2 with
  | true => rw [if_pos rfl]; exact whole_nil
  | false =>
    rw [if_neg (by simp)]
    unfold toU
    rw [u8_bI]
    have := h3 h
    simpa [cameU] using this
theorem voc_base {bs : List Int} (hn : bs.Nodup) (h1 : 1 ≤ bs.length) (h43 : bs.length ≤ 43) : vocF bs [] = some (base0 bs) := by
  unfold vocF
  rw [if_pos (by unfold fits; simp; omega), if_pos hn]
  rfl
theorem voc_none : vocF [] [] = none := by
  unfold vocF
  rw [if_neg (by unfold fits; simp)]
theorem err_known {bs t : List Int} {ls : List (List Int)} (hq : vocF bs [] = some ls) (h : ∀ b ∈ t, b ∈ bs) : errE bs [] t = 0 := by
  unfold errE
  rw [hq]
  dsimp only
  rw [if_pos (by rw [List.all_eq_true]; intro b hb; exact decide_eq_true (h b hb))]
theorem wf_u8 {x : Int} (h : 0 ≤ x ∧ x < 256) : (Lit.int .u8 x).wf = true := by
  simp [Lit.wf, IntKind.min, IntKind.max, IntKind.signed, IntKind.bits]
  omega
end Go.Proofs.Ytcambbnmeiolgaa
