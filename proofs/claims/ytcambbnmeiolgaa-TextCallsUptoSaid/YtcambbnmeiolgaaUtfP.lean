import Derived.Test.YtcambbnmeiolgaaWaiP
namespace Go.Proofs.Ytcambbnmeiolgaa
open Go.RowKit
/-! Runes as bytes: decoding a list of bytes; whole runes -/
/-- decoding at the front of a list of bytes -/
def decL (l : List UInt8) : Nat × Nat :=
  let at' (k : Nat) : Nat := (l.getD k 0).toNat
  let cont (k : Nat) : Bool := decide (k < l.length) && at' k / 64 == 2
  let b0 := at' 0
  if b0 < 0x80 then (b0, 1)
  else if b0 / 32 == 6 && cont 1 then
    let c := (b0 % 32) * 64 + at' 1 % 64
    if c ≥ 0x80 then (c, 2) else (Utf8.runeError, 1)
  else if b0 / 16 == 14 && cont 1 && cont 2 then
    let c := (b0 % 16) * 4096 + (at' 1 % 64) * 64 + at' 2 % 64
    if c ≥ 0x800 && Utf8.valid c then (c, 3) else (Utf8.runeError, 1)
  else if b0 / 8 == 30 && cont 1 && cont 2 && cont 3 then
    let c := (b0 % 8) * 262144 + (at' 1 % 64) * 4096 + (at' 2 % 64) * 64 + at' 3 % 64
    if c ≥ 0x10000 && Utf8.valid c then (c, 4) else (Utf8.runeError, 1)
  else (Utf8.runeError, 1)
theorem get_lst (s : ByteArray) (i k : Nat) : s.get! (i + k) = ((lst s).drop i).getD k 0 := by
  rw [List.getD_eq_getElem?_getD, List.getElem?_drop]
  show s.data[i + k]! = _
  rw [getElem!_def]
  cases h : s.data[i + k]? with
  | none =>
    have : (lst s)[i + k]? = none := by rw [← h]; simp [lst]
    rw [this]; rfl
  | some x =>
    have : (lst s)[i + k]? = some x := by rw [← h]; simp [lst]
    rw [this]; rfl
theorem decode_lst (s : ByteArray) (i : Nat) : Utf8.decode s i = decL ((lst s).drop i) := by
  have hc : ∀ k, decide (i + k < s.size) = decide (k < ((lst s).drop i).length) := by
    intro k
    rw [List.length_drop, lst_length]
    exact decide_eq_decide.2 (by omega)
  unfold Utf8.decode decL
  simp only [get_lst, hc]
/-- a code point -/
def okC (c : Nat) : Prop := c < 0xD800 ∨ (0xE000 ≤ c ∧ c ≤ 0x10FFFF)
theorem valid_okC {c : Nat} : Utf8.valid (c : Int) = true ↔ okC c := by
  unfold Utf8.valid okC
  simp only [Bool.or_eq_true, Bool.and_eq_true, decide_eq_true_eq]
  omega
/-- its bytes -/
def encN (c : Nat) : List UInt8 :=
  if c < 0x80 then [UInt8.ofNat c]
  else if c < 0x800 then [UInt8.ofNat (0xC0 + c / 64), UInt8.ofNat (0x80 + c % 64)]
  else if c < 0x10000 then [UInt8.ofNat (0xE0 + c / 4096), UInt8.ofNat (0x80 + c / 64 % 64), UInt8.ofNat (0x80 + c % 64)]
  else [UInt8.ofNat (0xF0 + c / 262144), UInt8.ofNat (0x80 + c / 4096 % 64), UInt8.ofNat (0x80 + c / 64 % 64), UInt8.ofNat (0x80 + c % 64)]
theorem encode_eqN (r : Int) : lst (Utf8.encode r) = encN (if Utf8.valid r then r.toNat else Utf8.runeError) := by
  unfold Utf8.encode
  generalize (if Utf8.valid r then r.toNat else Utf8.runeError) = c
  unfold encN
  dsimp only
  (repeat' split) <;> rfl
theorem encode_ok (r : Int) : ∃ c, okC c ∧ lst (Utf8.encode r) = encN c := by
  refine ⟨_, ?_, encode_eqN r⟩
  split
  · rename_i h
    have h0 : ((r.toNat : Nat) : Int) = r := by
      unfold Utf8.valid at h
      simp only [Bool.or_eq_true, Bool.and_eq_true, decide_eq_true_eq] at h
      omega
    rw [← valid_okC, h0]
    exact h
  · unfold okC Utf8.runeError
    omega
theorem encode_of {c : Nat} (h : okC c) : lst (Utf8.encode (c : Int)) = encN c := by
  rw [encode_eqN, if_pos (valid_okC.2 h), Int.toNat_natCast]
theorem ofN {n : Nat} (h : n < 256) : (UInt8.ofNat n).toNat = n := by
  rw [UInt8.toNat_ofNat']
  omega
theorem encN_len (c : Nat) : 1 ≤ (encN c).length ∧ (encN c).length ≤ 4 := by
  unfold encN
  (repeat' split) <;> simp
/-- the decoding of a rune's bytes, whatever follows -/
theorem dec_enc {c : Nat} (h : okC c) (t : List UInt8) : decL (encN c ++ t) = (c, (encN c).length) := by
  have hv := valid_okC.2 h
  unfold okC at h
  unfold encN
  split
  · rename_i h1
    unfold decL
    simp only [List.cons_append, List.nil_append, List.getD_cons_zero, ofN (show c < 256 by omega), if_pos h1]
    rfl
  · rename_i h1
    split
    · rename_i h2
      unfold decL
      simp only [List.cons_append, List.nil_append, List.getD_cons_zero, List.getD_cons_succ, ofN (show 0xC0 + c / 64 < 256 by omega), ofN (show 0x80 + c % 64 < 256 by omega), List.length_cons]
      rw [if_neg (by omega), if_pos (by simp; omega), if_pos (by omega)]
      simp only [List.length_nil, Prod.mk.injEq, and_true]
      omega
    · rename_i h2
      split
      · rename_i h3
        unfold decL
        simp only [List.cons_append, List.nil_append, List.getD_cons_zero, List.getD_cons_succ, ofN (show 0xE0 + c / 4096 < 256 by omega), ofN (show 0x80 + c / 64 % 64 < 256 by omega), ofN (show 0x80 + c % 64 < 256 by omega), List.length_cons]
        have e : (0xE0 + c / 4096) % 16 * 4096 + (0x80 + c / 64 % 64) % 64 * 64 + (0x80 + c % 64) % 64 = c := by omega
        rw [if_neg (by omega), if_neg (by simp; omega), if_pos (by simp; omega), e, if_pos (by rw [hv]; simp; omega)]
        rfl
      · rename_i h3
        unfold decL
        simp only [List.cons_append, List.nil_append, List.getD_cons_zero, List.getD_cons_succ, ofN (show 0xF0 + c / 262144 < 256 by omega), ofN (show 0x80 + c / 4096 % 64 < 256 by omega), ofN (show 0x80 + c / 64 % 64 < 256 by omega), ofN (show 0x80 + c % 64 < 256 by omega), List.length_cons]
        have e : (0xF0 + c / 262144) % 8 * 262144 + (0x80 + c / 4096 % 64) % 64 * 4096 + (0x80 + c / 64 % 64) % 64 * 64 + (0x80 + c % 64) % 64 = c := by omega
        rw [if_neg (by omega), if_neg (by simp; omega), if_neg (by simp; omega), if_pos (by simp; omega), e, if_pos (by rw [hv]; simp; omega)]
        rfl
theorem u8_eq {a : UInt8} {n : Nat} (h : a.toNat = n) : a = UInt8.ofNat n := by
  subst h
  simp
theorem lt256 (a : UInt8) : a.toNat < 256 := a.toNat_lt
theorem list2 {t : List UInt8} (h : 2 ≤ t.length) : ∃ b d u, t = b :: d :: u := by
  match t, h with
  | b :: d :: u, _ => exact ⟨b, d, u, rfl⟩
  | [_], h => simp at h
theorem list3 {t : List UInt8} (h : 3 ≤ t.length) : ∃ b d e u, t = b :: d :: e :: u := by
  match t, h with
  | b :: d :: e :: u, _ => exact ⟨b, d, e, u, rfl⟩
  | [_, _], h => simp at h
  | [_], h => simp at h
set_option maxRecDepth 10000 in
set_option maxHeartbeats 4000000 in
/-- what the decoding of a list that is not empty tells -/
theorem dec_inv (a : UInt8) (t : List UInt8) : (a.toNat < 128 ∧ decL (a :: t) = (a.toNat, 1)) ∨ (128 ≤ a.toNat ∧ decL (a :: t) = (Utf8.runeError, 1)) ∨ ∃ c r, okC c ∧ 128 ≤ c ∧ a :: t = encN c ++ r ∧ decL (a :: t) = (c, (encN c).length) ∧ 2 ≤ (encN c).length := by
  by_cases h : a.toNat < 128
  · left
    refine ⟨h, ?_⟩
    unfold decL
    simp only [List.getD_cons_zero, if_pos h]
  · right
    have fin : ∀ c r, okC c → 128 ≤ c → a :: t = encN c ++ r → ((128 ≤ a.toNat ∧ decL (a :: t) = (Utf8.runeError, 1)) ∨ ∃ c r, okC c ∧ 128 ≤ c ∧ a :: t = encN c ++ r ∧ decL (a :: t) = (c, (encN c).length) ∧ 2 ≤ (encN c).length) := by
      intro c r h1 h2 h3
      refine .inr ⟨c, r, h1, h2, h3, by rw [h3]; exact dec_enc h1 r, ?_⟩
      unfold encN
      rw [if_neg (by omega)]
      (repeat' split) <;> simp
    have ha := lt256 a
    obtain ⟨D, hd0⟩ : ∃ D, decL (a :: t) = D := ⟨_, rfl⟩
    have hd := hd0
    unfold decL at hd
    simp only [List.getD_cons_zero] at hd
    rw [if_neg h] at hd
    split at hd
    · rename_i h1
      simp only [Bool.and_eq_true, beq_iff_eq, decide_eq_true_eq] at h1
      obtain ⟨h1, h2, h3⟩ := h1
      cases t with
      | nil => simp at h2
      | cons b t =>
        have hb := lt256 b
        simp only [List.getD_cons_succ, List.getD_cons_zero] at h3 hd
        split at hd
        · rename_i h4
          exact fin (a.toNat % 32 * 64 + b.toNat % 64) t (by unfold okC; omega) h4 (by
            unfold encN
            rw [if_neg (by omega), if_pos (by omega)]
            simp only [List.cons_append, List.nil_append, List.cons.injEq, and_true]
            exact ⟨u8_eq (by omega), u8_eq (by omega)⟩)
        · left; exact ⟨by omega, hd0.trans hd.symm⟩
    · split at hd
      · rename_i h0 h1
        simp only [Bool.and_eq_true, beq_iff_eq, decide_eq_true_eq] at h1
        obtain ⟨⟨h1, h2, h3⟩, h4, h5⟩ := h1
        obtain ⟨b, d, t, rfl⟩ := list2 (t := t) (by simp at h4; omega)
        · have hb := lt256 b
          have hdd := lt256 d
          simp only [List.getD_cons_succ, List.getD_cons_zero] at h3 h5 hd
          split at hd
          · rename_i h6
            simp only [Bool.and_eq_true, decide_eq_true_eq] at h6
            exact fin (a.toNat % 16 * 4096 + b.toNat % 64 * 64 + d.toNat % 64) t (valid_okC.1 h6.2) (by omega) (by
              unfold encN
              rw [if_neg (by omega), if_neg (by omega), if_pos (by omega)]
              simp only [List.cons_append, List.nil_append, List.cons.injEq, and_true]
              exact ⟨u8_eq (by omega), u8_eq (by omega), u8_eq (by omega)⟩)
          · left; exact ⟨by omega, hd0.trans hd.symm⟩
      · split at hd
        · rename_i h0 h0' h1
          simp only [Bool.and_eq_true, beq_iff_eq, decide_eq_true_eq] at h1
          obtain ⟨⟨⟨h1, h2, h3⟩, h4, h5⟩, h6, h7⟩ := h1
          obtain ⟨b, d, e, t, rfl⟩ := list3 (t := t) (by simp at h6; omega)
          · have hb := lt256 b
            have hdd := lt256 d
            have hee := lt256 e
            simp only [List.getD_cons_succ, List.getD_cons_zero] at h3 h5 h7 hd
            split at hd
            · rename_i h8
              simp only [Bool.and_eq_true, decide_eq_true_eq] at h8
              exact fin (a.toNat % 8 * 262144 + b.toNat % 64 * 4096 + d.toNat % 64 * 64 + e.toNat % 64) t (valid_okC.1 h8.2) (by omega) (by
                unfold encN
                rw [if_neg (by omega), if_neg (by omega), if_neg (by omega)]
                simp only [List.cons_append, List.nil_append, List.cons.injEq, and_true]
                exact ⟨u8_eq (by omega), u8_eq (by omega), u8_eq (by omega), u8_eq (by omega)⟩)
            · left; exact ⟨by omega, hd0.trans hd.symm⟩
        · left; exact ⟨by omega, hd0.trans hd.symm⟩
/-- a byte within a rune -/
def contB (x : UInt8) : Prop := x.toNat / 64 = 2
/-- the first byte of a rune is none within a rune, the others are -/
theorem enc_first {c : Nat} (h : okC c) : ∃ a t, encN c = a :: t ∧ ¬ contB a ∧ ∀ x ∈ t, contB x := by
  unfold okC at h
  unfold contB encN
  split
  · exact ⟨_, _, rfl, by rw [ofN (by omega)]; omega, fun x hx => by cases hx⟩
  · split
    · refine ⟨_, _, rfl, by rw [ofN (by omega)]; omega, fun x hx => ?_⟩
      simp only [List.mem_cons, List.not_mem_nil, or_false] at hx
      subst hx
      rw [ofN (by omega)]; omega
    · split
      · refine ⟨_, _, rfl, by rw [ofN (by omega)]; omega, fun x hx => ?_⟩
        simp only [List.mem_cons, List.not_mem_nil, or_false] at hx
        rcases hx with rfl | rfl <;> (rw [ofN (by omega)]; omega)
      · refine ⟨_, _, rfl, by rw [ofN (by omega)]; omega, fun x hx => ?_⟩
        simp only [List.mem_cons, List.not_mem_nil, or_false] at hx
        rcases hx with rfl | rfl | rfl <;> (rw [ofN (by omega)]; omega)
/-! Beginnings of runes -/
theorem oneB_iff (y : List UInt8) : oneB ⟨y.toArray⟩ = true ↔ y ≠ [] ∧ y.length ≤ (decL y).2 := by
  have hs : (⟨y.toArray⟩ : ByteArray).size = y.length := List.size_toArray
  have hd : Utf8.decode ⟨y.toArray⟩ 0 = decL y := by rw [decode_lst]; rfl
  unfold oneB
  rw [decide_eq_true_eq, hs, hd, List.length_pos_iff]
theorem tryB_iff (x : List UInt8) (k n : Nat) : tryB ⟨x.toArray⟩ k n = oneB ⟨(x ++ Lib.repeatL (lst (fillA k)) (n - x.length)).toArray⟩ := by
  unfold tryB
  have hs : (⟨x.toArray⟩ : ByteArray).size = x.length := List.size_toArray
  rw [hs]
  congr 1
theorem begL_some {x : List UInt8} (hx : x ≠ []) (h : begL x = true) : ∃ c y, okC c ∧ y ≠ [] ∧ encN c = x ++ y := by
  have hs : (⟨x.toArray⟩ : ByteArray).size = x.length := List.size_toArray
  unfold begL begB at h
  rw [List.any_eq_true] at h
  obtain ⟨k, hk, h⟩ := h
  rw [List.any_eq_true] at h
  obtain ⟨n, hn, h⟩ := h
  rw [Bool.and_eq_true, decide_eq_true_eq, hs, tryB_iff, oneB_iff] at h
  obtain ⟨h1, h2, h3⟩ := h
  have hf : (lst (fillA k)).length = 1 := by rw [lst_length, fill_size]
  have hl := Lib.repeatL_length (lst (fillA k)) (n - x.length)
  rw [hf] at hl
  have hl2 : (x ++ Lib.repeatL (lst (fillA k)) (n - x.length)).length = n := by rw [List.length_append, hl]; omega
  have hp : 0 < x.length := List.length_pos_iff.2 hx
  cases hy : x ++ Lib.repeatL (lst (fillA k)) (n - x.length) with
  | nil => exact absurd hy h2
  | cons a t =>
    rw [hy] at h3 hl2
    rcases dec_inv a t with ⟨_, h4⟩ | ⟨_, h4⟩ | ⟨c, r, hc, _, he, h4, _⟩
    · rw [h4] at h3; simp only at h3; omega
    · rw [h4] at h3; simp only at h3; omega
    · rw [h4] at h3
      have h5 := congrArg List.length he
      rw [List.length_append] at h5
      simp only at h3
      have hr : r = [] := List.length_eq_zero_iff.1 (by omega)
      refine ⟨c, Lib.repeatL (lst (fillA k)) (n - x.length), hc, ?_, ?_⟩
      · intro h6
        rw [h6] at hl
        simp at hl
        omega
      · rw [hy, he, hr, List.append_nil]
theorem begL_of {x : List UInt8} {k n : Nat} (hk : k < 2) (h1 : x.length < n) (h2 : n ≤ 4) {c : Nat} (hc : okC c) (h : x ++ Lib.repeatL (lst (fillA k)) (n - x.length) = encN c) : begL x = true := by
  have hs : (⟨x.toArray⟩ : ByteArray).size = x.length := List.size_toArray
  refine begB_true (k := k) (n := n) hk (by rw [hs]; exact h1) h2 ?_
  rw [tryB_iff, h, oneB_iff]
  have := dec_enc hc []
  rw [List.append_nil] at this
  rw [this]
  have := (encN_len c).1
  exact ⟨fun he => by rw [he] at this; simp at this, Nat.le_refl _⟩
theorem encN2 {c : Nat} (h1 : 0x80 ≤ c) (h2 : c < 0x800) : encN c = [UInt8.ofNat (0xC0 + c / 64), UInt8.ofNat (0x80 + c % 64)] := by unfold encN; rw [if_neg (by omega), if_pos h2]
theorem encN3 {c : Nat} (h1 : 0x800 ≤ c) (h2 : c < 0x10000) : encN c = [UInt8.ofNat (0xE0 + c / 4096), UInt8.ofNat (0x80 + c / 64 % 64), UInt8.ofNat (0x80 + c % 64)] := by unfold encN; rw [if_neg (by omega), if_neg (by omega), if_pos h2]
theorem encN4 {c : Nat} (h1 : 0x10000 ≤ c) : encN c = [UInt8.ofNat (0xF0 + c / 262144), UInt8.ofNat (0x80 + c / 4096 % 64), UInt8.ofNat (0x80 + c / 64 % 64), UInt8.ofNat (0x80 + c % 64)] := by unfold encN; rw [if_neg (by omega), if_neg (by omega), if_neg (by omega)]
theorem fill_1 : Lib.repeatL (lst (fillA 0)) 1 = [128] := rfl
theorem fill_2 : Lib.repeatL (lst (fillA 0)) 2 = [128, 128] := rfl
theorem fill_3 : Lib.repeatL (lst (fillA 0)) 3 = [128, 128, 128] := rfl
theorem e128 {n : Nat} (h : n = 128) : (128 : UInt8) = UInt8.ofNat n := by rw [h]; rfl
theorem u8n {m n : Nat} (hm : m = n) : UInt8.ofNat m = UInt8.ofNat n := by rw [hm]
/-- a part of a rune's bytes, from the first one on, is a beginning -/
theorem begL_part {c : Nat} (hc : okC c) {x y : List UInt8} (he : encN c = x ++ y) (hx : x ≠ []) (hy : y ≠ []) : begL x = true := by
  unfold okC at hc
  by_cases c1 : c < 0x80
  · have : encN c = [UInt8.ofNat c] := by unfold encN; rw [if_pos c1]
    rw [this] at he
    have := congrArg List.length he
    have h1 := List.length_pos_iff.2 hx
    have h2 := List.length_pos_iff.2 hy
    simp at this
    omega
  · by_cases c2 : c < 0x800
    · rw [encN2 (by omega) c2] at he
      match x, he, hx with
      | [a], he, _ =>
        simp only [List.cons_append, List.nil_append, List.cons.injEq] at he
        obtain ⟨rfl, rfl⟩ := he
        refine begL_of (k := 0) (n := 2) (c := c / 64 * 64) (by omega) (by simp) (by omega) (by unfold okC; omega) ?_
        rw [encN2 (by omega) (by omega)]
        simp only [List.length_cons, List.length_nil, Nat.reduceAdd, Nat.reduceSub, fill_1, List.cons_append, List.nil_append, List.cons.injEq, and_true]
        exact ⟨u8n (by omega), e128 (by omega)⟩
      | [a, b], he, _ =>
        simp only [List.cons_append, List.nil_append, List.cons.injEq] at he
        exact absurd he.2.2.symm hy
      | a :: b :: d :: t, he, _ => simp at he
    · by_cases c3 : c < 0x10000
      · rw [encN3 (by omega) c3] at he
        match x, he, hx with
        | [a], he, _ =>
          simp only [List.cons_append, List.nil_append, List.cons.injEq] at he
          obtain ⟨rfl, rfl⟩ := he
          by_cases c4 : c / 4096 = 0
          · refine begL_of (k := 1) (n := 3) (c := 4095) (by omega) (by simp) (by omega) (by unfold okC; omega) ?_
            rw [c4]
            rfl
          · refine begL_of (k := 0) (n := 3) (c := c / 4096 * 4096) (by omega) (by simp) (by omega) (by unfold okC; omega) ?_
            rw [encN3 (by omega) (by omega)]
            simp only [List.length_cons, List.length_nil, Nat.reduceAdd, Nat.reduceSub, fill_2, List.cons_append, List.nil_append, List.cons.injEq, and_true]
            exact ⟨u8n (by omega), e128 (by omega), e128 (by omega)⟩
        | [a, b], he, _ =>
          simp only [List.cons_append, List.nil_append, List.cons.injEq] at he
          obtain ⟨rfl, rfl, rfl⟩ := he
          refine begL_of (k := 0) (n := 3) (c := c / 64 * 64) (by omega) (by simp) (by omega) (by unfold okC; omega) ?_
          rw [encN3 (by omega) (by omega)]
          simp only [List.length_cons, List.length_nil, Nat.reduceAdd, Nat.reduceSub, fill_1, List.cons_append, List.nil_append, List.cons.injEq, and_true]
          exact ⟨u8n (by omega), u8n (by omega), e128 (by omega)⟩
        | [a, b, d], he, _ =>
          simp only [List.cons_append, List.nil_append, List.cons.injEq] at he
          exact absurd he.2.2.2.symm hy
        | a :: b :: d :: e :: t, he, _ => simp at he
      · rw [encN4 (by omega)] at he
        match x, he, hx with
        | [a], he, _ =>
          simp only [List.cons_append, List.nil_append, List.cons.injEq] at he
          obtain ⟨rfl, rfl⟩ := he
          by_cases c4 : c / 262144 = 0
          · refine begL_of (k := 1) (n := 4) (c := 262143) (by omega) (by simp) (by omega) (by unfold okC; omega) ?_
            rw [c4]
            rfl
          · refine begL_of (k := 0) (n := 4) (c := c / 262144 * 262144) (by omega) (by simp) (by omega) (by unfold okC; omega) ?_
            rw [encN4 (by omega)]
            simp only [List.length_cons, List.length_nil, Nat.reduceAdd, Nat.reduceSub, fill_3, List.cons_append, List.nil_append, List.cons.injEq, and_true]
            exact ⟨u8n (by omega), e128 (by omega), e128 (by omega), e128 (by omega)⟩
        | [a, b], he, _ =>
          simp only [List.cons_append, List.nil_append, List.cons.injEq] at he
          obtain ⟨rfl, rfl, rfl⟩ := he
          refine begL_of (k := 0) (n := 4) (c := c / 4096 * 4096) (by omega) (by simp) (by omega) (by unfold okC; omega) ?_
          rw [encN4 (by omega)]
          simp only [List.length_cons, List.length_nil, Nat.reduceAdd, Nat.reduceSub, fill_2, List.cons_append, List.nil_append, List.cons.injEq, and_true]
          exact ⟨u8n (by omega), u8n (by omega), e128 (by omega), e128 (by omega)⟩
        | [a, b, d], he, _ =>
          simp only [List.cons_append, List.nil_append, List.cons.injEq] at he
          obtain ⟨rfl, rfl, rfl, rfl⟩ := he
          refine begL_of (k := 0) (n := 4) (c := c / 64 * 64) (by omega) (by simp) (by omega) (by unfold okC; omega) ?_
          rw [encN4 (by omega)]
          simp only [List.length_cons, List.length_nil, Nat.reduceAdd, Nat.reduceSub, fill_1, List.cons_append, List.nil_append, List.cons.injEq, and_true]
          exact ⟨u8n (by omega), u8n (by omega), u8n (by omega), e128 (by omega)⟩
        | [a, b, d, e], he, _ =>
          simp only [List.cons_append, List.nil_append, List.cons.injEq] at he
          exact absurd he.2.2.2.2.symm hy
        | a :: b :: d :: e :: f :: t, he, _ => simp at he
end Go.Proofs.Ytcambbnmeiolgaa
