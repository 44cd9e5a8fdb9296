import Derived.Test.YtlocogccjlecjaaDoorDet
/- The places of a tree: what each reads, which can follow it (a bit each); of a part: can it be empty, its first places, its last ones. -/
namespace Go.Proofs.YtlocogccjlecjaaDoor
open Go.RowKit
structure En where
  e : Bool
  f : Nat
  l : Nat
/-- what the places are behind a part -/
def rdF : Rx → List Nat → List Nat → En × List Nat × List Nat
  | .leaf n, rs, fs => (⟨false, 1 <<< rs.length, 1 <<< rs.length⟩, rs ++ [n], fs ++ [0])
  | .eps, rs, fs => (⟨true, 0, 0⟩, rs, fs)
  | .seq a b, rs, fs =>
    let x := rdF a rs fs
    let y := rdF b x.2.1 x.2.2
    (⟨x.1.e && y.1.e, if x.1.e then x.1.f ||| y.1.f else x.1.f, if y.1.e then x.1.l ||| y.1.l else y.1.l⟩, y.2.1, linkF y.2.2 x.1.l y.1.f)
  | .no, rs, fs => (⟨false, 0, 0⟩, rs, fs)
  | .alt a b, rs, fs =>
    let x := rdF a rs fs
    let y := rdF b x.2.1 x.2.2
    (⟨x.1.e || y.1.e, x.1.f ||| y.1.f, x.1.l ||| y.1.l⟩, y.2.1, y.2.2)
  | .loop a n m, rs, fs =>
    let x := rdF a rs fs
    (⟨x.1.e || n, x.1.f, x.1.l⟩, x.2.1, if m then linkF x.2.2 x.1.l x.1.f else x.2.2)
theorem linkF_length (fs : List Nat) (a b : Nat) : (linkF fs a b).length = fs.length := by unfold linkF; simp
theorem rdF_len (t : Rx) : ∀ rs fs, (rdF t rs fs).2.1.length = rs.length + leaves t ∧ (rdF t rs fs).2.2.length = fs.length + leaves t := by
  induction t with
  | leaf n => intro rs fs; simp [rdF, leaves]
  | eps => intro rs fs; exact ⟨rfl, rfl⟩
  | no => intro rs fs; exact ⟨rfl, rfl⟩
  | seq a b iha ihb =>
    intro rs fs
    have h1 := iha rs fs
    have h2 := ihb (rdF a rs fs).2.1 (rdF a rs fs).2.2
    simp only [rdF, leaves, linkF_length]
    omega
  | alt a b iha ihb =>
    intro rs fs
    have h1 := iha rs fs
    have h2 := ihb (rdF a rs fs).2.1 (rdF a rs fs).2.2
    simp only [rdF, leaves]
    omega
  | loop a n m iha =>
    intro rs fs
    have h1 := iha rs fs
    simp only [rdF, leaves]
    refine ⟨h1.1, ?_⟩
    split
    · rw [linkF_length]; exact h1.2
    · exact h1.2
/-- the bits of first and last places -/
def Bits (x lo hi : Nat) : Prop := ∀ j, x.testBit j = true → lo ≤ j ∧ j < hi
theorem Bits.or {x y lo hi lo2 hi2 : Nat} (h : Bits x lo hi) (h2 : Bits y lo2 hi2) (hl : lo ≤ lo2) (hh : hi ≤ hi2) : Bits (x ||| y) lo hi2 := fun j hj => by
  rw [Nat.testBit_or, Bool.or_eq_true] at hj
  rcases hj with h3 | h3
  · have := h j h3; omega
  · have := h2 j h3; omega
theorem Bits.mono {x lo hi lo2 hi2 : Nat} (h : Bits x lo hi) (hl : lo2 ≤ lo) (hh : hi ≤ hi2) : Bits x lo2 hi2 := fun j hj => by
  have := h j hj; omega
theorem Bits.zero (lo hi : Nat) : Bits 0 lo hi := fun j hj => by rw [Nat.zero_testBit] at hj; cases hj
theorem Bits.lt {x lo hi : Nat} (h : Bits x lo hi) (hh : hi ≤ 64) : x < 18446744073709551616 := by
  show x < 2 ^ 64
  refine Nat.lt_pow_two_of_testBit _ (fun j hj => ?_)
  cases hb : x.testBit j with
  | false => rfl
  | true => have := h j hb; omega
theorem rdF_bits (t : Rx) : ∀ rs fs, Bits (rdF t rs fs).1.f rs.length (rs.length + leaves t) ∧ Bits (rdF t rs fs).1.l rs.length (rs.length + leaves t) := by
  induction t with
  | leaf n =>
    intro rs fs
    have h : Bits (1 <<< rs.length) rs.length (rs.length + 1) := fun j hj => by
      rw [Nat.one_shiftLeft, Nat.testBit_two_pow] at hj
      have := of_decide_eq_true hj
      omega
    exact ⟨h, h⟩
  | eps => intro rs fs; exact ⟨Bits.zero _ _, Bits.zero _ _⟩
  | no => intro rs fs; exact ⟨Bits.zero _ _, Bits.zero _ _⟩
  | seq a b iha ihb =>
    intro rs fs
    have h1 := iha rs fs
    have h2 := ihb (rdF a rs fs).2.1 (rdF a rs fs).2.2
    have hl := (rdF_len a rs fs).1
    simp only [rdF, leaves]
    rw [hl] at h2
    have e : rs.length + leaves a + leaves b = rs.length + (leaves a + leaves b) := by omega
    rw [e] at h2
    refine ⟨?_, ?_⟩
    · split
      · exact h1.1.or h2.1 (by omega) (by omega)
      · exact h1.1.mono (Nat.le_refl _) (by omega)
    · split
      · exact h1.2.or h2.2 (by omega) (by omega)
      · exact h2.2.mono (by omega) (Nat.le_refl _)
  | alt a b iha ihb =>
    intro rs fs
    have h1 := iha rs fs
    have h2 := ihb (rdF a rs fs).2.1 (rdF a rs fs).2.2
    have hl := (rdF_len a rs fs).1
    simp only [rdF, leaves]
    rw [hl] at h2
    have e : rs.length + leaves a + leaves b = rs.length + (leaves a + leaves b) := by omega
    rw [e] at h2
    exact ⟨h1.1.or h2.1 (by omega) (by omega), h1.2.or h2.2 (by omega) (by omega)⟩
  | loop a n m iha => intro rs fs; exact iha rs fs
theorem snoc_cases {α : Type} {l : List α} {x y : α} {i : Nat} (h : (l ++ [x])[i]? = some y) : (i < l.length ∧ l[i]? = some y) ∨ (i = l.length ∧ y = x) := by
  rcases Nat.lt_or_ge i l.length with hi | hi
  · rw [List.getElem?_append_left hi] at h; exact .inl ⟨hi, h⟩
  · rw [List.getElem?_append_right hi] at h
    have h1 := lt_of_some h
    simp at h1
    have h2 : i = l.length := by omega
    subst h2
    simp at h
    exact .inr ⟨rfl, h.symm⟩
def Rx.sz : Rx → Nat
  | .leaf _ => 1
  | .eps => 1
  | .seq a b => a.sz + b.sz + 1
  | .no => 1
  | .alt a b => a.sz + b.sz + 1
  | .loop a _ _ => a.sz + 1
/-- the parts of a row, of a choice, as lists -/
theorem RowT.list {P : Nat → Prop} {w : World} {vs : List Value} {t : Rx} (h : RowT P w vs t) : ∃ ts : List Rx, ts.length = vs.length ∧ t = ts.foldl Rx.seq .eps ∧ ∀ (i : Nat) (v : Value) (r : Rx), vs[i]? = some v → ts[i]? = some r → Tr P w v r ∧ r.sz < t.sz := by
  induction t generalizing vs with
  | eps => cases h; exact ⟨[], rfl, rfl, fun i v r h => by simp at h⟩
  | seq a b iha _ =>
    cases h with
    | snoc h h2 =>
      obtain ⟨ts, h3, h4, h5⟩ := iha h
      refine ⟨ts ++ [b], by simp [h3], by rw [List.foldl_append, ← h4]; rfl, fun i v r hv hr => ?_⟩
      rcases snoc_cases hv with ⟨hi, hv⟩ | ⟨hi, rfl⟩ <;> rcases snoc_cases hr with ⟨hj, hr⟩ | ⟨hj, rfl⟩
      · have := h5 i v r hv hr
        refine ⟨this.1, Nat.lt_trans this.2 ?_⟩
        simp only [Rx.sz]
        omega
      · omega
      · omega
      · exact ⟨h2, by simp only [Rx.sz]; omega⟩
  | leaf _ => cases h
  | no => cases h
  | alt _ _ _ _ => cases h
  | loop _ _ _ _ => cases h
theorem ForkT.list {P : Nat → Prop} {w : World} {vs : List Value} {t : Rx} (h : ForkT P w vs t) : ∃ ts : List Rx, ts.length = vs.length ∧ t = ts.foldl Rx.alt .no ∧ ∀ (i : Nat) (v : Value) (r : Rx), vs[i]? = some v → ts[i]? = some r → Tr P w v r ∧ r.sz < t.sz := by
  induction t generalizing vs with
  | no => cases h; exact ⟨[], rfl, rfl, fun i v r h => by simp at h⟩
  | alt a b iha _ =>
    cases h with
    | snoc h h2 =>
      obtain ⟨ts, h3, h4, h5⟩ := iha h
      refine ⟨ts ++ [b], by simp [h3], by rw [List.foldl_append, ← h4]; rfl, fun i v r hv hr => ?_⟩
      rcases snoc_cases hv with ⟨hi, hv⟩ | ⟨hi, rfl⟩ <;> rcases snoc_cases hr with ⟨hj, hr⟩ | ⟨hj, rfl⟩
      · have := h5 i v r hv hr
        refine ⟨this.1, Nat.lt_trans this.2 ?_⟩
        simp only [Rx.sz]
        omega
      · omega
      · omega
      · exact ⟨h2, by simp only [Rx.sz]; omega⟩
  | leaf _ => cases h
  | eps => cases h
  | seq _ _ _ _ => cases h
  | loop _ _ _ _ => cases h
end Go.Proofs.YtlocogccjlecjaaDoor
