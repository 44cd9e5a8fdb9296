import Derived.Test.YtlocogccjlecjaaDoorHas
/- The grammar is deterministic; what an expression's tree holds is no more than the text. -/
namespace Go.Proofs.YtlocogccjlecjaaDoor
open Go.RowKit
theorem ClsL_det {s : ByteArray} {i all : Nat} {f : Bool} {r : Option (Nat × Nat)} (h : ClsL s i f all r) : ∀ {r2}, ClsL s i f all r2 → r = r2 := by
  induction h with
  | eof h => intro r2 h2; cases h2 <;> first | rfl | omega
  | empty h hb => intro r2 h2; cases h2 <;> first | rfl | omega | contradiction
  | done h hb => intro r2 h2; cases h2 <;> first | rfl | omega | contradiction
  | bad h hb hi =>
    intro r2 h2
    cases h2 with
    | eof _ => rfl
    | empty _ _ => rfl
    | done _ _ => contradiction
    | bad _ _ _ => rfl
    | one _ _ hi2 _ _ => rw [hi] at hi2; cases hi2
    | badEnd _ _ _ _ _ => rfl
    | badSpan _ _ _ _ _ _ => rfl
    | span _ _ hi2 _ _ _ _ => rw [hi] at hi2; cases hi2
  | one h hb hi hd hr ih =>
    intro r2 h2
    cases h2 with
    | eof _ => omega
    | empty _ _ => contradiction
    | done _ _ => contradiction
    | bad _ _ hi2 => rw [hi] at hi2; cases hi2
    | one _ _ hi2 _ hr2 => rw [hi] at hi2; cases hi2; exact ih hr2
    | badEnd _ _ hi2 hd2 _ => rw [hi] at hi2; cases hi2; exact absurd hd2 hd
    | badSpan _ _ hi2 hd2 _ _ => rw [hi] at hi2; cases hi2; exact absurd hd2 hd
    | span _ _ hi2 hd2 _ _ _ => rw [hi] at hi2; cases hi2; exact absurd hd2 hd
  | badEnd h hb hi hd he =>
    intro r2 h2
    cases h2 with
    | eof _ => rfl
    | empty _ _ => rfl
    | done _ _ => contradiction
    | bad _ _ hi2 => rfl
    | one _ _ hi2 hd2 hr2 => rw [hi] at hi2; cases hi2; exact absurd hd hd2
    | badEnd _ _ _ _ _ => rfl
    | badSpan _ _ _ _ _ _ => rfl
    | span _ _ hi2 _ he2 _ _ => rw [hi] at hi2; cases hi2; rw [he] at he2; cases he2
  | badSpan h hb hi hd he hn =>
    intro r2 h2
    cases h2 with
    | eof _ => rfl
    | empty _ _ => rfl
    | done _ _ => contradiction
    | bad _ _ hi2 => rfl
    | one _ _ hi2 hd2 hr2 => rw [hi] at hi2; cases hi2; exact absurd hd hd2
    | badEnd _ _ _ _ _ => rfl
    | badSpan _ _ _ _ _ _ => rfl
    | span _ _ hi2 _ he2 hn2 _ => rw [hi] at hi2; cases hi2; rw [he] at he2; cases he2; exact absurd hn2 hn
  | span h hb hi hd he hn hr ih =>
    intro r2 h2
    cases h2 with
    | eof _ => omega
    | empty _ _ => contradiction
    | done _ _ => contradiction
    | bad _ _ hi2 => rw [hi] at hi2; cases hi2
    | one _ _ hi2 hd2 hr2 => rw [hi] at hi2; cases hi2; exact absurd hd hd2
    | badEnd _ _ hi2 _ he2 => rw [hi] at hi2; cases hi2; rw [he] at he2; cases he2
    | badSpan _ _ hi2 _ he2 hn2 => rw [hi] at hi2; cases hi2; rw [he] at he2; cases he2; exact absurd hn hn2
    | span _ _ hi2 _ he2 _ hr2 => rw [hi] at hi2; cases hi2; rw [he] at he2; cases he2; exact ih hr2
theorem Cls_det {s : ByteArray} {i : Nat} {r r2 : Option (Nat × Nat)} (h : Cls s i r) (h2 : Cls s i r2) : r = r2 := by
  cases h with
  | bad h =>
    cases h2 with
    | bad _ => rfl
    | empty h2 _ => have := ClsL_det h h2; cases this
    | ok h2 _ => have := ClsL_det h h2; cases this
  | empty h h0 =>
    cases h2 with
    | bad _ => rfl
    | empty _ _ => rfl
    | ok h2 h3 => have := ClsL_det h h2; cases this; exact absurd h0 h3
  | ok h h0 =>
    cases h2 with
    | bad h2 => have := ClsL_det h h2; cases this
    | empty h2 h3 => have := ClsL_det h h2; cases this; exact absurd h3 h0
    | ok h2 _ => have := ClsL_det h h2; cases this; rfl
theorem odd_ne {b : Nat} (h : odd b = true) : b ≠ 40 ∧ b ≠ 91 ∧ b ≠ 92 ∧ b ≠ 46 := by
  have := of_decide_eq_true h
  omega
theorem Gr_det {s : ByteArray} {ph : Ph} {r : Res} (h : Gr s ph r) : ∀ {r2}, Gr s ph r2 → r = r2 := by
  induction h with
  | exBad _ ih => intro r2 h2; cases h2 with
    | exBad h => exact ih h
    | exOk h _ => have := ih h; cases this
  | exOk _ _ ih1 ih2 => intro r2 h2; cases h2 with
    | exBad h => have := ih1 h; cases this
    | exOk h h3 => have := ih1 h; cases this; exact ih2 h3
  | exEnd h => intro r2 h2; cases h2 <;> first | rfl | (exact absurd ‹_› h)
  | exMoreBad h _ ih => intro r2 h2; cases h2 with
    | exEnd h2 => exact absurd h h2
    | exMoreBad _ h3 => have := ih h3; cases this; rfl
    | exMore _ h3 _ => have := ih h3; cases this
  | exMore h _ _ ih1 ih2 => intro r2 h2; cases h2 with
    | exEnd h2 => exact absurd h h2
    | exMoreBad _ h3 => have := ih1 h3; cases this
    | exMore _ h3 h4 => have := ih1 h3; cases this; exact ih2 h4
  | brEnd h => intro r2 h2; cases h2 with
    | brEnd _ => rfl
    | brBad h1 h3 h4 _ => rcases h with h | h | h <;> first | omega | contradiction
    | brMore h1 h3 h4 _ _ _ => rcases h with h | h | h <;> first | omega | contradiction
  | brBad h1 h3 h4 _ ih => intro r2 h2; cases h2 with
    | brEnd h => rcases h with h | h | h <;> first | omega | contradiction
    | brBad _ _ _ h5 => have := ih h5; cases this; rfl
    | brMore _ _ _ h5 _ _ => have := ih h5; cases this
  | brMore h1 h3 h4 _ _ _ ih1 ih2 ih3 => intro r2 h2; cases h2 with
    | brEnd h => rcases h with h | h | h <;> first | omega | contradiction
    | brBad _ _ _ h5 => have := ih1 h5; cases this
    | brMore _ _ _ h5 h6 h7 => have := ih1 h5; cases this; have := ih2 h6; cases this; exact ih3 h7
  | sufEnd h => intro r2 h2; cases h2 with
    | sufEnd _ => rfl
    | sufMore h3 _ => exact absurd h3 h
  | sufMore h _ ih => intro r2 h2; cases h2 with
    | sufEnd h3 => exact absurd h h3
    | sufMore _ h3 => exact ih h3
  | atOdd h => intro r2 h2; have h9 := odd_ne h; cases h2 with
    | atOdd _ => rfl
    | atByte h3 _ _ _ _ => rw [h] at h3; cases h3
    | _ => exfalso; omega
  | atParBad h _ ih => intro r2 h2; cases h2 with
    | atOdd h3 => have h9 := odd_ne h3; exfalso; omega
    | atParBad _ h3 => exact ih h3
    | atParEnd _ h3 _ => have := ih h3; cases this
    | atPar _ h3 _ => have := ih h3; cases this
    | _ => exfalso; omega
  | atParEnd h _ hj ih => intro r2 h2; cases h2 with
    | atOdd h3 => have h9 := odd_ne h3; exfalso; omega
    | atParBad _ h3 => have := ih h3; cases this
    | atParEnd _ h3 _ => rfl
    | atPar _ h3 hj2 => have := ih h3; cases this; exfalso; omega
    | _ => exfalso; omega
  | atPar h _ hj ih => intro r2 h2; cases h2 with
    | atOdd h3 => have h9 := odd_ne h3; exfalso; omega
    | atParBad _ h3 => have := ih h3; cases this
    | atParEnd _ h3 hj2 => have := ih h3; cases this; exfalso; omega
    | atPar _ h3 _ => have := ih h3; cases this; rfl
    | _ => exfalso; omega
  | atClsBad h h1 => intro r2 h2; cases h2 with
    | atOdd h3 => have h9 := odd_ne h3; exfalso; omega
    | atClsBad _ _ => rfl
    | atCls _ h3 => have := Cls_det h1 h3; cases this
    | _ => exfalso; omega
  | atCls h h1 => intro r2 h2; cases h2 with
    | atOdd h3 => have h9 := odd_ne h3; exfalso; omega
    | atClsBad _ h3 => have := Cls_det h1 h3; cases this
    | atCls _ h3 => have := Cls_det h1 h3; cases this; rfl
    | _ => exfalso; omega
  | atEscBad h h1 => intro r2 h2; cases h2 with
    | atOdd h3 => have h9 := odd_ne h3; exfalso; omega
    | atEscBad _ _ => rfl
    | atEsc _ h3 => rw [h1] at h3; cases h3
    | _ => exfalso; omega
  | atEsc h h1 => intro r2 h2; cases h2 with
    | atOdd h3 => have h9 := odd_ne h3; exfalso; omega
    | atEscBad _ h3 => rw [h1] at h3; cases h3
    | atEsc _ h3 => rw [h1] at h3; cases h3; rfl
    | _ => exfalso; omega
  | atDot h => intro r2 h2; cases h2 with
    | atOdd h3 => have h9 := odd_ne h3; exfalso; omega
    | atDot _ => rfl
    | _ => exfalso; omega
  | atByte h h1 h3 h4 h5 => intro r2 h2; cases h2 with
    | atOdd h6 => rw [h] at h6; cases h6
    | atByte _ _ _ _ _ => rfl
    | _ => exfalso; omega
/-- how many places a tree has -/
def leaves : Rx → Nat
  | .leaf _ => 1
  | .eps => 0
  | .seq a b => leaves a + leaves b
  | .no => 0
  | .alt a b => leaves a + leaves b
  | .loop a _ _ => leaves a
def Ph.got : Ph → Nat | .ex _ => 0 | .exL _ t => leaves t | .brL _ t => leaves t | .atom _ => 0 | .suf _ t => leaves t
theorem Gr_leaves {s : ByteArray} {ph : Ph} {r : Res} (h : Gr s ph r) : ∀ t j, r = .ok t j → leaves t + ph.start ≤ j + ph.got := by
  induction h with
  | exOk _ _ ih1 ih2 => intro t j e; have h1 := ih1 _ _ rfl; have h2 := ih2 _ _ e; simp only [Ph.start, Ph.got, leaves] at *; omega
  | exEnd _ => intro t j e; cases e; exact Nat.le_of_eq (Nat.add_comm _ _)
  | exMore _ _ _ ih1 ih2 => intro t j e; have h1 := ih1 _ _ rfl; have h2 := ih2 _ _ e; simp only [Ph.start, Ph.got, leaves] at *; omega
  | brEnd _ => intro t j e; cases e; exact Nat.le_of_eq (Nat.add_comm _ _)
  | brMore _ _ _ _ _ _ ih1 ih2 ih3 => intro t j e; have h1 := ih1 _ _ rfl; have h2 := ih2 _ _ rfl; have h3 := ih3 _ _ e; simp only [Ph.start, Ph.got, leaves] at *; omega
  | sufEnd _ => intro t j e; cases e; exact Nat.le_of_eq (Nat.add_comm _ _)
  | sufMore _ _ ih => intro t j e; have h1 := ih _ _ e; simp only [Ph.start, Ph.got, leaves] at *; omega
  | atPar _ _ _ ih => intro t j e; cases e; have h1 := ih _ _ rfl; simp only [Ph.start, Ph.got] at *; omega
  | atCls _ h2 => intro t j e; cases e; have := Cls_lt h2; simp only [Ph.start, Ph.got, leaves]; omega
  | atEsc _ h2 => intro t j e; cases e; have := escF_lt h2; simp only [Ph.start, Ph.got, leaves]; omega
  | atDot _ => intro t j e; cases e; simp only [Ph.start, Ph.got, leaves]; omega
  | atByte _ _ _ _ _ => intro t j e; cases e; simp only [Ph.start, Ph.got, leaves]; omega
  | _ => intro t j e; cases e
end Go.Proofs.YtlocogccjlecjaaDoor
