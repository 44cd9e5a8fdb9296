import Derived.Test.YtlocogccjlecjaaDoorLivP
/- What follows a place is a place; a tree's places are as LivP wants them (plain). -/
namespace Go.Proofs.YtlocogccjlecjaaDoor
open Go.RowKit
theorem linkF_folI {fs : List Nat} {a b p r : Nat} (h : Fol (linkF fs a b) p r) : Fol fs p r ∨ b.testBit r = true := by
  have hp : p < fs.length := by have := h.lt; rw [linkF_length] at this; exact this
  unfold Fol at h ⊢
  rw [linkF_getD _ _ _ _ hp] at h
  split at h
  · rw [Nat.testBit_or, Bool.or_eq_true] at h; exact h
  · exact .inl h
theorem rdF_fol (t : Rx) : ∀ rs fs, rs.length = fs.length → (∀ p r, Fol fs p r → r < rs.length) → ∀ p r, Fol (rdF t rs fs).2.2 p r → r < (rdF t rs fs).2.1.length := by
  induction t with
  | leaf n =>
    intro rs fs hl h p r hf
    simp only [rdF] at hf ⊢
    have hp := hf.lt
    rw [List.length_append, List.length_singleton] at hp ⊢
    rcases Nat.lt_or_ge p fs.length with hp2 | hp2
    · unfold Fol at hf
      rw [List.getD_eq_getElem?_getD, List.getElem?_append_left hp2, ← List.getD_eq_getElem?_getD] at hf
      have := h p r hf
      omega
    · obtain rfl : p = fs.length := by omega
      unfold Fol at hf
      rw [List.getD_eq_getElem?_getD, List.getElem?_append_right (Nat.le_refl _)] at hf
      simp at hf
  | eps => intro rs fs _ h; exact h
  | no => intro rs fs _ h; exact h
  | seq a b iha ihb =>
    intro rs fs hl h p r hf
    have la := rdF_len a rs fs
    have lb := rdF_len b (rdF a rs fs).2.1 (rdF a rs fs).2.2
    have bb := (rdF_bits b (rdF a rs fs).2.1 (rdF a rs fs).2.2).1
    simp only [rdF] at hf ⊢
    rcases linkF_folI hf with h1 | h1
    · exact ihb _ _ (by omega) (iha rs fs hl h) p r h1
    · have := (bb r h1).2; omega
  | alt a b iha ihb =>
    intro rs fs hl h p r hf
    have la := rdF_len a rs fs
    simp only [rdF] at hf ⊢
    exact ihb _ _ (by omega) (iha rs fs hl h) p r hf
  | loop a n m iha =>
    intro rs fs hl h p r hf
    have la := rdF_len a rs fs
    have ba := (rdF_bits a rs fs).1
    simp only [rdF] at hf ⊢
    split at hf
    · rcases linkF_folI hf with h1 | h1
      · exact iha rs fs hl h p r h1
      · have := (ba r h1).2; omega
    · exact iha rs fs hl h p r hf
/-- what a place of a tree reads is something -/
def neT : Rx → Prop
  | .leaf n => n ≠ 0 ∧ n < 2 ^ 256
  | .eps => True
  | .seq a b => neT a ∧ neT b
  | .no => True
  | .alt a b => neT a ∧ neT b
  | .loop a _ _ => neT a
theorem rdF_ne (t : Rx) : neT t → ∀ rs fs, (∀ r ∈ rs, r ≠ 0 ∧ r < 2 ^ 256) → ∀ r ∈ (rdF t rs fs).2.1, r ≠ 0 ∧ r < 2 ^ 256 := by
  induction t with
  | leaf n =>
    intro hn rs fs h r hr
    simp only [rdF] at hr
    rcases List.mem_append.1 hr with h1 | h1
    · exact h r h1
    · rw [List.mem_singleton.1 h1]; exact hn
  | eps => intro _ rs fs h; exact h
  | no => intro _ rs fs h; exact h
  | seq a b iha ihb => intro hn rs fs h; exact ihb hn.2 _ _ (iha hn.1 rs fs h)
  | alt a b iha ihb => intro hn rs fs h; exact ihb hn.2 _ _ (iha hn.1 rs fs h)
  | loop a n m iha => intro hn rs fs h; exact iha hn rs fs h
theorem plsOk_of {t : Rx} (hok : okT t) (hn : neT t) : PlsOk (rdF t [] []).2.1 (rdF t [] []).2.2 (rdF t [] []).1.l where
  len := by have := rdF_len t [] []; omega
  ne := rdF_ne t hn [] [] (fun r h => by simp at h)
  last := fun j h => by have := (rdF_bits t [] []).2 j h; have := rdF_len t [] []; omega
  leads := fun p hp => by
    have := rdF_len t [] []
    exact rdF_leads t (.inr hok) [] [] rfl p (by simp) (by simp only [List.length_nil] at this ⊢; omega)
theorem fol_of (t : Rx) : ∀ p r, Fol (rdF t [] []).2.2 p r → r < (rdF t [] []).2.1.length := rdF_fol t [] [] rfl (fun p r h => by have := h.lt; simp at this)
end Go.Proofs.YtlocogccjlecjaaDoor
