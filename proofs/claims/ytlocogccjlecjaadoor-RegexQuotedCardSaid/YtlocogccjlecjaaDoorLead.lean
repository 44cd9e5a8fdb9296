import Derived.Test.YtlocogccjlecjaaDoorRdP
/- Every place of a tree leads to a last one (plain). -/
namespace Go.Proofs.YtlocogccjlecjaaDoor
open Go.RowKit
/-- place r can follow place p -/
def Fol (fs : List Nat) (p r : Nat) : Prop := (fs.getD p 0).testBit r = true
inductive Leads (fs : List Nat) : Nat → Nat → Prop
  | refl (p : Nat) : Leads fs p p
  | step {p r q : Nat} (h : Fol fs p r) (h2 : Leads fs r q) : Leads fs p q
theorem Leads.trans {fs : List Nat} {p q r : Nat} (h : Leads fs p q) (h2 : Leads fs q r) : Leads fs p r := by
  induction h with
  | refl _ => exact h2
  | step h _ ih => exact .step h (ih h2)
def Grow (fs fs' : List Nat) : Prop := ∀ p r, Fol fs p r → Fol fs' p r
theorem Grow.trans {a b c : List Nat} (h : Grow a b) (h2 : Grow b c) : Grow a c := fun p r x => h2 p r (h p r x)
theorem Leads.grow {fs fs' : List Nat} {p q : Nat} (h : Leads fs p q) (hg : Grow fs fs') : Leads fs' p q := by
  induction h with
  | refl p => exact .refl p
  | step h _ ih => exact .step (hg _ _ h) ih
theorem linkF_getD (fs : List Nat) (a b p : Nat) (hp : p < fs.length) : (linkF fs a b).getD p 0 = if a.testBit p then fs.getD p 0 ||| b else fs.getD p 0 := by
  have h1 : p < (linkF fs a b).length := by rw [linkF_length]; exact hp
  rw [List.getD_eq_getElem?_getD, List.getD_eq_getElem?_getD, List.getElem?_eq_getElem h1, List.getElem?_eq_getElem hp]
  simp [linkF]
theorem linkF_grow (fs : List Nat) (a b : Nat) : Grow fs (linkF fs a b) := fun p r h => by
  unfold Fol at *
  rcases Nat.lt_or_ge p fs.length with hp | hp
  · rw [linkF_getD _ _ _ _ hp]
    split
    · rw [Nat.testBit_or, h]; rfl
    · exact h
  · rw [List.getD_eq_getElem?_getD, List.getElem?_eq_none hp] at h
    simp at h
theorem linkF_fol {fs : List Nat} {a b p r : Nat} (hp : p < fs.length) (ha : a.testBit p = true) (hb : b.testBit r = true) : Fol (linkF fs a b) p r := by
  unfold Fol
  rw [linkF_getD _ _ _ _ hp, if_pos ha, Nat.testBit_or, hb, Bool.or_true]
theorem rdF_grow (t : Rx) : ∀ rs fs, Grow fs (rdF t rs fs).2.2 := by
  induction t with
  | leaf n => intro rs fs p r h; unfold Fol at *; simp only [rdF]; rcases Nat.lt_or_ge p fs.length with hp | hp
              · rw [List.getD_eq_getElem?_getD, List.getElem?_append_left hp, ← List.getD_eq_getElem?_getD]; exact h
              · rw [List.getD_eq_getElem?_getD, List.getElem?_eq_none hp] at h; simp at h
  | eps => intro rs fs p r h; exact h
  | no => intro rs fs p r h; exact h
  | seq a b iha ihb => intro rs fs; exact ((iha rs fs).trans (ihb _ _)).trans (linkF_grow _ _ _)
  | alt a b iha ihb => intro rs fs; exact (iha rs fs).trans (ihb _ _)
  | loop a n m iha => intro rs fs; simp only [rdF]; split
                      · exact (iha rs fs).trans (linkF_grow _ _ _)
                      · exact iha rs fs
/-- a tree that the grammar gives: 'no' stands at the head of a choice alone -/
def okT : Rx → Prop
  | .leaf _ => True
  | .eps => True
  | .seq a b => okT a ∧ okT b
  | .no => False
  | .alt a b => (a = .no ∨ okT a) ∧ okT b
  | .loop a _ _ => okT a
theorem rdF_first (t : Rx) : okT t → ∀ rs fs, (rdF t rs fs).1.e = false → (rdF t rs fs).1.f ≠ 0 := by
  induction t with
  | leaf n => intro _ rs fs _; simp only [rdF]; rw [Nat.one_shiftLeft]; exact Nat.ne_of_gt (Nat.two_pow_pos _)
  | eps => intro _ rs fs h; cases h
  | no => intro h; exact h.elim
  | seq a b iha ihb =>
    intro ⟨ha, hb⟩ rs fs h
    simp only [rdF] at h ⊢
    cases he : (rdF a rs fs).1.e with
    | false => simp only [Bool.false_eq_true, if_false]; exact iha ha rs fs he
    | true =>
      rw [he, Bool.true_and] at h
      simp only [if_true]
      have h2 := ihb hb _ _ h
      intro h3
      exact h2 (Nat.or_eq_zero_iff.1 h3).2
  | alt a b _ ihb =>
    intro ⟨_, hb⟩ rs fs h
    simp only [rdF] at h ⊢
    have h2 := ihb hb _ _ (Bool.or_eq_false_iff.1 h).2
    intro h3
    exact h2 (Nat.or_eq_zero_iff.1 h3).2
  | loop a n m iha =>
    intro ha rs fs h
    simp only [rdF] at h ⊢
    exact iha ha rs fs (Bool.or_eq_false_iff.1 h).1
theorem some_bit {x : Nat} (h : x ≠ 0) : ∃ j, x.testBit j = true := Nat.exists_testBit_of_ne_zero h
/-- every place of a part leads to one of its last places -/
theorem rdF_leads (t : Rx) : (t = .no ∨ okT t) → ∀ rs fs, rs.length = fs.length → ∀ p, rs.length ≤ p → p < rs.length + leaves t → ∃ q, (rdF t rs fs).1.l.testBit q = true ∧ Leads (rdF t rs fs).2.2 p q := by
  induction t with
  | leaf n =>
    intro _ rs fs _ p h1 h2
    simp only [leaves] at h2
    obtain rfl : p = rs.length := by omega
    exact ⟨rs.length, by simp only [rdF]; rw [Nat.one_shiftLeft, Nat.testBit_two_pow]; simp, .refl _⟩
  | eps => intro _ rs fs _ p h1 h2; simp only [leaves] at h2; omega
  | no => intro _ rs fs _ p h1 h2; simp only [leaves] at h2; omega
  | seq a b iha ihb =>
    intro hok rs fs hl p h1 h2
    rcases hok with h | ⟨hoa, hob⟩
    · cases h
    have la := rdF_len a rs fs
    have lb := rdF_len b (rdF a rs fs).2.1 (rdF a rs fs).2.2
    simp only [leaves] at h2
    have hbl : ∀ p, (rdF a rs fs).2.1.length ≤ p → p < (rdF a rs fs).2.1.length + leaves b → ∃ q, (rdF (.seq a b) rs fs).1.l.testBit q = true ∧ Leads (rdF (.seq a b) rs fs).2.2 p q := fun p h1 h2 => by
      obtain ⟨q, hq, hq2⟩ := ihb (.inr hob) (rdF a rs fs).2.1 (rdF a rs fs).2.2 (by omega) p h1 h2
      refine ⟨q, ?_, hq2.grow (linkF_grow _ _ _)⟩
      simp only [rdF]
      split
      · rw [Nat.testBit_or, hq, Bool.or_true]
      · exact hq
    by_cases hp : p < rs.length + leaves a
    · obtain ⟨q, hq, hq2⟩ := iha (.inr hoa) rs fs hl p h1 hp
      have hq3 : Leads (rdF (.seq a b) rs fs).2.2 p q := hq2.grow ((rdF_grow b _ _).trans (linkF_grow _ _ _))
      cases he : (rdF b (rdF a rs fs).2.1 (rdF a rs fs).2.2).1.e with
      | true =>
        refine ⟨q, ?_, hq3⟩
        simp only [rdF]
        rw [he, if_pos rfl, Nat.testBit_or, hq, Bool.true_or]
      | false =>
        obtain ⟨r, hr⟩ := some_bit (rdF_first b hob _ _ he)
        have hrb := (rdF_bits b (rdF a rs fs).2.1 (rdF a rs fs).2.2).1 r hr
        have hqb := (rdF_bits a rs fs).2 q hq
        obtain ⟨z, hz, hz2⟩ := hbl r hrb.1 hrb.2
        refine ⟨z, hz, hq3.trans (.step ?_ hz2)⟩
        exact linkF_fol (by omega) hq hr
    · exact hbl p (by omega) (by omega)
  | alt a b iha ihb =>
    intro hok rs fs hl p h1 h2
    rcases hok with h | ⟨hoa, hob⟩
    · cases h
    have la := rdF_len a rs fs
    simp only [leaves] at h2
    by_cases hp : p < rs.length + leaves a
    · obtain ⟨q, hq, hq2⟩ := iha hoa rs fs hl p h1 hp
      exact ⟨q, by simp only [rdF]; rw [Nat.testBit_or, hq, Bool.true_or], hq2.grow (rdF_grow b _ _)⟩
    · obtain ⟨q, hq, hq2⟩ := ihb (.inr hob) (rdF a rs fs).2.1 (rdF a rs fs).2.2 (by omega) p (by omega) (by omega)
      exact ⟨q, by simp only [rdF]; rw [Nat.testBit_or, hq, Bool.or_true], hq2⟩
  | loop a n m iha =>
    intro hok rs fs hl p h1 h2
    rcases hok with h | hoa
    · cases h
    obtain ⟨q, hq, hq2⟩ := iha (.inr hoa) rs fs hl p h1 h2
    refine ⟨q, hq, ?_⟩
    simp only [rdF]
    split
    · exact hq2.grow (linkF_grow _ _ _)
    · exact hq2
def Ph.okP : Ph → Prop | .ex _ => True | .exL _ t => okT t | .brL _ t => okT t | .atom _ => True | .suf _ t => okT t
theorem Gr_okT {s : ByteArray} {ph : Ph} {r : Res} (h : Gr s ph r) : ph.okP → ∀ t j, r = .ok t j → okT t := by
  induction h with
  | exOk _ _ ih1 ih2 => intro _ t j e; exact ih2 (show okT _ from ⟨.inl rfl, ih1 trivial _ _ rfl⟩) _ _ e
  | exEnd _ => intro ho t j e; cases e; exact ho
  | exMore _ _ _ ih1 ih2 => intro ho t j e; exact ih2 (show okT _ from ⟨.inr ho, ih1 trivial _ _ rfl⟩) _ _ e
  | brEnd _ => intro ho t j e; cases e; exact ho
  | brMore _ _ _ _ _ _ ih1 ih2 ih3 => intro ho t j e; exact ih3 (show okT _ from ⟨ho, ih2 (ih1 trivial _ _ rfl) _ _ rfl⟩) _ _ e
  | sufEnd _ => intro ho t j e; cases e; exact ho
  | sufMore _ _ ih => intro ho t j e; exact ih (show okT _ from ho) _ _ e
  | atPar _ _ _ ih => intro _ t j e; cases e; exact ih trivial _ _ rfl
  | atCls _ _ => intro _ t j e; cases e; trivial
  | atEsc _ _ => intro _ t j e; cases e; trivial
  | atDot _ => intro _ t j e; cases e; trivial
  | atByte _ _ _ _ _ => intro _ t j e; cases e; trivial
  | _ => intro _ t j e; cases e
end Go.Proofs.YtlocogccjlecjaaDoor
