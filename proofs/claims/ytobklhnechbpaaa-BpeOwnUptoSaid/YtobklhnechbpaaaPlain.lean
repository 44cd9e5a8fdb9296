import Derived.Test.YtobklhnechbpaaaChk
/- What stands in a right vocabulary. -/
namespace Go.Proofs.Ytobklhnechbpaaa

theorem getD_prefix {α : Type} {a b : List α} (h : a <+: b) (i : Nat) (hi : i < a.length) (d : α) : b.getD i d = a.getD i d := by
  obtain ⟨c, rfl⟩ := h
  rw [List.getD_eq_getElem?_getD, List.getD_eq_getElem?_getD, List.getElem?_append_left hi]
theorem build_get : ∀ (rest seen : List (Int × Int)) (out ls : List (List Int)), build seen rest out = some ls → (∀ l ∈ out, l.length ≤ 16) →
    ∀ (j : Nat) (hj : j < rest.length), 1 ≤ rest[j].1 ∧ 1 ≤ rest[j].2 ∧ rest[j].1 < out.length + j ∧ rest[j].2 < out.length + j ∧ ls.getD (out.length + j) [] = ls.getD rest[j].1.toNat [] ++ ls.getD rest[j].2.toNat [] ∧ rest[j] ∉ seen ++ rest.take j := by
  intro rest
  induction rest with
  | nil => intro seen out ls _ _ j hj; simp at hj
  | cons p rest ih =>
    intro seen out ls h ho j hj
    have h0 := h
    rw [build] at h
    split at h
    · cases h
    · rename_i hb
      split at h
      · cases h
      · rename_i hs
        have hsm : ∀ l ∈ out ++ [out.getD p.1.toNat [] ++ out.getD p.2.toNat []], l.length ≤ 16 := by
          intro l hl
          rcases List.mem_append.1 hl with hl | hl
          · exact ho l hl
          · simp only [List.mem_singleton] at hl
            subst hl
            omega
        cases j with
        | zero =>
          obtain ⟨h3, _, h5⟩ := build_small _ _ _ _ h hsm
          have hb1 : p ∉ seen := fun hp => hb (.inl hp)
          have hb2 : 1 ≤ p.1 ∧ 1 ≤ p.2 ∧ p.1 < (out.length : Int) ∧ p.2 < (out.length : Int) := by omega
          have hpre : out <+: ls := List.IsPrefix.trans (List.prefix_append _ _) h5
          refine ⟨hb2.1, hb2.2.1, by simp; omega, by simp; omega, ?_, by simpa using hb1⟩
          rw [Nat.add_zero, List.getElem_cons_zero, getD_prefix h5 _ (by simp), getD_prefix hpre _ (by omega), getD_prefix hpre _ (by omega)]
          simp [List.getD_eq_getElem?_getD]
        | succ j =>
          obtain ⟨r1, r2, r3, r4, r5, r6⟩ := ih _ _ _ h hsm j (by simpa using hj)
          simp only [List.length_append, List.length_cons, List.length_nil] at r3 r4 r5
          refine ⟨r1, r2, ?_, ?_, ?_, ?_⟩
          · simp only [List.getElem_cons_succ]; push_cast at *; omega
          · simp only [List.getElem_cons_succ]; push_cast at *; omega
          · rw [show out.length + (j + 1) = out.length + (0 + 1) + j by omega]
            exact r5
          · simp only [List.getElem_cons_succ, List.take_succ_cons]
            simpa using r6
/-- a right vocabulary's tokens -/
structure Toks (bs : List Int) (ps : List (Int × Int)) (ls : List (List Int)) : Prop where
  len : ls.length = 1 + bs.length + ps.length
  n1 : 1 ≤ bs.length
  n48 : bs.length ≤ 48
  n64 : 1 + bs.length + ps.length ≤ 64
  nodup : bs.Nodup
  small : ∀ i, (ls.getD i []).length ≤ 16
  zero : ls.getD 0 [] = []
  base : ∀ (i : Nat) (h : i < bs.length), ls.getD (i + 1) [] = [bs[i]]
  pair : ∀ (j : Nat) (h : j < ps.length), 1 ≤ ps[j].1 ∧ 1 ≤ ps[j].2 ∧ ps[j].1 < 1 + bs.length + j ∧ ps[j].2 < 1 + bs.length + j ∧ ls.getD (1 + bs.length + j) [] = ls.getD ps[j].1.toNat [] ++ ls.getD ps[j].2.toNat []
  pnodup : ∀ (j : Nat) (h : j < ps.length), ps[j] ∉ ps.take j
theorem toks_of {bs : List Int} {ps : List (Int × Int)} {ls : List (List Int)} (h : vocF bs ps = some ls) : Toks bs ps ls := by
  obtain ⟨⟨f1, f2, f3⟩, hn, hl, hs, hb⟩ := vocF_facts h
  have h0 : ∀ l ∈ base0 bs, l.length ≤ 16 := by intro l hl; simp only [base0, List.mem_cons, List.mem_map] at hl; rcases hl with rfl | ⟨b, _, rfl⟩ <;> simp
  have hg := build_get _ _ _ _ hb h0
  obtain ⟨_, _, hp⟩ := build_small _ _ _ _ hb h0
  rw [base0_length] at hg
  refine ⟨hl, f1, f2, f3, hn, ?_, ?_, ?_, ?_, ?_⟩
  · intro i
    rw [List.getD_eq_getElem?_getD]
    rcases Nat.lt_or_ge i ls.length with hi | hi
    · rw [List.getElem?_eq_getElem hi]
      exact hs _ (List.getElem_mem _)
    · rw [List.getElem?_eq_none hi]; simp
  · rw [getD_prefix hp 0 (by rw [base0_length]; omega)]; rfl
  · intro i hi
    rw [getD_prefix hp (i + 1) (by rw [base0_length]; omega)]
    simp [base0, List.getD_eq_getElem?_getD, hi]
  · intro j hj
    obtain ⟨a, b, c, d, e, _⟩ := hg j hj
    exact ⟨a, b, by push_cast at c; omega, by push_cast at d; omega, e⟩
  · intro j hj
    have := (hg j hj).2.2.2.2.2
    simpa using this
end Go.Proofs.Ytobklhnechbpaaa
