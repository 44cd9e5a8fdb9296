import Derived.Test.YtobklhnechbpaaaRoundW
namespace Go.Proofs.Ytobklhnechbpaaa
open Go.RowKit

theorem build_take : ∀ (rest seen : List (Int × Int)) (out ls : List (List Int)) (k : Nat), build seen rest out = some ls → ∃ ls', build seen (rest.take k) out = some ls' := by
  intro rest
  induction rest with
  | nil => intro seen out ls k h; exact ⟨out, by simp [build]⟩
  | cons p r ih =>
    intro seen out ls k h
    cases k with
    | zero => exact ⟨out, by simp [build]⟩
    | succ k =>
      rw [build] at h
      split at h
      · cases h
      · split at h
        · cases h
        · rename_i h1 h2
          obtain ⟨ls', h3⟩ := ih _ _ _ k h
          exact ⟨ls', by rw [List.take_succ_cons, build_step h1 h2, h3]⟩
theorem vocF_take {bs : List Int} {ps : List (Int × Int)} {ls : List (List Int)} (hq : vocF bs ps = some ls) (k : Nat) : ∃ ls', vocF bs (ps.take k) = some ls' := by
  obtain ⟨h1, h2, _, _, h3⟩ := vocF_facts hq
  obtain ⟨ls', h4⟩ := build_take ps [] (base0 bs) ls k h3
  refine ⟨ls', ?_⟩
  unfold vocF
  rw [if_pos, if_pos h2, h4]
  obtain ⟨g1, g2, g3⟩ := h1
  exact ⟨g1, g2, by rw [List.length_take]; omega⟩
theorem errE_ok {bs : List Int} {ps : List (Int × Int)} {x : List Int} (h : errE bs ps x = 0) : (∃ ls, vocF bs ps = some ls) ∧ x.all (fun b => decide (b ∈ bs)) = true := by
  unfold errE at h
  split at h
  · cases h
  · rename_i ls hq
    refine ⟨⟨ls, hq⟩, ?_⟩
    by_cases ha : x.all (fun b => decide (b ∈ bs)) = true
    · exact ha
    · rw [if_neg ha] at h
      cases h
theorem encL_is {bs : List Int} {ps : List (Int × Int)} {ls : List (List Int)} {x : List Int} (hq : vocF bs ps = some ls) (ha : x.all (fun b => decide (b ∈ bs)) = true) : encL bs ps x = joinAll bs.length ps (x.map (baseT bs)) := by
  unfold encL
  rw [hq]
  simp only
  rw [if_pos ha]
theorem encL_bad {bs : List Int} {ps : List (Int × Int)} {x : List Int} (h : errE bs ps x ≠ 0) : encL bs ps x = [] := by
  unfold encL
  split
  · rfl
  · rename_i ls hq
    by_cases ha : x.all (fun b => decide (b ∈ bs)) = true
    · exact absurd (by unfold errE; rw [hq]; simp only; rw [if_pos ha]) h
    · rw [if_neg ha]
theorem settle_stands {bs : List Int} {ps : List (Int × Int)} {x : List Int} (h : errE bs ps x = 0) : ∀ p ∈ ps, stands (encL bs ps x) p = false := by
  obtain ⟨⟨ls, hq⟩, ha⟩ := errE_ok h
  rw [encL_is hq ha]
  exact settled _ _ _ _ (Nat.le_refl _)
theorem settle_pos {bs : List Int} {ps : List (Int × Int)} {x : List Int} (h : errE bs ps x = 0) : ∀ y ∈ encL bs ps x, 1 ≤ y := by
  obtain ⟨⟨ls, hq⟩, ha⟩ := errE_ok h
  rw [encL_is hq ha]
  refine joinAll_ind (Q := fun l => ∀ y ∈ l, 1 ≤ y) (fun l hl j hj => joined_mem _ (by omega) _ l (Nat.le_refl _) hl) _ _ (Nat.le_refl _) ?_
  intro y hy
  obtain ⟨z, hz, rfl⟩ := List.mem_map.1 hy
  have hm : z ∈ bs := of_decide_eq_true (List.all_eq_true.1 ha z hz)
  unfold baseT
  rw [if_pos hm]
  omega
theorem settle_less {bs : List Int} {ps : List (Int × Int)} {x : List Int} (h : errE bs ps x = 0) (k : Nat) : errE bs (ps.take k) x = 0 ∧ (encL bs ps x).length ≤ (encL bs (ps.take k) x).length ∧ (encL bs (ps.take k) x).length ≤ x.length ∧ (k = 0 → (encL bs (ps.take k) x).length = x.length) ∧ joinAll bs.length ps (encL bs (ps.take k) x) = encL bs ps x := by
  obtain ⟨⟨ls, hq⟩, ha⟩ := errE_ok h
  obtain ⟨ls', hq'⟩ := vocF_take hq k
  have e1 := encL_is hq ha
  have e2 := encL_is hq' ha
  have e3 : joinAll bs.length ps (encL bs (ps.take k) x) = encL bs ps x := by
    rw [e2, e1]
    exact joinAll_take _ _ _ _ _ (Nat.le_refl _)
  refine ⟨by unfold errE; rw [hq']; simp only; rw [if_pos ha], ?_, encL_small _ _ _, fun h0 => ?_, e3⟩
  · rw [← e3]
    exact joinAll_len _ _ _ _ (Nat.le_refl _)
  · rw [e2, h0, List.take_zero, joinAll_none (by simp)]
    simp
end Go.Proofs.Ytobklhnechbpaaa
