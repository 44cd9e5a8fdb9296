import Derived.Test.YtlcgkdhcdldlfaaTurn
namespace Go.Proofs.Ytlcgkdhcdldlfaa
open Go.RowKit

def tb1 : List Nd := [(-1, 7, 0), (0, 3, 1), (0, 5, 1), (1, 4, 2), (3, 6, 3)]
def tb2 : List Nd := [(-1, 7, 0), (0, 3, 1), (0, 5, 1), (1, 4, 2), (3, 2, 3)]
theorem tb1_wf : WfN tb1 := by
  intro i hi
  have : i = 0 ∨ i = 1 ∨ i = 2 ∨ i = 3 ∨ i = 4 := by simp [tb1] at hi; omega
  rcases this with rfl | rfl | rfl | rfl | rfl <;> decide
theorem tb2_wf : WfN tb2 := by
  intro i hi
  have : i = 0 ∨ i = 1 ∨ i = 2 ∨ i = 3 ∨ i = 4 := by simp [tb2] at hi; omega
  rcases this with rfl | rfl | rfl | rfl | rfl <;> decide
theorem book1 : takeL tb1 [0, 1, 3, 4] 8 9 = [3, 4, 6, 8] ∧ takeO tb1 [0, 1, 3, 4] 8 9 = false ∧ takeE tb1 [0, 1, 3, 4] 9 = 0 := by decide
theorem book2 : takeL tb2 [0, 1, 3, 4] 8 9 = [3, 4, 2, 8] ∧ takeO tb2 [0, 1, 3, 4] 8 9 = false ∧ takeE tb2 [0, 1, 3, 4] 9 = 0 := by decide
theorem book3 : takeL tb2 [0, 1, 3, 2] 8 9 = [] ∧ takeO tb2 [0, 1, 3, 2] 8 9 = false ∧ takeE tb2 [0, 1, 3, 2] 9 = 160 := by decide
theorem book4 : walkL tb2 [3, 4, 9, 2, 8] = [0, 1, 3, 4] ∧ walkN tb2 [3, 4, 9, 2, 8] = 8 ∧ walkE tb2 [3, 4, 9, 2, 8] = 0 := by decide
theorem book5 : walkL tb2 [4, 4, 9, 2, 8] = [0] ∧ walkN tb2 [4, 4, 9, 2, 8] = 4 ∧ walkE tb2 [4, 4, 9, 2, 8] = 0 := by decide

theorem bth {w w1 w2 : World} {B : Nat} (hB : w.heap.size = B) (h : Below B w w1) (k : Below w1.heap.size w1 w2) : Below B w w2 := by
  subst hB
  exact bthen h k
set_option maxRecDepth 100000 in
set_option maxHeartbeats 4000000 in
/-- book -/
theorem book_any (w : World) : Calls Try.prog 26 #[] w fun e w' => e = .returned (.bool true) ∧ Below w.heap.size w w' := by
  have hb : Below w.heap.size w ((w.alloc (.cells (NC tb1).toArray 50)).alloc (.cells (I64 [0, 1, 3, 4]).toArray 3)) := by go_grown
  have k1 : Blk ((w.alloc (.cells (NC tb1).toArray 50)).alloc (.cells (I64 [0, 1, 3, 4]).toArray 3)) w.heap.size (NC tb1).toArray 50 := (Blk.new w _ 50).alloc _
  have k2 : Blk ((w.alloc (.cells (NC tb1).toArray 50)).alloc (.cells (I64 [0, 1, 3, 4]).toArray 3)) (w.heap.size + 1) (I64 [0, 1, 3, 4]).toArray 3 := by
    simpa using Blk.new (w.alloc (.cells (NC tb1).toArray 50)) (I64 [0, 1, 3, 4]).toArray 3
  simp only [NC, tb1, I64, List.flatMap_cons, List.flatMap_nil, List.cons_append, List.nil_append, List.map_cons, List.map_nil, List.append_nil] at hb k1 k2
  generalize hB : w.heap.size = B at *
  have r1 := k1.rd (xs := NC tb1) rfl
  have r2 := k2.rd (xs := I64 [0, 1, 3, 4]) rfl
  go_enter Try.func26, Try.ntmps26
  go_wp2_with fail
  generalize ((w.alloc (.cells #[.int .i64 (-1), .int .i64 7, .int .i64 0, .int .i64 0, .int .i64 3, .int .i64 1, .int .i64 0, .int .i64 5, .int .i64 1, .int .i64 1, .int .i64 4, .int .i64 2, .int .i64 3, .int .i64 6, .int .i64 3] 50)).alloc (.cells #[.int .i64 0, .int .i64 1, .int .i64 3, .int .i64 4] 3)) = w1 at *
  refine (take_any _ _ 5 5 4 4 tb1 [0, 1, 3, 4] 8 9 w1 rfl (by decide) r1 tb1_wf rfl (by decide) (by omega) r2).mono ?_
  rintro e w2 ⟨A2, c2, rfl, hA, hb2⟩
  rw [book1.1, book1.2.1, book1.2.2]
  rw [book1.1] at hA
  replace k1 := k1.below hb2
  replace k2 := k2.below hb2
  replace hb := bth hB hb hb2
  clear r1 r2 hb2
  have hl : Below w2.heap.size w2 (w2.alloc (.cells #[.int .i64 3, .int .i64 4, .int .i64 6, .int .i64 8] 3)) := by go_grown
  have rl : Rd (w2.alloc (.cells #[.int .i64 3, .int .i64 4, .int .i64 6, .int .i64 8] 3)) (some ⟨w2.heap.size, 0, none⟩) (I64 [3, 4, 6, 8]) := (Blk.new w2 #[.int .i64 3, .int .i64 4, .int .i64 6, .int .i64 8] 3).rd rfl
  go_wp2_with fail
  refine (eqInts_any _ _ 4 4 c2 4 [3, 4, 6, 8] [3, 4, 6, 8] rfl rfl (by omega) _ (hA.rd.below hl) rl).mono ?_
  rintro e w3 ⟨rfl, hb3⟩
  rw [decide_eq_true rfl]
  replace k1 := (k1.below hl).below hb3
  replace k2 := (k2.below hl).below hb3
  replace hb := bth hB (bth hB hb hl) hb3
  clear hA hl rl hb3
  have x1 : w3.cell? ⟨B, 13, none⟩ = some (.int .i64 6) := k1.cell _
  have x2 := k1.frozen 13
  have ha : (⟨B, 0, none⟩ : Addr).add 12 = ⟨B, 12, none⟩ := by simpa using addr_add B 0 12
  have ha1 : (⟨B, 12, none⟩ : Addr).add 1 = ⟨B, 13, none⟩ := addr_add B 12 1
  have hbB : B < w3.heap.size := k1.lt
  have s1 := k1.set 13 (.int .i64 2)
  have s2 := k2.other ⟨B, 13, none⟩ (.int .i64 2) (by simp)
  have s3 := hb.setCell (p := ⟨B, 13, none⟩) (by simp) (.int .i64 2)
  simp only [List.setIfInBounds_toArray, List.set_cons_succ, List.set_cons_zero] at s1
  have r1 := s1.rd (xs := NC tb2) rfl
  have r2 := s2.rd (xs := I64 [0, 1, 3, 4]) rfl
  go_wp2_with fail
  clear k1 k2 hb x1 x2
  generalize w3.setCell ⟨B, 13, none⟩ (.int .i64 2) = w4 at *
  refine (take_any _ _ 5 5 4 4 tb2 [0, 1, 3, 4] 8 9 w4 rfl (by decide) r1 tb2_wf rfl (by decide) (by omega) r2).mono ?_
  rintro e w5 ⟨A5, c5, rfl, hA, hb5⟩
  rw [book2.1, book2.2.1, book2.2.2]
  rw [book2.1] at hA
  replace k1 := s1.below hb5
  replace k2 := s2.below hb5
  replace hb := bth hB s3 hb5
  clear r1 r2 hb5 s1 s2 s3 hbB
  have hl : Below w5.heap.size w5 (w5.alloc (.cells #[.int .i64 3, .int .i64 4, .int .i64 2, .int .i64 8] 3)) := by go_grown
  have rl : Rd (w5.alloc (.cells #[.int .i64 3, .int .i64 4, .int .i64 2, .int .i64 8] 3)) (some ⟨w5.heap.size, 0, none⟩) (I64 [3, 4, 2, 8]) := (Blk.new w5 #[.int .i64 3, .int .i64 4, .int .i64 2, .int .i64 8] 3).rd rfl
  go_wp2_with fail
  refine (eqInts_any _ _ 4 4 c5 4 [3, 4, 2, 8] [3, 4, 2, 8] rfl rfl (by omega) _ (hA.rd.below hl) rl).mono ?_
  rintro e w6 ⟨rfl, hb3⟩
  rw [decide_eq_true rfl]
  replace k1 := (k1.below hl).below hb3
  replace k2 := (k2.below hl).below hb3
  replace hb := bth hB (bth hB hb hl) hb3
  clear hA hl rl hb3
  have x1 : w6.cell? ⟨B + 1, 3, none⟩ = some (.int .i64 4) := k2.cell _
  have x2 := k2.frozen 3
  have hc1 : (⟨B + 1, 0, none⟩ : Addr).add 3 = ⟨B + 1, 3, none⟩ := by simpa using addr_add (B + 1) 0 3
  have s1 := k1.other ⟨B + 1, 3, none⟩ (.int .i64 2) (by simp)
  have s2 := k2.set 3 (.int .i64 2)
  have s3 := hb.setCell (p := ⟨B + 1, 3, none⟩) (by simp) (.int .i64 2)
  simp only [List.setIfInBounds_toArray, List.set_cons_succ, List.set_cons_zero] at s2
  have r1 := s1.rd (xs := NC tb2) rfl
  have r2 := s2.rd (xs := I64 [0, 1, 3, 2]) rfl
  go_wp2_with fail
  clear k1 k2 hb x1 x2
  generalize w6.setCell ⟨B + 1, 3, none⟩ (.int .i64 2) = w7 at *
  refine (take_any _ _ 5 5 4 4 tb2 [0, 1, 3, 2] 8 9 w7 rfl (by decide) r1 tb2_wf rfl (by decide) (by omega) r2).mono ?_
  rintro e w8 ⟨A8, c8, rfl, hA, hb5⟩
  rw [book3.1, book3.2.1, book3.2.2]
  replace k1 := s1.below hb5
  replace hb := bth hB s3 hb5
  clear r1 r2 hb5 s1 s2 s3 hA
  have hl : Below w8.heap.size w8 (w8.alloc (.cells #[.int .i64 3, .int .i64 4, .int .i64 9, .int .i64 2, .int .i64 8] 3)) := by go_grown
  have k3 := Blk.new w8 #[.int .i64 3, .int .i64 4, .int .i64 9, .int .i64 2, .int .i64 8] 3
  replace k1 := k1.below hl
  replace hb := bth hB hb hl
  clear hl
  have hG : B ≤ w8.heap.size := Nat.le_of_lt (by
    have := hb.size
    have h2 := k1.lt
    have h3 : B ≠ w8.heap.size := fun he => by
      rw [he] at k1
      have := k1.symm.trans k3
      simp at this
    simp at h2
    omega)
  have hne : B ≠ w8.heap.size := fun he => by
    rw [he] at k1
    have := k1.symm.trans k3
    simp at this
  have r1 := k1.rd (xs := NC tb2) rfl
  have r3 := k3.rd (xs := I64 [3, 4, 9, 2, 8]) rfl
  go_wp2_with fail
  generalize w8.heap.size = G at *
  generalize w8.alloc (.cells #[.int .i64 3, .int .i64 4, .int .i64 9, .int .i64 2, .int .i64 8] 3) = w9 at *
  refine (walk_any _ _ 5 5 5 5 tb2 [3, 4, 9, 2, 8] w9 rfl (by decide) r1 tb2_wf rfl (by decide) r3).mono ?_
  rintro e w10 ⟨v10, rfl, ov, hb5⟩
  rw [book4.2.1, book4.2.2]
  rw [book4.1] at ov
  obtain ⟨A10, c10, rfl, _, _⟩ := own_rd ov
  have rv := own_rdA ov
  replace k1 := k1.below hb5
  replace k3 := k3.below hb5
  replace hb := bth hB hb hb5
  clear r1 r3 hb5 ov
  have hl : Below w10.heap.size w10 (w10.alloc (.cells #[.int .i64 0, .int .i64 1, .int .i64 3, .int .i64 4] 3)) := by go_grown
  have rl : Rd (w10.alloc (.cells #[.int .i64 0, .int .i64 1, .int .i64 3, .int .i64 4] 3)) (some ⟨w10.heap.size, 0, none⟩) (I64 [0, 1, 3, 4]) := (Blk.new w10 #[.int .i64 0, .int .i64 1, .int .i64 3, .int .i64 4] 3).rd rfl
  go_wp2_with fail
  refine (eqInts_any _ _ 4 4 c10 4 [0, 1, 3, 4] [0, 1, 3, 4] rfl rfl (by omega) _ (rv.below hl) rl).mono ?_
  rintro e w11 ⟨rfl, hb3⟩
  rw [decide_eq_true rfl]
  replace k1 := (k1.below hl).below hb3
  replace k3 := (k3.below hl).below hb3
  replace hb := bth hB (bth hB hb hl) hb3
  clear rv hl rl hb3
  have x1 : w11.cell? ⟨G, 0, none⟩ = some (.int .i64 3) := k3.cell _
  have x2 := k3.frozen 0
  have s1 := k1.other ⟨G, 0, none⟩ (.int .i64 4) hne
  have s2 := k3.set 0 (.int .i64 4)
  have s3 := hb.setCell (p := ⟨G, 0, none⟩) hG (.int .i64 4)
  simp only [List.setIfInBounds_toArray, List.set_cons_zero] at s2
  have r1 := s1.rd (xs := NC tb2) rfl
  have r3 := s2.rd (xs := I64 [4, 4, 9, 2, 8]) rfl
  go_wp2_with fail
  clear k1 k3 hb x1 x2
  generalize w11.setCell ⟨G, 0, none⟩ (.int .i64 4) = w12 at *
  refine (walk_any _ _ 5 5 5 5 tb2 [4, 4, 9, 2, 8] w12 rfl (by decide) r1 tb2_wf rfl (by decide) r3).mono ?_
  rintro e w13 ⟨v13, rfl, ov, hb5⟩
  rw [book5.2.1, book5.2.2]
  rw [book5.1] at ov
  obtain ⟨A13, c13, rfl, _, _⟩ := own_rd ov
  have rv := own_rdA ov
  replace hb := bth hB s3 hb5
  clear r1 r3 hb5 ov s1 s2 s3
  have hl : Below w13.heap.size w13 (w13.alloc (.cells #[.int .i64 0] 3)) := by go_grown
  have rl : Rd (w13.alloc (.cells #[.int .i64 0] 3)) (some ⟨w13.heap.size, 0, none⟩) (I64 [0]) := (Blk.new w13 #[.int .i64 0] 3).rd rfl
  go_wp2_with fail
  refine (eqInts_any _ _ 1 1 c13 1 [0] [0] rfl rfl (by omega) _ (rv.below hl) rl).mono ?_
  rintro e w14 ⟨rfl, hb3⟩
  rw [decide_eq_true rfl]
  replace hb := bth hB (bth hB hb hl) hb3
  clear rv hl rl hb3
  go_wp2
  go_returns
  exact ⟨rfl, hb⟩
end Go.Proofs.Ytlcgkdhcdldlfaa
