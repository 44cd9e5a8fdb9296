import Derived.Test.YtlcgkdhcdldlfaaDoorRPlan
namespace Go.Proofs.YtlcgkdhcdldlfaaDoor
open Go.RowKit

def t0 : List Nd := [(-1, 7, 0), (0, 3, 1)]
theorem t0_wf : WfN t0 := by
  intro i hi
  have : i = 0 ∨ i = 1 := by simp [t0] at hi; omega
  rcases this with rfl | rfl <;> decide
theorem Blk.rd {w : World} {g : Nat} {arr : Array Value} {t : TypeId} {xs : List Value} (h : Blk w g arr t) (he : arr.toList = xs) : Rd w (some ⟨g, 0, none⟩) xs := by
  refine .inr ⟨g, 0, rfl, fun i _ => ?_⟩
  rw [Nat.zero_add, h.cell, ← he]
  simp
theorem works1 : walkL t0 [3, 4] = [0, 1] ∧ walkN t0 [3, 4] = 4 ∧ walkE t0 [3, 4] = 0 := by decide
theorem works2 : takeL t0 [0, 1] 4 9 = [3, 4] ∧ takeO t0 [0, 1] 4 9 = false ∧ takeE t0 [0, 1] 9 = 0 := by decide
theorem works3 : planL [0, 1] [5, 9] [5, 6] = [(9, 6)] ∧ planE [0, 1] [5, 9] [5, 6] = 0 := by decide
theorem wf56 : WfI [5, 6] := by
  intro x hx
  simp at hx
  rcases hx with rfl | rfl <;> decide
set_option maxRecDepth 100000 in
set_option maxHeartbeats 2000000 in
/-- works -/
theorem works_any (w : World) : Calls Tryd.prog 4 #[] w fun e w' => e = .returned (.bool true) ∧ Below w.heap.size w w' := by
  have hb1 : Below w.heap.size w ((w.alloc (.cells #[.int .i64 (-1), .int .i64 7, .int .i64 0, .int .i64 0, .int .i64 3, .int .i64 1] 42)).alloc (.cells #[.int .i64 3, .int .i64 4] 3)) := by go_grown
  have k0 : Blk ((w.alloc (.cells #[.int .i64 (-1), .int .i64 7, .int .i64 0, .int .i64 0, .int .i64 3, .int .i64 1] 42)).alloc (.cells #[.int .i64 3, .int .i64 4] 3)) w.heap.size #[.int .i64 (-1), .int .i64 7, .int .i64 0, .int .i64 0, .int .i64 3, .int .i64 1] 42 := (Blk.new w _ 42).alloc _
  have k1 : Blk ((w.alloc (.cells #[.int .i64 (-1), .int .i64 7, .int .i64 0, .int .i64 0, .int .i64 3, .int .i64 1] 42)).alloc (.cells #[.int .i64 3, .int .i64 4] 3)) (w.heap.size + 1) #[.int .i64 3, .int .i64 4] 3 := by
    simpa using Blk.new (w.alloc (.cells #[.int .i64 (-1), .int .i64 7, .int .i64 0, .int .i64 0, .int .i64 3, .int .i64 1] 42)) #[.int .i64 3, .int .i64 4] 3
  have r0 := k0.rd (xs := NC t0) rfl
  have r1 := k1.rd (xs := I64 [3, 4]) rfl
  go_enter Tryd.func4, Tryd.ntmps4
  go_wp2_with fail
  generalize ((w.alloc (.cells #[.int .i64 (-1), .int .i64 7, .int .i64 0, .int .i64 0, .int .i64 3, .int .i64 1] 42)).alloc (.cells #[.int .i64 3, .int .i64 4] 3)) = w1 at *
  refine (walk_any _ _ 2 2 2 2 t0 [3, 4] w1 rfl (by decide) r0 t0_wf rfl (by decide) r1).mono ?_
  rintro e w2 ⟨v, rfl, ov, hb2⟩
  rw [works1.2.1, works1.2.2]
  rw [works1.1] at ov
  obtain ⟨va, vc, rfl, hvc, _⟩ := own_rd ov
  have rv := own_rdA ov
  replace r0 := r0.below hb2
  replace hb2 := bthen hb1 hb2
  clear ov k0 k1 r1 hb1
  go_wp2_with fail
  refine (take_any _ _ 2 2 2 vc t0 [0, 1] 4 9 w2 rfl (by decide) r0 t0_wf rfl (by decide) hvc rv).mono ?_
  rintro e w3 ⟨A, c, rfl, hA, hb3⟩
  rw [works2.1, works2.2.1, works2.2.2]
  rw [works2.1] at hA
  have ra := hA.rd
  replace rv := rv.below hb3
  replace hb3 := bthen hb2 hb3
  clear hb2 r0
  have hb4 : Below w.heap.size w ((w3.alloc (.cells #[.int .i64 5, .int .i64 9] 3)).alloc (.cells #[.int .i64 5, .int .i64 6] 3)) := (hb3.alloc hb3.size _).alloc (by have := hb3.size; simp; omega) _
  have hb34 : Below w3.heap.size w3 ((w3.alloc (.cells #[.int .i64 5, .int .i64 9] 3)).alloc (.cells #[.int .i64 5, .int .i64 6] 3)) := by go_grown
  have k0 : Blk ((w3.alloc (.cells #[.int .i64 5, .int .i64 9] 3)).alloc (.cells #[.int .i64 5, .int .i64 6] 3)) w3.heap.size #[.int .i64 5, .int .i64 9] 3 := (Blk.new w3 _ 3).alloc _
  have k1 : Blk ((w3.alloc (.cells #[.int .i64 5, .int .i64 9] 3)).alloc (.cells #[.int .i64 5, .int .i64 6] 3)) (w3.heap.size + 1) #[.int .i64 5, .int .i64 6] 3 := by
    simpa using Blk.new (w3.alloc (.cells #[.int .i64 5, .int .i64 9] 3)) #[.int .i64 5, .int .i64 6] 3
  have r0 := k0.rd (xs := I64 [5, 9]) rfl
  have r1 := k1.rd (xs := I64 [5, 6]) rfl
  replace ra := ra.below hb34
  replace rv := rv.below hb34
  go_wp2_with fail
  generalize ((w3.alloc (.cells #[.int .i64 5, .int .i64 9] 3)).alloc (.cells #[.int .i64 5, .int .i64 6] 3)) = w4 at *
  refine (plan_any _ _ _ 2 vc 2 2 2 2 [0, 1] [5, 9] [5, 6] w4 rfl (by decide) rv rfl r0 rfl (by decide) r1 wf56).mono ?_
  rintro e w5 ⟨A5, c5, rfl, o5, hb5⟩
  rw [works3.1, works3.2]
  rw [works3.1] at o5
  replace ra := ra.below hb5
  replace hb5 := bthen hb4 hb5
  obtain ⟨b, o, rfl, x0⟩ := ra.i64 0 (by decide)
  have x1 := ra.i64At 1 (by decide)
  obtain ⟨b', o', rfl, y0, y1⟩ := (own_rdA o5).pr 0 (by decide)
  have ea := addr_add b o 1
  have ea' := addr_add b' o' 1
  clear r0 r1 k0 k1 rv o5 hA hb34 hb4 hb3
  simp only [Nat.add_zero, Nat.zero_mul] at x0 y0 y1
  have x0' : w5.cell? ⟨b, o, none⟩ = some (.int .i64 3) := x0
  have x1' : w5.cell? ⟨b, o + 1, none⟩ = some (.int .i64 4) := x1
  have y0' : w5.cell? ⟨b', o', none⟩ = some (.int .i64 9) := y0
  have y1' : w5.cell? ⟨b', o' + 1, none⟩ = some (.int .i64 6) := y1
  clear x0 x1 y0 y1 ra
  go_wp2
  go_returns
  exact ⟨rfl, hb5⟩
end Go.Proofs.YtlcgkdhcdldlfaaDoor
