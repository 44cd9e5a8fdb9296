import Derived.Test.YtlocogccjlecjaaDoorAdd
namespace Go.Proofs.YtlocogccjlecjaaDoor
open Go.RowKit
set_option maxRecDepth 100000 in
set_option maxHeartbeats 4000000 in
/-- span -/
theorem span_any (a b : Nat) (ha : a < 256) (hb : b < 256) (w : World) :
    Calls Tryd.prog 64 #[.int .u8 (a : Int), .int .u8 (b : Int)] w fun e w' => e = .returned (setV (spanN a b)) ∧ Below w.heap.size w w' := by
  have h0 : Below w.heap.size w ((w.alloc (.cells (setC 0) 84)).alloc (.cells (setC 0) 84)) := by go_grown
  have q4 := (Blk.new w (setC 0) 84).alloc (.cells (setC 0) 84)
  have q5 := Blk.new (w.alloc (.cells (setC 0) 84)) (setC 0) 84
  simp only [World.size_alloc] at q5
  have e0 : setC 0 = #[.int .u64 0, .int .u64 0, .int .u64 0, .int .u64 0] := by simp [setC, wd_zero]
  go_enter Tryd.func64, Tryd.ntmps64
  go_wp2
  rw [← e0]
  generalize (w.alloc (.cells (setC 0) 84)).alloc (.cells (setC 0) 84) = w1 at *
  clear e0
  go_loopw [6] (fun iv wr => ∃ k : Nat, k ≤ b + 1 - a ∧ iv = .int .i64 ((a + k : Nat) : Int) ∧ Blk wr w.heap.size (setC 0) 84 ∧ Blk wr (w.heap.size + 1) (setC (spU a k)) 84 ∧ Below w.heap.size w wr) (fun iv _ => b + 1 - (intOf iv).toNat)
  case atStart => exact ⟨0, by omega, rfl, q4, q5, h0⟩
  case round =>
    clear q4 q5 h0
    obtain ⟨k, hk, rfl, q4, q5, hb0⟩ := hrel
    generalize hz : a + k = z at *
    by_cases hlt : z ≤ b
    · have hzi : (z : Int) ≤ (b : Int) := by omega
      have hzw : IntKind.u8.wrap (z : Int) = (z : Int) := by rw [IntKind.wrap_u8]; omega
      have HZ := Lib.hid hz
      have HK := Lib.hid (show k + 1 ≤ b + 1 - a by omega)
      clear hz hk
      go_wp2_with fail
      refine (add_any (spU a k) z (w.heap.size + 1) (by omega) wr q5).mono ?_
      rintro e w2 ⟨rfl, q5b, hk2⟩
      have q4b := q4.kp hk2 (by omega)
      have hbb : Below w.heap.size w w2 := hb0.trans (hk2.toBelow hb0.size (fun j hj e => by omega))
      clear q4 q5 hk2 hb0
      go_wp2
      go_roundw
      case rel =>
        have e1 : spU a k ||| 1 <<< z = spU a (k + 1) := by rw [← HZ.out]; rfl
        rw [e1] at q5b
        exact ⟨k + 1, HK.out, by rw [← Nat.add_assoc, HZ.out]; go_num, q4b, q5b, hbb⟩
      case measure => simp [intOf]; omega
    · have hzi : ¬ (z : Int) ≤ (b : Int) := by omega
      have hkk : k = b + 1 - a := by omega
      have eN : spU a k = spanN a b := by unfold spanN; rw [hkk]
      obtain ⟨N, hN⟩ : ∃ N, N = spanN a b := ⟨_, rfl⟩
      rw [eN, ← hN] at q5
      have HN := Lib.hid hN
      clear hN
      have z0 : wr.cell? ⟨w.heap.size, 0, none⟩ = some (.int .u64 (wd 0 0 : Nat)) := q4.cell 0
      have z1 : wr.cell? ⟨w.heap.size, 1, none⟩ = some (.int .u64 (wd 0 1 : Nat)) := q4.cell 1
      have z2 : wr.cell? ⟨w.heap.size, 2, none⟩ = some (.int .u64 (wd 0 2 : Nat)) := q4.cell 2
      have z3 : wr.cell? ⟨w.heap.size, 3, none⟩ = some (.int .u64 (wd 0 3 : Nat)) := q4.cell 3
      have f0 := q4.frozen 0
      have f1 := q4.frozen 1
      have f2 := q4.frozen 2
      have f3 := q4.frozen 3
      have q4n := q4.set4 N
      have hkn := (Kp.of_below (S := fun _ => False) (show Below w.heap.size w wr from hb0)).set4 w.heap.size (.int .u64 (wd N 0 : Nat)) (.int .u64 (wd N 1 : Nat)) (.int .u64 (wd N 2 : Nat)) (.int .u64 (wd N 3 : Nat)) (fun h => absurd h (Nat.lt_irrefl _))
      have Q4 := Lib.hid q4n
      have HK := Lib.hid (hkn.noneS (fun _ _ h => h))
      clear q4n hkn
      have y0 : wr.cell? ⟨w.heap.size + 1, 0, none⟩ = some (.int .u64 (wd N 0 : Nat)) := q5.cell 0
      have y1 : wr.cell? ⟨w.heap.size + 1, 1, none⟩ = some (.int .u64 (wd N 1 : Nat)) := q5.cell 1
      have y2 : wr.cell? ⟨w.heap.size + 1, 2, none⟩ = some (.int .u64 (wd N 2 : Nat)) := q5.cell 2
      have y3 : wr.cell? ⟨w.heap.size + 1, 3, none⟩ = some (.int .u64 (wd N 3 : Nat)) := q5.cell 3
      clear hz hk hkk eN
      go_wp2
      exact bodyPost_ret (results_cell_row rfl _ _ w.heap.size 84 (setC N) (0, 0) _ rfl Q4.out Tryd.underlying84 rfl (by kernel_rfl)) rfl ⟨by rw [← HN.out]; rfl, HK.out⟩
end Go.Proofs.YtlocogccjlecjaaDoor
