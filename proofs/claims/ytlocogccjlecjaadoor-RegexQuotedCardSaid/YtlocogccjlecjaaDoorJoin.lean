import Derived.Test.YtlocogccjlecjaaDoorSpan
namespace Go.Proofs.YtlocogccjlecjaaDoor
open Go.RowKit
def mixN (A B k j : Nat) : Nat := if j < k then wd (A ||| B) j else wd A j
def mixC (A B k : Nat) : Array Value := #[.int .u64 (mixN A B k 0 : Nat), .int .u64 (mixN A B k 1 : Nat), .int .u64 (mixN A B k 2 : Nat), .int .u64 (mixN A B k 3 : Nat)]
theorem mixC_get (A B k j : Nat) (hj : j < 4) : (mixC A B k)[j]? = some (.int .u64 (mixN A B k j : Nat)) := by
  have : j = 0 ∨ j = 1 ∨ j = 2 ∨ j = 3 := by omega
  rcases this with rfl | rfl | rfl | rfl <;> rfl
theorem mixC_zero (A B : Nat) : mixC A B 0 = setC A := by simp [mixC, mixN, setC]
theorem mixC_four (A B : Nat) : mixC A B 4 = setC (A ||| B) := by simp [mixC, mixN, setC]
theorem mixC_step (A B k : Nat) (hk : k < 4) : (mixC A B k).setIfInBounds k (.int .u64 (wd (A ||| B) k : Nat)) = mixC A B (k + 1) := by
  have : k = 0 ∨ k = 1 ∨ k = 2 ∨ k = 3 := by omega
  rcases this with rfl | rfl | rfl | rfl <;> simp [mixC, mixN]
set_option maxRecDepth 100000 in
set_option maxHeartbeats 4000000 in
/-- join -/
theorem join_any (A B : Nat) (w : World) :
    Calls Tryd.prog 72 #[setV A, setV B] w fun e w' => e = .returned (setV (A ||| B)) ∧ Below w.heap.size w w' := by
  have h0 : Below w.heap.size w (((w.alloc (.cells (setC A) 84)).alloc (.cells (setC B) 84)).alloc (.cells (setC 0) 84)) := by go_grown
  have q2 := ((Blk.new w (setC A) 84).alloc (.cells (setC B) 84)).alloc (.cells (setC 0) 84)
  have q3 := (Blk.new (w.alloc (.cells (setC A) 84)) (setC B) 84).alloc (.cells (setC 0) 84)
  have q4 := Blk.new ((w.alloc (.cells (setC A) 84)).alloc (.cells (setC B) 84)) (setC 0) 84
  simp only [World.size_alloc] at q3 q4
  have e0 : setC 0 = #[.int .u64 0, .int .u64 0, .int .u64 0, .int .u64 0] := by simp [setC, wd_zero]
  have HA : setC A = #[.int .u64 (wd A 0 : Nat), .int .u64 (wd A 1 : Nat), .int .u64 (wd A 2 : Nat), .int .u64 (wd A 3 : Nat)] := rfl
  have HB : setC B = #[.int .u64 (wd B 0 : Nat), .int .u64 (wd B 1 : Nat), .int .u64 (wd B 2 : Nat), .int .u64 (wd B 3 : Nat)] := rfl
  unfold setV
  go_enter Tryd.func72, Tryd.ntmps72
  rw [HA, HB]
  go_wp2
  rw [← e0, ← HA, ← HB]
  rw [← mixC_zero A B] at q2 h0 ⊢
  rw [mixC_zero A B] at q2 h0 ⊢
  generalize ((w.alloc (.cells (setC A) 84)).alloc (.cells (setC B) 84)).alloc (.cells (setC 0) 84) = w1 at *
  clear e0 HA HB
  go_loopw [5, 6] (fun _ iv wr => ∃ k : Nat, k ≤ 4 ∧ iv = .int .i64 (k : Int) ∧ Blk wr w.heap.size (mixC A B k) 84 ∧ Blk wr (w.heap.size + 1) (setC B) 84 ∧ Blk wr (w.heap.size + 1 + 1) (setC 0) 84 ∧ Below w.heap.size w wr) (fun _ iv _ => 4 - (intOf iv).toNat)
  case atStart => exact ⟨0, by omega, rfl, by rw [mixC_zero]; exact q2, q3, q4, h0⟩
  case round =>
    clear q2 q3 q4 h0
    obtain ⟨k, hk, rfl, q2, q3, q4, hb0⟩ := hrel
    by_cases hlt : k < 4
    · have hki : (k : Int) < 4 := by omega
      have y2 : wr.cell? ⟨w.heap.size, k, none⟩ = some (.int .u64 (wd A k : Nat)) := by rw [q2.cell, mixC_get _ _ _ _ hlt]; simp [mixN]
      have y3 : wr.cell? ⟨w.heap.size + 1, k, none⟩ = some (.int .u64 (wd B k : Nat)) := by rw [q3.cell]; exact setC_get B k hlt
      have e2 : (⟨w.heap.size, 0, none⟩ : Addr).add k = ⟨w.heap.size, k, none⟩ := by simpa using addr_add w.heap.size 0 k
      have e3 : (⟨w.heap.size + 1, 0, none⟩ : Addr).add k = ⟨w.heap.size + 1, k, none⟩ := by simpa using addr_add (w.heap.size + 1) 0 k
      have hor : bits BinOp.or IntKind.u64 ((wd A k : Nat) : Int) ((wd B k : Nat) : Int) = ((wd (A ||| B) k : Nat) : Int) := by
        rw [bits_or_u64_nat _ _ (wd_lt A k) (wd_lt B k), wd_or]
      have yd : wr.drew.cell? ⟨w.heap.size, k, none⟩ = some (.int .u64 (wd A k : Nat)) := y2
      have fd := q2.drew.frozen k
      have q2n := q2.drew.set k (.int .u64 (wd (A ||| B) k : Nat))
      rw [mixC_step A B k hlt] at q2n
      have P := Lib.hid (And.intro q2n (And.intro (q3.drew.other ⟨w.heap.size, k, none⟩ (.int .u64 (wd (A ||| B) k : Nat)) (by simp)) (And.intro (q4.drew.other ⟨w.heap.size, k, none⟩ (.int .u64 (wd (A ||| B) k : Nat)) (by simp; omega)) (hb0.drew.setCell (p := ⟨w.heap.size, k, none⟩) (Nat.le_refl _) (.int .u64 (wd (A ||| B) k : Nat))))))
      have HK := Lib.hid (show k + 1 ≤ 4 by omega)
      clear q2 q3 q4 hb0 q2n hk
      go_wp2
      go_still_tail 8, (by kernel_rfl)
      change wpList _ _ _ _ _ wr.drew
      generalize wr.drew = wd' at *
      clear y2 y3
      go_wp2
      go_roundw
      case rel => exact ⟨k + 1, HK.out, by go_num, P.out.1, P.out.2.1, P.out.2.2.1, P.out.2.2.2⟩
      case measure => simp [intOf]; have := HK.out; omega
    · obtain rfl : k = 4 := by omega
      rw [mixC_four] at q2
      obtain ⟨N, hN⟩ : ∃ N, N = A ||| B := ⟨_, rfl⟩
      rw [← hN] at q2
      have HN := Lib.hid hN
      clear hN hk hlt
      have y0 : wr.cell? ⟨w.heap.size, 0, none⟩ = some (.int .u64 (wd N 0 : Nat)) := q2.cell 0
      have y1 : wr.cell? ⟨w.heap.size, 1, none⟩ = some (.int .u64 (wd N 1 : Nat)) := q2.cell 1
      have y2 : wr.cell? ⟨w.heap.size, 2, none⟩ = some (.int .u64 (wd N 2 : Nat)) := q2.cell 2
      have y3 : wr.cell? ⟨w.heap.size, 3, none⟩ = some (.int .u64 (wd N 3 : Nat)) := q2.cell 3
      have z0 : wr.cell? ⟨w.heap.size + 1 + 1, 0, none⟩ = some (.int .u64 (wd 0 0 : Nat)) := q4.cell 0
      have z1 : wr.cell? ⟨w.heap.size + 1 + 1, 1, none⟩ = some (.int .u64 (wd 0 1 : Nat)) := q4.cell 1
      have z2 : wr.cell? ⟨w.heap.size + 1 + 1, 2, none⟩ = some (.int .u64 (wd 0 2 : Nat)) := q4.cell 2
      have z3 : wr.cell? ⟨w.heap.size + 1 + 1, 3, none⟩ = some (.int .u64 (wd 0 3 : Nat)) := q4.cell 3
      have f0 := q4.frozen 0
      have f1 := q4.frozen 1
      have f2 := q4.frozen 2
      have f3 := q4.frozen 3
      have q4n := q4.set4 N
      have hkn := (Kp.of_below (S := fun _ => False) (show Below w.heap.size w wr from hb0)).set4 (w.heap.size + 1 + 1) (.int .u64 (wd N 0 : Nat)) (.int .u64 (wd N 1 : Nat)) (.int .u64 (wd N 2 : Nat)) (.int .u64 (wd N 3 : Nat)) (fun h => absurd h (by omega))
      have Q4 := Lib.hid q4n
      have HK := Lib.hid (hkn.noneS (fun _ _ h => h))
      clear q4n hkn
      go_wp2
      exact bodyPost_ret (results_cell_row rfl _ _ (w.heap.size + 1 + 1) 84 (setC N) (0, 0) _ rfl Q4.out Tryd.underlying84 rfl (by kernel_rfl)) rfl ⟨by rw [← HN.out], HK.out⟩
end Go.Proofs.YtlocogccjlecjaaDoor
