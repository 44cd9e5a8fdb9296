import Derived.Test.YtlocogccjlecjaaDoorLnk
namespace Go.Proofs.YtlocogccjlecjaaDoor
open Go.RowKit
set_option maxRecDepth 100000 in
set_option maxHeartbeats 4000000 in
/-- has -/
theorem has_any (N b : Nat) (hb : b < 256) (w : World) :
    Calls Tryd.prog 30 #[setV N, .int .u8 (b : Int)] w fun e w' => e = .returned (.bool (N.testBit b)) ∧ Below w.heap.size w w' := by
  have h0 : Below w.heap.size w (w.alloc (.cells (setC N) 84)) := by go_grown
  have q := Blk.new w (setC N) 84
  obtain ⟨i, hi⟩ : ∃ i, i = b / 64 := ⟨_, rfl⟩
  obtain ⟨r, hr⟩ : ∃ r, r = b % 64 := ⟨_, rfl⟩
  have hc : (w.alloc (.cells (setC N) 84)).cell? ⟨w.heap.size, i, none⟩ = some (.int .u64 ((wd N i : Nat) : Int)) := by rw [q.cell]; exact setC_get N i (by omega)
  have ea : (⟨w.heap.size, 0, none⟩ : Addr).add i = ⟨w.heap.size, i, none⟩ := by simpa using addr_add w.heap.size 0 i
  have hdiv : (b : Int) / 64 = (i : Int) := by omega
  have hwi : IntKind.u8.wrap (i : Int) = (i : Int) := by rw [IntKind.wrap_u8]; omega
  have hi4 : (i : Int) < 4 := by omega
  have hrem : (b : Int).tmod 64 = (r : Int) := by rw [Int.tmod_eq_emod_of_nonneg (by omega)]; omega
  have hwr : IntKind.u8.wrap (r : Int) = (r : Int) := by rw [IntKind.wrap_u8]; omega
  have HI := Lib.hid hi
  have HR := Lib.hid hr
  have H0 := Lib.hid h0
  clear hi hr q h0
  unfold setV
  have HN : setC N = #[.int .u64 (wd N 0 : Nat), .int .u64 (wd N 1 : Nat), .int .u64 (wd N 2 : Nat), .int .u64 (wd N 3 : Nat)] := rfl
  rw [HN] at hc ⊢
  go_enter Tryd.func30, Tryd.ntmps30
  have hbit : (bits BinOp.and IntKind.u64 (((wd N i : Nat) : Int) / 2 ^ min r 64) 1 == 1) = N.testBit b := by
    have h1 : r < 64 := by rw [HR.out]; omega
    have h2 : (((wd N i : Nat) : Int) / 2 ^ min r 64) = ((wd N i / 2 ^ r : Nat) : Int) := by
      rw [Nat.min_eq_left (by omega)]
      push_cast
      rfl
    have h3 : wd N i / 2 ^ r < 18446744073709551616 := Nat.lt_of_le_of_lt (Nat.div_le_self _ _) (wd_lt N i)
    have h4 := bits_and_u64_nat (wd N i / 2 ^ r) 1 h3 (by decide)
    rw [h2, show (1 : Int) = ((1 : Nat) : Int) from rfl, h4, Nat.and_one_is_mod]
    have h5 := wd_bit N i r
    rw [decide_eq_true h1, Bool.true_and, HI.out, HR.out, Nat.div_add_mod] at h5
    rw [← h5, Nat.testBit_eq_decide_div_mod_eq, ← HI.out, ← HR.out]
    by_cases h6 : wd N i / 2 ^ r % 2 = 1
    · rw [h6]; rfl
    · have h7 : wd N i / 2 ^ r % 2 = 0 := by omega
      rw [h7]; rfl
  have HB := Lib.hid hbit
  clear hbit
  go_wp2
  go_returns
  exact ⟨by rw [← HB.out]; rfl, H0.out⟩
end Go.Proofs.YtlocogccjlecjaaDoor
