import Derived.Test.YtlocogccjlecjaaDoorJoin
namespace Go.Proofs.YtlocogccjlecjaaDoor
open Go.RowKit
theorem Tab.kp {S : Nat → Prop} {w w' : World} (h : Tab w) (hk : Kp S w w') (hs : ¬ S 0) : Tab w' := fun j hj => by
  have h1 := h j hj
  have hlt := World.block_lt_of_cell? w _ h1
  rw [World.cell?_of_block (w := w) (hk.block 0 hlt hs)]
  exact h1
theorem Tab.below {w w' : World} (h : Tab w) (hb : Below w.heap.size w w') : Tab w' := h.kp (S := fun _ => False) (.of_below hb) (fun h => h)
/-- the least byte of a set -/
def leastN (N : Nat) : Nat :=
  if wd N 0 ≠ 0 then Lib.ctz 64 (wd N 0) else if wd N 1 ≠ 0 then 64 + Lib.ctz 64 (wd N 1) else if wd N 2 ≠ 0 then 128 + Lib.ctz 64 (wd N 2) else if wd N 3 ≠ 0 then 192 + Lib.ctz 64 (wd N 3) else 0
theorem leastN_lt (N : Nat) : leastN N < 256 := by
  have h := fun i (hi : wd N i ≠ 0) => (Lib.lowest_bit 64 (wd N i) hi (wd_lt N i)).2
  unfold leastN
  split
  · rename_i h0; have := h 0 h0; omega
  · split
    · rename_i h0; have := h 1 h0; omega
    · split
      · rename_i h0; have := h 2 h0; omega
      · split
        · rename_i h0; have := h 3 h0; omega
        · omega
theorem index84_0 (a b c d : Value) (w : World) : (Instr.index 84 (.agg #[a, b, c, d]) (.int .i64 0)).run Tryd.prog w = .ok a w := by kernel_rfl
theorem index84_1 (a b c d : Value) (w : World) : (Instr.index 84 (.agg #[a, b, c, d]) (.int .i64 1)).run Tryd.prog w = .ok b w := by kernel_rfl
theorem index84_2 (a b c d : Value) (w : World) : (Instr.index 84 (.agg #[a, b, c, d]) (.int .i64 2)).run Tryd.prog w = .ok c w := by kernel_rfl
theorem index84_3 (a b c d : Value) (w : World) : (Instr.index 84 (.agg #[a, b, c, d]) (.int .i64 3)).run Tryd.prog w = .ok d w := by kernel_rfl
set_option maxRecDepth 100000 in
set_option maxHeartbeats 4000000 in
/-- least -/
theorem least_any (N : Nat) (w : World) (hT : Tab w) :
    Calls Tryd.prog 71 #[setV N] w fun e w' => e = .returned (.int .u8 (leastN N : Nat)) ∧ Below w.heap.size w w' := by
  have h0 : Below w.heap.size w (w.alloc (.cells (setC N) 84)) := by go_grown
  have q1 := Blk.new w (setC N) 84
  have HN : setC N = #[.int .u64 (wd N 0 : Nat), .int .u64 (wd N 1 : Nat), .int .u64 (wd N 2 : Nat), .int .u64 (wd N 3 : Nat)] := rfl
  have LT := Lib.hid (fun i (hi : wd N i ≠ 0) => (Lib.lowest_bit 64 (wd N i) hi (wd_lt N i)).2)
  unfold setV
  rw [HN] at q1 h0 ⊢
  have y0 : (w.alloc (.cells #[.int .u64 (wd N 0 : Nat), .int .u64 (wd N 1 : Nat), .int .u64 (wd N 2 : Nat), .int .u64 (wd N 3 : Nat)] 84)).cell? ⟨w.heap.size, 0, none⟩ = some (.int .u64 (wd N 0 : Nat)) := q1.cell 0
  have y1 : (w.alloc (.cells #[.int .u64 (wd N 0 : Nat), .int .u64 (wd N 1 : Nat), .int .u64 (wd N 2 : Nat), .int .u64 (wd N 3 : Nat)] 84)).cell? ⟨w.heap.size, 1, none⟩ = some (.int .u64 (wd N 1 : Nat)) := q1.cell 1
  have y2 : (w.alloc (.cells #[.int .u64 (wd N 0 : Nat), .int .u64 (wd N 1 : Nat), .int .u64 (wd N 2 : Nat), .int .u64 (wd N 3 : Nat)] 84)).cell? ⟨w.heap.size, 2, none⟩ = some (.int .u64 (wd N 2 : Nat)) := q1.cell 2
  have y3 : (w.alloc (.cells #[.int .u64 (wd N 0 : Nat), .int .u64 (wd N 1 : Nat), .int .u64 (wd N 2 : Nat), .int .u64 (wd N 3 : Nat)] 84)).cell? ⟨w.heap.size, 3, none⟩ = some (.int .u64 (wd N 3 : Nat)) := q1.cell 3
  have i0 := index84_0 (.int .u64 (wd N 0 : Nat)) (.int .u64 (wd N 1 : Nat)) (.int .u64 (wd N 2 : Nat)) (.int .u64 (wd N 3 : Nat))
  have i1 := index84_1 (.int .u64 (wd N 0 : Nat)) (.int .u64 (wd N 1 : Nat)) (.int .u64 (wd N 2 : Nat)) (.int .u64 (wd N 3 : Nat))
  have i2 := index84_2 (.int .u64 (wd N 0 : Nat)) (.int .u64 (wd N 1 : Nat)) (.int .u64 (wd N 2 : Nat)) (.int .u64 (wd N 3 : Nat))
  have i3 := index84_3 (.int .u64 (wd N 0 : Nat)) (.int .u64 (wd N 1 : Nat)) (.int .u64 (wd N 2 : Nat)) (.int .u64 (wd N 3 : Nat))
  go_enter Tryd.func71, Tryd.ntmps71
  go_wp2
  clear y0 y1 y2 y3 q1 HN
  generalize w.alloc (.cells #[.int .u64 (wd N 0 : Nat), .int .u64 (wd N 1 : Nat), .int .u64 (wd N 2 : Nat), .int .u64 (wd N 3 : Nat)] 84) = w1 at *
  go_loopw [3, 4, 6] (fun _ _ iv wr => ∃ k : Nat, k ≤ 4 ∧ iv = .int .i64 (k : Int) ∧ (∀ j, j < k → wd N j = 0) ∧ Below w.heap.size w wr) (fun _ _ iv _ => 4 - (intOf iv).toNat)
  case atStart => exact ⟨0, by omega, rfl, fun j hj => by omega, h0⟩
  case round =>
    clear h0
    obtain ⟨k, hk, rfl, hz, hb0⟩ := hrel
    have hTr := hT.below hb0
    have HZ := Lib.hid hz
    clear hz
    have hc : k = 0 ∨ k = 1 ∨ k = 2 ∨ k = 3 ∨ k = 4 := by omega
    rcases hc with rfl | rfl | rfl | rfl | rfl
    case inr.inr.inr.inr =>
      have e0 : leastN N = 0 := by
        unfold leastN
        rw [HZ.out 0 (by omega), HZ.out 1 (by omega), HZ.out 2 (by omega), HZ.out 3 (by omega)]
        rfl
      have E0 := Lib.hid e0
      clear e0
      go_wp2
      go_returns
      exact ⟨by rw [E0.out]; rfl, hb0⟩
    case inl =>
      by_cases hw : wd N 0 = 0
      · have hw1 : ((wd N 0 : Nat) : Int) = 0 := by omega
        have hne : (((wd N 0 : Nat) : Int) == 0) = true := by rw [hw1]; rfl
        have HZ2 := Lib.hid (show ∀ j, j < 1 → wd N j = 0 from fun j hj => by
          rcases Nat.lt_or_ge j 0 with h | h
          · exact HZ.out j h
          · obtain rfl : j = 0 := by omega
            exact hw)
        clear hw hw1
        go_wp2
        go_roundw
        case rel => exact ⟨1, by omega, rfl, HZ2.out, hb0⟩
        case measure => simp [intOf]
      · have hne : (((wd N 0 : Nat) : Int) == 0) = false := by rw [beq_eq_false_iff_ne]; omega
        have hzl := LT.out 0 hw
        have e0 : leastN N = 0 + Lib.ctz 64 (wd N 0) := by
          unfold leastN

          rw [if_pos hw, Nat.zero_add]
        have E0 := Lib.hid e0
        clear e0
        go_wp2_with fail
        refine (tz_any (wd N 0) (wd_lt N 0) wr hTr hw).mono ?_
        rintro e w2 ⟨rfl, rfl⟩
        clear hw
        generalize Lib.ctz 64 (wd N 0) = z at *
        go_wp2
        go_returns
        exact ⟨by rw [E0.out, Nat.zero_add]; rfl, hb0⟩
    case inr.inl =>
      by_cases hw : wd N 1 = 0
      · have hw1 : ((wd N 1 : Nat) : Int) = 0 := by omega
        have hne : (((wd N 1 : Nat) : Int) == 0) = true := by rw [hw1]; rfl
        have HZ2 := Lib.hid (show ∀ j, j < 2 → wd N j = 0 from fun j hj => by
          rcases Nat.lt_or_ge j 1 with h | h
          · exact HZ.out j h
          · obtain rfl : j = 1 := by omega
            exact hw)
        clear hw hw1
        go_wp2
        go_roundw
        case rel => exact ⟨2, by omega, rfl, HZ2.out, hb0⟩
        case measure => simp [intOf]
      · have hne : (((wd N 1 : Nat) : Int) == 0) = false := by rw [beq_eq_false_iff_ne]; omega
        have hzl := LT.out 1 hw
        have e0 : leastN N = 64 + Lib.ctz 64 (wd N 1) := by
          unfold leastN
          rw [if_neg (by rw [HZ.out 0 (by omega)]; simp)]
          rw [if_pos hw]
        have E0 := Lib.hid e0
        clear e0
        go_wp2_with fail
        refine (tz_any (wd N 1) (wd_lt N 1) wr hTr hw).mono ?_
        rintro e w2 ⟨rfl, rfl⟩
        clear hw
        generalize Lib.ctz 64 (wd N 1) = z at *
        go_wp2
        go_returns
        exact ⟨by rw [E0.out]; go_num, hb0⟩
    case inr.inr.inl =>
      by_cases hw : wd N 2 = 0
      · have hw1 : ((wd N 2 : Nat) : Int) = 0 := by omega
        have hne : (((wd N 2 : Nat) : Int) == 0) = true := by rw [hw1]; rfl
        have HZ2 := Lib.hid (show ∀ j, j < 3 → wd N j = 0 from fun j hj => by
          rcases Nat.lt_or_ge j 2 with h | h
          · exact HZ.out j h
          · obtain rfl : j = 2 := by omega
            exact hw)
        clear hw hw1
        go_wp2
        go_roundw
        case rel => exact ⟨3, by omega, rfl, HZ2.out, hb0⟩
        case measure => simp [intOf]
      · have hne : (((wd N 2 : Nat) : Int) == 0) = false := by rw [beq_eq_false_iff_ne]; omega
        have hzl := LT.out 2 hw
        have e0 : leastN N = 128 + Lib.ctz 64 (wd N 2) := by
          unfold leastN
          rw [if_neg (by rw [HZ.out 0 (by omega)]; simp)]
          rw [if_neg (by rw [HZ.out 1 (by omega)]; simp)]
          rw [if_pos hw]
        have E0 := Lib.hid e0
        clear e0
        go_wp2_with fail
        refine (tz_any (wd N 2) (wd_lt N 2) wr hTr hw).mono ?_
        rintro e w2 ⟨rfl, rfl⟩
        clear hw
        generalize Lib.ctz 64 (wd N 2) = z at *
        go_wp2
        go_returns
        exact ⟨by rw [E0.out]; go_num, hb0⟩
    case inr.inr.inr.inl =>
      by_cases hw : wd N 3 = 0
      · have hw1 : ((wd N 3 : Nat) : Int) = 0 := by omega
        have hne : (((wd N 3 : Nat) : Int) == 0) = true := by rw [hw1]; rfl
        have HZ2 := Lib.hid (show ∀ j, j < 4 → wd N j = 0 from fun j hj => by
          rcases Nat.lt_or_ge j 3 with h | h
          · exact HZ.out j h
          · obtain rfl : j = 3 := by omega
            exact hw)
        clear hw hw1
        go_wp2
        go_roundw
        case rel => exact ⟨4, by omega, rfl, HZ2.out, hb0⟩
        case measure => simp [intOf]
      · have hne : (((wd N 3 : Nat) : Int) == 0) = false := by rw [beq_eq_false_iff_ne]; omega
        have hzl := LT.out 3 hw
        have e0 : leastN N = 192 + Lib.ctz 64 (wd N 3) := by
          unfold leastN
          rw [if_neg (by rw [HZ.out 0 (by omega)]; simp)]
          rw [if_neg (by rw [HZ.out 1 (by omega)]; simp)]
          rw [if_neg (by rw [HZ.out 2 (by omega)]; simp)]
          rw [if_pos hw]
        have E0 := Lib.hid e0
        clear e0
        go_wp2_with fail
        refine (tz_any (wd N 3) (wd_lt N 3) wr hTr hw).mono ?_
        rintro e w2 ⟨rfl, rfl⟩
        clear hw
        generalize Lib.ctz 64 (wd N 3) = z at *
        go_wp2
        go_returns
        exact ⟨by rw [E0.out]; go_num, hb0⟩
end Go.Proofs.YtlocogccjlecjaaDoor
