import Derived.Test.YtlocogccjlecjaaDoorInn
namespace Go.Proofs.YtlocogccjlecjaaDoor
open Go.RowKit
theorem eq84 (a b c d a' b' c' d' : Int) (w : World) : (Op.equalIn 10000 84 (.agg #[.int .u64 a, .int .u64 b, .int .u64 c, .int .u64 d]) (.agg #[.int .u64 a', .int .u64 b', .int .u64 c', .int .u64 d'])).run Tryd.prog w = .ok ((a == a') && (b == b') && (c == c') && (d == d')) w := by
  have hu : (underlying 84).run Tryd.prog w = .ok (.array 4 72) w := by kernel_rfl
  have hs : (sizeOf 72).run Tryd.prog w = .ok 1 w := by kernel_rfl
  have p0 : ∀ (x y z u : Int), (part 72 #[.int .u64 x, .int .u64 y, .int .u64 z, .int .u64 u] (0 * 1)).run Tryd.prog w = .ok (.int .u64 x) w := fun x y z u => by kernel_rfl
  have p1 : ∀ (x y z u : Int), (part 72 #[.int .u64 x, .int .u64 y, .int .u64 z, .int .u64 u] (1 * 1)).run Tryd.prog w = .ok (.int .u64 y) w := fun x y z u => by kernel_rfl
  have p2 : ∀ (x y z u : Int), (part 72 #[.int .u64 x, .int .u64 y, .int .u64 z, .int .u64 u] (2 * 1)).run Tryd.prog w = .ok (.int .u64 z) w := fun x y z u => by kernel_rfl
  have p3 : ∀ (x y z u : Int), (part 72 #[.int .u64 x, .int .u64 y, .int .u64 z, .int .u64 u] (3 * 1)).run Tryd.prog w = .ok (.int .u64 u) w := fun x y z u => by kernel_rfl
  have e3 : ∀ x y : Int, (Op.equalIn 9999 72 (.int .u64 x) (.int .u64 y)).run Tryd.prog w = .ok (x == y) w := fun x y => run_equalIn_int w 9998 72 .u64 .u64 x y Tryd.underlying72
  rw [show (10000 : Nat) = 9999 + 1 from rfl, Op.equalIn]
  simp only [Sem.run_bind, hu, hs, Result.andThen_ok]
  simp [Std.Legacy.Range.forIn_eq_forIn_range', Std.Legacy.Range.size, List.range', Sem.run_bind, p0, p1, p2, p3, e3]
  by_cases h1 : a = a' <;> by_cases h2 : b = b' <;> by_cases h3 : c = c' <;> by_cases h4 : d = d' <;> simp [h1, h2, h3, h4]
/-- is a set of bytes empty? -/
theorem set_zero {N : Nat} (hN : N < 2 ^ 256) : (((wd N 0 : Nat) : Int) == 0 && ((wd N 1 : Nat) : Int) == 0 && ((wd N 2 : Nat) : Int) == 0 && ((wd N 3 : Nat) : Int) == 0) = decide (N = 0) := by
  by_cases h : N = 0
  · subst h; simp [wd_zero]
  · rw [decide_eq_false h]
    have : ¬ (wd N 0 = 0 ∧ wd N 1 = 0 ∧ wd N 2 = 0 ∧ wd N 3 = 0) := by
      rintro ⟨h0, h1, h2, h3⟩
      apply h
      refine Nat.eq_of_testBit_eq fun j => ?_
      rw [Nat.zero_testBit]
      by_cases hj : j < 256
      · have hb := wd_bit N (j / 64) (j % 64)
        rw [decide_eq_true (Nat.mod_lt _ (by decide)), Bool.true_and, Nat.div_add_mod] at hb
        rw [← hb]
        have hi : j / 64 = 0 ∨ j / 64 = 1 ∨ j / 64 = 2 ∨ j / 64 = 3 := by omega
        rcases hi with e | e | e | e <;> rw [e] <;> simp [h0, h1, h2, h3]
      · exact Nat.testBit_lt_two_pow (Nat.lt_of_lt_of_le hN (Nat.pow_le_pow_right (by decide) (by omega)))
    simp only [Bool.and_eq_false_iff, beq_eq_false_iff_ne]
    omega
end Go.Proofs.YtlocogccjlecjaaDoor
