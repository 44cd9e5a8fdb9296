import Derived.Test.YtlocogccjlecjaaDoorStr
/- Sets of bytes as numbers: byte b stands in N where N's bit b is set. -/
namespace Go.Proofs.YtlocogccjlecjaaDoor
open Go.RowKit
/-- word i of a set -/
def wd (N i : Nat) : Nat := (N >>> (64 * i)) % 18446744073709551616
def setC (N : Nat) : Array Value := #[.int .u64 (wd N 0 : Nat), .int .u64 (wd N 1 : Nat), .int .u64 (wd N 2 : Nat), .int .u64 (wd N 3 : Nat)]
def setV (N : Nat) : Value := .agg (setC N)
theorem setC_size (N : Nat) : (setC N).size = 4 := rfl
/-- k bytes from a on -/
def spU (a : Nat) : Nat → Nat
  | 0 => 0
  | k + 1 => spU a k ||| 1 <<< (a + k)
/-- the bytes from a to b -/
def spanN (a b : Nat) : Nat := spU a (b + 1 - a)
theorem spU_bit (a k j : Nat) : (spU a k).testBit j = (decide (a ≤ j) && decide (j < a + k)) := by
  induction k with
  | zero =>
    show (0 : Nat).testBit j = _
    rw [Nat.zero_testBit]
    by_cases h : a ≤ j
    · rw [decide_eq_false (show ¬ j < a + 0 by omega)]; simp
    · rw [decide_eq_false h]; simp
  | succ k ih =>
    show (spU a k ||| 1 <<< (a + k)).testBit j = _
    rw [Nat.testBit_or, ih, Nat.one_shiftLeft, Nat.testBit_two_pow, ← Bool.decide_and, ← Bool.decide_and, ← Bool.decide_or]
    exact decide_eq_decide.2 (by omega)
theorem spanN_bit (a b j : Nat) : (spanN a b).testBit j = (decide (a ≤ j) && decide (j ≤ b)) := by
  unfold spanN
  rw [spU_bit, ← Bool.decide_and, ← Bool.decide_and]
  exact decide_eq_decide.2 (by omega)
theorem wd_lt (N i : Nat) : wd N i < 18446744073709551616 := Nat.mod_lt _ (by decide)
theorem wd_zero (i : Nat) : wd 0 i = 0 := by simp [wd]
theorem wd_bit (N i j : Nat) : (wd N i).testBit j = (decide (j < 64) && N.testBit (64 * i + j)) := by
  unfold wd
  rw [show (18446744073709551616 : Nat) = 2 ^ 64 from rfl, Nat.testBit_mod_two_pow, Nat.testBit_shiftRight]
theorem wd_or (N M i : Nat) : wd (N ||| M) i = wd N i ||| wd M i := by
  refine Nat.eq_of_testBit_eq fun j => ?_
  rw [Nat.testBit_or, wd_bit, wd_bit, wd_bit, Nat.testBit_or]
  cases decide (j < 64) <;> simp
theorem wd_one (b i : Nat) : wd (1 <<< b) i = if b / 64 = i then 1 <<< (b % 64) else 0 := by
  refine Nat.eq_of_testBit_eq fun j => ?_
  rw [wd_bit, Nat.one_shiftLeft, Nat.testBit_two_pow]
  split
  · rename_i h
    rw [Nat.one_shiftLeft, Nat.testBit_two_pow]
    subst h
    by_cases hj : j = b % 64
    · subst hj
      have h1 : b % 64 < 64 := Nat.mod_lt _ (by decide)
      have h2 : b = 64 * (b / 64) + b % 64 := (Nat.div_add_mod b 64).symm
      simp [h1, ← h2]
    · rw [decide_eq_false (show ¬ (b % 64 = j) from fun e => hj e.symm)]
      by_cases h3 : j < 64
      · rw [decide_eq_false (show ¬ (b = 64 * (b / 64) + j) by omega)]; simp
      · simp [h3]
  · rename_i h
    rw [Nat.zero_testBit]
    by_cases h3 : j < 64
    · rw [decide_eq_false (show ¬ (b = 64 * i + j) by omega)]; simp
    · simp [h3]
theorem setC_get (N i : Nat) (hi : i < 4) : (setC N)[i]? = some (.int .u64 (wd N i : Nat)) := by
  have : i = 0 ∨ i = 1 ∨ i = 2 ∨ i = 3 := by omega
  rcases this with rfl | rfl | rfl | rfl <;> rfl
/-- a byte more -/
theorem setC_add (N b : Nat) (hb : b < 256) : (setC N).setIfInBounds (b / 64) (.int .u64 (wd (N ||| 1 <<< b) (b / 64) : Nat)) = setC (N ||| 1 <<< b) := by
  have h := fun i => wd_or N (1 <<< b) i
  have h1 := fun i => wd_one b i
  have hi : b / 64 = 0 ∨ b / 64 = 1 ∨ b / 64 = 2 ∨ b / 64 = 3 := by omega
  unfold setC
  rcases hi with e | e | e | e <;> rw [e] <;> simp [h, h1, e]
/-- a set is written over, word by word -/
theorem Blk.set4 {w : World} {h M : Nat} {t : TypeId} (q : Blk w h (setC M) t) (N : Nat) :
    Blk ((((w.setCell ⟨h, 0, none⟩ (.int .u64 (wd N 0 : Nat))).setCell ⟨h, 1, none⟩ (.int .u64 (wd N 1 : Nat))).setCell ⟨h, 2, none⟩ (.int .u64 (wd N 2 : Nat))).setCell ⟨h, 3, none⟩ (.int .u64 (wd N 3 : Nat))) h (setC N) t := by
  have := (((q.set 0 (.int .u64 (wd N 0 : Nat))).set 1 (.int .u64 (wd N 1 : Nat))).set 2 (.int .u64 (wd N 2 : Nat))).set 3 (.int .u64 (wd N 3 : Nat))
  simpa [setC] using this
theorem Kp.set4 {S : Nat → Prop} {w w1 : World} (k : Kp S w w1) (h : Nat) (v0 v1 v2 v3 : Value) (hp : h < w.heap.size → S h) :
    Kp S w ((((w1.setCell ⟨h, 0, none⟩ v0).setCell ⟨h, 1, none⟩ v1).setCell ⟨h, 2, none⟩ v2).setCell ⟨h, 3, none⟩ v3) :=
  (((k.set h 0 v0 hp).set h 1 v1 hp).set h 2 v2 hp).set h 3 v3 hp
end Go.Proofs.YtlocogccjlecjaaDoor
