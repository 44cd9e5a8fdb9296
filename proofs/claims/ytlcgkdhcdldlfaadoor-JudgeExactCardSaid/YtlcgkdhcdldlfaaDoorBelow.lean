import Derived.Test.YtlcgkdhcdldlfaaDoorWalks
import Derived.Lib.Mul64
namespace Go.Proofs.YtlcgkdhcdldlfaaDoor
open Go.RowKit

theorem and32 (x : Nat) (hx : x < 18446744073709551616) : bits .and .u64 (x : Int) 4294967295 = ((x % 4294967296 : Nat) : Int) := by
  rw [show (4294967295 : Int) = ((4294967295 : Nat) : Int) from rfl, u64_and_nat x 4294967295 hx (by omega)]
  exact congrArg Nat.cast (Nat.and_two_pow_sub_one_eq_mod x 32)
theorem wrap_lt (n : Nat) (h : n < 18446744073709551616) : IntKind.u64.wrap (n : Int) = (n : Int) := by
  rw [IntKind.wrap_u64]
  omega
theorem div32 (x : Nat) : (x : Int) / 4294967296 = ((x / 4294967296 : Nat) : Int) := by omega
theorem mul_form (u n : Nat) (hu : u < 18446744073709551616) (hn : n < 18446744073709551616) :
    ∀ w0 t w1 : Int, w0 = IntKind.u64.wrap (bits .and .u64 (u : Int) 4294967295 * bits .and .u64 (n : Int) 4294967295) →
      t = IntKind.u64.wrap (IntKind.u64.wrap ((u : Int) / 4294967296 * bits .and .u64 (n : Int) 4294967295) + w0 / 4294967296) →
      w1 = IntKind.u64.wrap (bits .and .u64 t 4294967295 + IntKind.u64.wrap (bits .and .u64 (u : Int) 4294967295 * ((n : Int) / 4294967296))) →
      IntKind.u64.wrap (IntKind.u64.wrap (IntKind.u64.wrap ((u : Int) / 4294967296 * ((n : Int) / 4294967296)) + t / 4294967296) + w1 / 4294967296) = ((u * n / 18446744073709551616 : Nat) : Int) := by
  intro w0 t w1 h0 h1 h2
  obtain ⟨b0, b1, b2, b3⟩ := Lib.mul64_hi u n hu hn
  rw [and32 u hu, and32 n hn, ← Int.natCast_mul, wrap_lt _ b0] at h0
  subst h0
  have le1 := Lib.half_mul_le (a := u / 4294967296) (b := n % 4294967296) (by omega) (by omega)
  have le2 := Lib.half_mul_le (a := u / 4294967296) (b := n / 4294967296) (by omega) (by omega)
  have le3 := Lib.half_mul_le (a := u % 4294967296) (b := n / 4294967296) (by omega) (by omega)
  rw [and32 n hn, div32 u, ← Int.natCast_mul, wrap_lt _ (by omega), div32, ← Int.natCast_add, wrap_lt _ b1] at h1
  subst h1
  rw [and32 _ b1, and32 u hu, div32 n, ← Int.natCast_mul, wrap_lt _ (by omega), ← Int.natCast_add, wrap_lt _ b2] at h2
  subst h2
  have hlt : u * n / 18446744073709551616 < 18446744073709551616 := by
    rw [Nat.div_lt_iff_lt_mul (by decide)]
    exact Nat.mul_lt_mul'' hu hn
  rw [div32 u, div32 n, ← Int.natCast_mul, wrap_lt _ (by omega), div32, ← Int.natCast_add, wrap_lt _ (by omega), div32, ← Int.natCast_add, b3, wrap_lt _ hlt]

/-- the upper half of the product -/
def hiI (u n : Int) : Int := ((u.toNat * n.toNat / PureDraw.M : Nat) : Int)
theorem hiI_in {u n : Int} (hu : InU u) (hn : InU n) : InU (hiI u n) := by
  obtain ⟨a, rfl, ha⟩ := hu.nat
  obtain ⟨b, rfl, hb⟩ := hn.nat
  have := PureDraw.high_le a b ha
  unfold hiI InU
  rw [Int.toNat_natCast, Int.toNat_natCast]
  generalize a * b / PureDraw.M = q at *
  omega

set_option maxHeartbeats 400000 in
theorem mul64_any (u n : Int) (hu : InU u) (hn : InU n) (w : World) :
    Calls Tryd.prog 26 #[.int .u64 u, .int .u64 n] w fun e w' => e = .returned (.tuple #[.int .u64 (hiI u n), .int .u64 (IntKind.u64.wrap (u * n))]) ∧ w = w' := by
  obtain ⟨a, rfl, ha⟩ := hu.nat
  obtain ⟨b, rfl, hb⟩ := hn.nat
  have H := Lib.hid (mul_form a b ha hb _ _ _ rfl rfl rfl)
  go_enter Tryd.func26, Tryd.ntmps26
  go_wp2
  go_ret2
  exact ⟨by unfold hiI; rw [Int.toNat_natCast, Int.toNat_natCast]; unfold PureDraw.M; rw [← H.out]; rfl, rfl⟩

set_option maxHeartbeats 400000 in
theorem product_any (u n : Int) (hu : InU u) (hn : InU n) (w : World) :
    Calls Tryd.prog 25 #[.int .u64 u, .int .u64 n] w fun e w' => e = .returned (.agg #[.int .u64 (hiI u n), .int .u64 (IntKind.u64.wrap (u * n))]) ∧ Below w.heap.size w w' := by
  go_enter Tryd.func25, Tryd.ntmps25
  go_wp2_with (go_at_call 26; refine (mul64_any u n hu hn _).mono ?_; rintro e w1 ⟨rfl, rfl⟩)
  exact bodyPost_ret (v := .agg #[.int .u64 (hiI u n), .int .u64 (IntKind.u64.wrap (u * n))]) (by simp [results, Tryd.results25, go_sem]) rfl ⟨rfl, by go_grown⟩

set_option maxHeartbeats 400000 in
/-- draw.Below -/
theorem below_any (u n : Int) (hu : InU u) (hn : InU n) (w : World) :
    Calls Tryd.prog 18 #[.int .u64 u, .int .u64 n] w fun e w' => e = .returned (.int .u64 (hiI u n)) ∧ Below w.heap.size w w' := by
  have i0 : ∀ (x y : Int) (w : World), (Instr.index 61 (.agg #[.int .u64 x, .int .u64 y]) (.int .i64 0)).run Tryd.prog w = .ok (.int .u64 x) w := fun _ _ _ => by kernel_rfl
  go_enter Tryd.func18, Tryd.ntmps18
  go_wp2_with (go_at_call 25; refine (product_any u n hu hn _).mono ?_; rintro e w1 ⟨rfl, hb⟩)
  go_returns
  exact ⟨rfl, hb⟩

theorem inU_nat (n : Nat) (h : n < 18446744073709551616) : InU (n : Int) := ⟨by omega, by omega⟩
end Go.Proofs.YtlcgkdhcdldlfaaDoor
