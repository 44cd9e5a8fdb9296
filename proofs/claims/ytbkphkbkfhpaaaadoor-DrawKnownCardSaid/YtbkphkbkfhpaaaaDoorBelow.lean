import Derived.Test.YtbkphkbkfhpaaaaDoorAt
import Derived.Lib.Mul64
namespace Go.Proofs.YtbkphkbkfhpaaaaDoor
open Go.RowKit

theorem and32 (x : Nat) (hx : x < 18446744073709551616) : bits .and .u64 (x : Int) 4294967295 = ((x % 4294967296 : Nat) : Int) := by
  rw [show (4294967295 : Int) = ((4294967295 : Nat) : Int) from rfl, u64_and_nat x 4294967295 hx (by omega)]
  exact congrArg Nat.cast (Nat.and_two_pow_sub_one_eq_mod x 32)
theorem wrap_lt (n : Nat) (h : n < 18446744073709551616) : IntKind.u64.wrap (n : Int) = (n : Int) := by
  rw [IntKind.wrap_u64]
  omega
theorem div32 (x : Nat) : (x : Int) / 4294967296 = ((x / 4294967296 : Nat) : Int) := by omega
theorem mul_form (u n : Nat) (hu : u < 18446744073709551616) (hn : n < 18446744073709551616) :
    ∀ w0 t w1 : Int, w0 = IntKind.u64.wrap (bits .and .u64 (u : Int) 4294967295 * bits .and .u64 (n : Int) 4294967295) →
      t = IntKind.u64.wrap (IntKind.u64.wrap ((u : Int) / 4294967296 * bits .and .u64 (n : Int) 4294967295) + w0 / 4294967296) →
      w1 = IntKind.u64.wrap (bits .and .u64 t 4294967295 + IntKind.u64.wrap (bits .and .u64 (u : Int) 4294967295 * ((n : Int) / 4294967296))) →
      IntKind.u64.wrap (IntKind.u64.wrap (IntKind.u64.wrap ((u : Int) / 4294967296 * ((n : Int) / 4294967296)) + t / 4294967296) + w1 / 4294967296) = ((u * n / 18446744073709551616 : Nat) : Int) := by
  intro w0 t w1 h0 h1 h2
  obtain ⟨b0, b1, b2, b3⟩ := Lib.mul64_hi u n hu hn
  rw [and32 u hu, and32 n hn, ← Int.natCast_mul, wrap_lt _ b0] at h0
  subst h0
  have le1 := Lib.half_mul_le (a := u / 4294967296) (b := n % 4294967296) (by omega) (by omega)
  have le2 := Lib.half_mul_le (a := u / 4294967296) (b := n / 4294967296) (by omega) (by omega)
  have le3 := Lib.half_mul_le (a := u % 4294967296) (b := n / 4294967296) (by omega) (by omega)
  rw [and32 n hn, div32 u, ← Int.natCast_mul, wrap_lt _ (by omega), div32, ← Int.natCast_add, wrap_lt _ b1] at h1
  subst h1
  rw [and32 _ b1, and32 u hu, div32 n, ← Int.natCast_mul, wrap_lt _ (by omega), ← Int.natCast_add, wrap_lt _ b2] at h2
  subst h2
  have hlt : u * n / 18446744073709551616 < 18446744073709551616 := by
    rw [Nat.div_lt_iff_lt_mul (by decide)]
    exact Nat.mul_lt_mul'' hu hn
  rw [div32 u, div32 n, ← Int.natCast_mul, wrap_lt _ (by omega), div32, ← Int.natCast_add, wrap_lt _ (by omega), div32, ← Int.natCast_add, b3, wrap_lt _ hlt]

/-- the upper half of the product -/
def hiI (u n : Int) : Int := ((u.toNat * n.toNat / PureDraw.M : Nat) : Int)
theorem hiI_in {u n : Int} (hu : InU u) (hn : InU n) : InU (hiI u n) := by
  obtain ⟨a, rfl, ha⟩ := hu.nat
  obtain ⟨b, rfl, hb⟩ := hn.nat
  have := PureDraw.high_le a b ha
  unfold hiI InU
  rw [Int.toNat_natCast, Int.toNat_natCast]
  generalize a * b / PureDraw.M = q at *
  omega

set_option maxHeartbeats 400000 in
theorem mul64_any (u n : Int) (hu : InU u) (hn : InU n) (w : World) :
    Calls Tryd.prog 15 #[.int .u64 u, .int .u64 n] w fun e w' => e = .returned (.tuple #[.int .u64 (hiI u n), .int .u64 (IntKind.u64.wrap (u * n))]) ∧ w = w' := by
  obtain ⟨a, rfl, ha⟩ := hu.nat
  obtain ⟨b, rfl, hb⟩ := hn.nat
  have H := Lib.hid (mul_form a b ha hb _ _ _ rfl rfl rfl)
  go_enter Tryd.func15, Tryd.ntmps15
  go_wp2
  go_ret2
  exact ⟨by unfold hiI; rw [Int.toNat_natCast, Int.toNat_natCast]; unfold PureDraw.M; rw [← H.out]; rfl, rfl⟩

set_option maxHeartbeats 400000 in
theorem product_any (u n : Int) (hu : InU u) (hn : InU n) (w : World) :
    Calls Tryd.prog 14 #[.int .u64 u, .int .u64 n] w fun e w' => e = .returned (.agg #[.int .u64 (hiI u n), .int .u64 (IntKind.u64.wrap (u * n))]) ∧ Below w.heap.size w w' := by
  go_enter Tryd.func14, Tryd.ntmps14
  go_wp2_with (go_at_call 15; refine (mul64_any u n hu hn _).mono ?_; rintro e w1 ⟨rfl, rfl⟩)
  exact bodyPost_ret (v := .agg #[.int .u64 (hiI u n), .int .u64 (IntKind.u64.wrap (u * n))]) (by simp [results, Tryd.results14, go_sem]) rfl ⟨rfl, by go_grown⟩

set_option maxHeartbeats 400000 in
/-- draw.Below -/
theorem below_any (u n : Int) (hu : InU u) (hn : InU n) (w : World) :
    Calls Tryd.prog 13 #[.int .u64 u, .int .u64 n] w fun e w' => e = .returned (.int .u64 (hiI u n)) ∧ Below w.heap.size w w' := by
  have i0 : ∀ (x y : Int) (w : World), (Instr.index 37 (.agg #[.int .u64 x, .int .u64 y]) (.int .i64 0)).run Tryd.prog w = .ok (.int .u64 x) w := fun _ _ _ => by kernel_rfl
  go_enter Tryd.func13, Tryd.ntmps13
  go_wp2_with (go_at_call 14; refine (product_any u n hu hn _).mono ?_; rintro e w1 ⟨rfl, hb⟩)
  go_returns
  exact ⟨rfl, hb⟩

theorem inU_nat (n : Nat) (h : n < 18446744073709551616) : InU (n : Int) := ⟨by omega, by omega⟩
theorem known0 : mixI 0 = 0 := by decide
theorem known1 : mixI 11400714819323198485 = 16294208416658607535 := by decide
theorem known2 : mixI 4354685564936845354 = 7960286522194355700 := by decide
theorem known3 : mixI 15755400384260043839 = 487617019471545679 := by decide
theorem known4 : atI 0 0 0 = mixI (mixI 16294208416658607535) := by decide
theorem known5 : hiI 18446744073709551615 10 = 9 := by decide
theorem known6 : hiI 9223372036854775808 3 = 1 := by decide
theorem known7 : hiI 12345 1 = 0 := by decide

set_option maxHeartbeats 1000000 in
theorem known_any (w : World) (h : Table w) :
    Calls Tryd.prog 7 #[] w fun e w' => e = .returned (.bool true) ∧ Below w.heap.size w w' := by
  go_enter Tryd.func7, Tryd.ntmps7
  go_wp2_with fail
  refine (mix_any _ ⟨by decide, by decide⟩ _ h).mono ?_
  rintro e w1 ⟨he, hb⟩
  rw [known0] at he
  subst he
  have h1 := h.below hb
  clear h
  go_wp2_with fail
  refine (mix_any _ ⟨by decide, by decide⟩ _ h1).mono ?_
  rintro e w2 ⟨he, hb2⟩
  rw [known1] at he
  subst he
  have h2 := h1.below hb2
  replace hb := bthen hb hb2
  clear h1 hb2
  go_wp2_with fail
  refine (mix_any _ ⟨by decide, by decide⟩ _ h2).mono ?_
  rintro e w3 ⟨he, hb2⟩
  rw [known2] at he
  subst he
  have h3 := h2.below hb2
  replace hb := bthen hb hb2
  clear h2 hb2
  go_wp2_with fail
  refine (mix_any _ ⟨by decide, by decide⟩ _ h3).mono ?_
  rintro e w4 ⟨he, hb2⟩
  rw [known3] at he
  subst he
  have h4 := h3.below hb2
  replace hb := bthen hb hb2
  clear h3 hb2
  go_wp2_with fail
  refine (at_any _ _ _ _ h4).mono ?_
  rintro e w5 ⟨he, hb2⟩
  rw [known4] at he
  subst he
  have h5 := h4.below hb2
  replace hb := bthen hb hb2
  clear h4 hb2
  go_wp2_with fail
  refine (mix_any _ ⟨by decide, by decide⟩ _ h5).mono ?_
  rintro e w6 ⟨rfl, hb2⟩
  have h6 := h5.below hb2
  replace hb := bthen hb hb2
  clear h5 hb2
  go_wp2_with fail
  refine (mix_any _ (mixI_in _) _ h6).mono ?_
  rintro e w7 ⟨rfl, hb2⟩
  replace hb := bthen hb hb2
  clear h6 hb2
  go_wp2_with fail
  refine (below_any _ _ ⟨by decide, by decide⟩ ⟨by decide, by decide⟩ _).mono ?_
  rintro e w8 ⟨he, hb2⟩
  rw [known5] at he
  subst he
  replace hb := bthen hb hb2
  clear hb2
  go_wp2_with fail
  refine (below_any _ _ ⟨by decide, by decide⟩ ⟨by decide, by decide⟩ _).mono ?_
  rintro e w9 ⟨he, hb2⟩
  rw [known6] at he
  subst he
  replace hb := bthen hb hb2
  clear hb2
  go_wp2_with fail
  refine (below_any _ _ ⟨by decide, by decide⟩ ⟨by decide, by decide⟩ _).mono ?_
  rintro e w10 ⟨he, hb2⟩
  rw [known7] at he
  subst he
  replace hb := bthen hb hb2
  clear hb2
  go_wp2_with fail
  go_returns
  exact ⟨rfl, hb⟩
end Go.Proofs.YtbkphkbkfhpaaaaDoor
