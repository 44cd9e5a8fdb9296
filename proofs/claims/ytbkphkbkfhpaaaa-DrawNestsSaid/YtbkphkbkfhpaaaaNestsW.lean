import Derived.Test.YtbkphkbkfhpaaaaWalks
import Derived.Deep.RegionHeld3
namespace Go.Proofs.Ytbkphkbkfhpaaaa
open Go.RowKit

theorem hi_nat (a b : Nat) : hiI (a : Int) (b : Int) = ((a * b / PureDraw.M : Nat) : Int) := by unfold hiI; rw [Int.toNat_natCast, Int.toNat_natCast]
theorem hi_below {u n : Int} (hu : InU u) (hn : InU n) (h : n ≠ 0) : hiI u n < n := by
  obtain ⟨a, rfl, ha⟩ := hu.nat
  obtain ⟨b, rfl, hb⟩ := hn.nat
  have := PureDraw.high_lt a b ha (by omega)
  rw [hi_nat]
  omega
theorem hi_zero (u : Int) : hiI u 0 = 0 := by simp [hiI]
theorem zero_hi (u : Int) : hiI 0 u = 0 := by simp [hiI]
/-- where the product of the factors fits: its Below over one factor is Below of the other -/
theorem hi_nest {u n m : Int} (hu : InU u) (hn : InU n) (hm : InU m) (h0 : m ≠ 0) (h : hiI n m = 0) : hiI u (IntKind.u64.wrap (n * m)) / m = hiI u n := by
  obtain ⟨a, rfl, ha⟩ := hu.nat
  obtain ⟨b, rfl, hb⟩ := hn.nat
  obtain ⟨c, rfl, hc⟩ := hm.nat
  rw [hi_nat] at h
  have h1 : b * c / PureDraw.M = 0 := by omega
  have h2 : b * c < PureDraw.M := by
    rcases Nat.lt_or_ge (b * c) PureDraw.M with h3 | h3
    · exact h3
    · have := Nat.div_pos h3 (by decide)
      omega
  rw [← Int.natCast_mul, wrap_lt _ h2, hi_nat, hi_nat, ← PureDraw.high_nest a b c (by omega)]
  omega

set_option maxHeartbeats 1000000 in
theorem nests_any (u n m : Int) (hu : InU u) (hn : InU n) (hm : InU m) (w : World) :
    Calls Try.prog 5 #[.int .u64 u, .int .u64 n, .int .u64 m] w fun e w' => e = .returned (.bool true) ∧ Below w.heap.size w w' := by
  have hm0 := hm.1
  have start : Below w.heap.size w w := Below.refl _ _
  by_cases h0 : m = 0
  · subst h0
    by_cases h1 : n = 0
    · subst h1
      have z := Lib.hid (hi_zero u)
      go_enter Try.func5, Try.ntmps5
      go_wp2_with fail
      refine (below_any _ _ ⟨by decide, by decide⟩ ⟨by decide, by decide⟩ _).mono ?_
      rintro e w8 ⟨he, hb⟩
      rw [known5] at he
      subst he
      go_wp2_with fail
      refine (below_any _ _ ⟨by decide, by decide⟩ ⟨by decide, by decide⟩ _).mono ?_
      rintro e w9 ⟨he, hb2⟩
      rw [known6] at he
      subst he
      replace hb := bthen hb hb2
      clear hb2
      go_wp2_with fail
      refine (below_any _ _ hu hn _).mono ?_
      rintro e w9 ⟨he, hb2⟩
      rw [z.out] at he
      subst he
      replace hb := bthen hb hb2
      clear hb2
      go_wp2_with fail
      refine (below_any _ _ hu hn _).mono ?_
      rintro e w9 ⟨he, hb2⟩
      rw [z.out] at he
      subst he
      replace hb := bthen hb hb2
      clear hb2
      go_wp2_with fail
      go_returns
      exact ⟨rfl, hb⟩
    · have hlt := hi_below hu hn h1
      have hn0 : (n == 0) = false := by simpa using h1
      go_enter Try.func5, Try.ntmps5
      go_wp2_with fail
      refine (below_any _ _ ⟨by decide, by decide⟩ ⟨by decide, by decide⟩ _).mono ?_
      rintro e w8 ⟨he, hb⟩
      rw [known5] at he
      subst he
      go_wp2_with fail
      refine (below_any _ _ ⟨by decide, by decide⟩ ⟨by decide, by decide⟩ _).mono ?_
      rintro e w9 ⟨he, hb2⟩
      rw [known6] at he
      subst he
      replace hb := bthen hb hb2
      clear hb2
      go_wp2_with fail
      refine (below_any _ _ hu hn _).mono ?_
      rintro e w9 ⟨rfl, hb2⟩
      replace hb := bthen hb hb2
      clear hb2
      go_wp2_with fail
      go_returns
      exact ⟨rfl, hb⟩
  · have hmz : (m == 0) = false := by simpa using h0
    by_cases h1 : hiI n m = 0
    · have z := Lib.hid h1
      have e := Lib.hid (hi_nest hu hn hm h0 h1)
      have i1 := hiI_in hu (wrap_in (n * m))
      have i2 := hiI_in hu hn
      clear h1
      go_enter Try.func5, Try.ntmps5
      go_wp2_with fail
      refine (below_any _ _ ⟨by decide, by decide⟩ ⟨by decide, by decide⟩ _).mono ?_
      rintro e w8 ⟨he, hb⟩
      rw [known5] at he
      subst he
      go_wp2_with fail
      refine (below_any _ _ ⟨by decide, by decide⟩ ⟨by decide, by decide⟩ _).mono ?_
      rintro e w9 ⟨he, hb2⟩
      rw [known6] at he
      subst he
      replace hb := bthen hb hb2
      clear hb2
      go_wp2_with fail
      refine (refprod_any _ _ hn hm _).mono ?_
      rintro e w9 ⟨he, rfl⟩
      rw [z.out] at he
      subst he
      obtain ⟨g0, g1⟩ := i1
      obtain ⟨g2, g3⟩ := i2
      obtain ⟨g4, g5⟩ := id hm
      have g6 : 1 ≤ m := by omega
      go_wp2_with fail
      go_region_held3 (fun w' => Below w.heap.size w w') (first | exact ‹_› | exact Below.drew ‹_›)
        (first | (go_at_call 6; refine (below_any _ _ hu (by first | exact hn | exact wrap_in _) _).mono ?_; rintro e w' ⟨rfl, y⟩; have y' := bthen (by first | assumption | exact Below.drew hb) y))
      all_goals go_wp2
      all_goals
        go_returns
        have e2 : IntKind.u64.wrap ((hiI u (IntKind.u64.wrap (n * m))).tdiv m) = hiI u n := by
          rw [Int.tdiv_eq_ediv_of_nonneg g0, e.out, IntKind.wrap_u64]
          omega
        exact ⟨by simp [e2], by assumption⟩
    · have hz : (hiI n m == 0) = false := by simpa using h1
      have hn1 : n ≠ 0 := by
        rintro rfl
        exact h1 (zero_hi m)
      have hlt := hi_below hu hn hn1
      go_enter Try.func5, Try.ntmps5
      go_wp2_with fail
      refine (below_any _ _ ⟨by decide, by decide⟩ ⟨by decide, by decide⟩ _).mono ?_
      rintro e w8 ⟨he, hb⟩
      rw [known5] at he
      subst he
      go_wp2_with fail
      refine (below_any _ _ ⟨by decide, by decide⟩ ⟨by decide, by decide⟩ _).mono ?_
      rintro e w9 ⟨he, hb2⟩
      rw [known6] at he
      subst he
      replace hb := bthen hb hb2
      clear hb2
      go_wp2_with fail
      refine (refprod_any _ _ hn hm _).mono ?_
      rintro e w9 ⟨rfl, rfl⟩
      go_wp2_with fail
      refine (below_any _ _ hu hn _).mono ?_
      rintro e w9 ⟨rfl, hb2⟩
      replace hb := bthen hb hb2
      clear hb2
      go_wp2_with fail
      go_returns
      exact ⟨rfl, hb⟩
end Go.Proofs.Ytbkphkbkfhpaaaa
