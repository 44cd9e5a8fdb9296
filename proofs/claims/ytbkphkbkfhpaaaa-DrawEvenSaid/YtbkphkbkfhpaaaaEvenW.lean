import Derived.Test.YtbkphkbkfhpaaaaNestsW
namespace Go.Proofs.Ytbkphkbkfhpaaaa
open Go.RowKit

/-- the bit's weight -/
def pw (j : Nat) : Nat := 2 ^ j
set_option maxHeartbeats 1000000 in
/-- augurlaw02.least -/
theorem least_any (k n : Nat) (hk : k < n) (hn : n < 18446744073709551616) (w : World) :
    Calls Try.prog 8 #[.int .u64 (k : Int), .int .u64 (n : Int)] w fun e w' => e = .returned (.int .u64 ((PureDraw.from_ k n : Nat) : Int)) ∧ w = w' := by
  have hfl := PureDraw.from_lt k n hk hn
  go_enter Try.func8, Try.ntmps8
  go_wp2
  go_loop [5, 6] (fun u b => ∃ j v : Nat, j ≤ 64 ∧ b = .int .i64 ((j : Int) - 1) ∧ u = .int .u64 (v : Int) ∧ v ≤ PureDraw.from_ k n ∧ PureDraw.from_ k n < v + pw j ∧ v + pw j ≤ PureDraw.M) (fun _ b => (intOf b + 1).toNat)
  case atStart => exact ⟨64, 0, by omega, rfl, rfl, by omega, by unfold pw; unfold PureDraw.M at hfl; omega, by decide⟩
  case round =>
    obtain ⟨j, v, hj, rfl, rfl, h1, h2, h3⟩ := hrel
    cases j with
    | zero => 
      have h4 : PureDraw.from_ k n = v := by unfold pw at h2; omega
      have H := Lib.hid h4
      clear h4 h1 h2 h3 hfl
      go_wp2
      go_returns
      exact ⟨ret_u64 (by rw [H.out]), rfl⟩
    | succ j => 
      obtain ⟨q, hq, hq0, hpw⟩ : ∃ q : Nat, (2 : Int) ^ j = (q : Int) ∧ 1 ≤ q ∧ pw (j + 1) = q + q := ⟨2 ^ j, by simp, Nat.one_le_two_pow, by unfold pw; rw [Nat.pow_succ]; omega⟩
      rw [hpw] at h2 h3
      unfold PureDraw.M at h3
      have hx : InU ((v : Int) + (q : Int) - 1) := ⟨by omega, by omega⟩
      have sp := PureDraw.from_spec k n (v + q - 1) (by omega)
      have hh : hiI ((v : Int) + (q : Int) - 1) (n : Int) = (((v + q - 1) * n / PureDraw.M : Nat) : Int) := by
        rw [show (v : Int) + (q : Int) - 1 = ((v + q - 1 : Nat) : Int) by omega, hi_nat]
      have hpj : pw j = q := by unfold pw at *; rw [Nat.pow_succ] at hpw; omega
      by_cases hc : v + q ≤ PureDraw.from_ k n
      · have hlt : hiI ((v : Int) + (q : Int) - 1) (n : Int) < (k : Int) := by
          rw [hh]
          have : ¬ (k ≤ (v + q - 1) * n / PureDraw.M) := fun h => by
            have := sp.2 h
            omega
          omega
        have HH := Lib.hid hh
        have HP := Lib.hid hpj
        have HQ := Lib.hid hpw
        have SP := Lib.hid sp
        clear hh hpj hpw sp
        go_wp2_with (go_at_call 9; refine (refprod_any _ _ hx (inU_nat n hn) _).mono ?_; rintro e w1 ⟨rfl, rfl⟩)
        go_round
        case rel => exact ⟨j, v + q, by omega, by simp, by go_num, by omega, by rw [HP.out]; omega, by rw [HP.out]; unfold PureDraw.M; omega⟩
        case measure => simp [intOf]
      · have hlt : (k : Int) ≤ hiI ((v : Int) + (q : Int) - 1) (n : Int) := by
          rw [hh]
          have := sp.1 (by omega)
          omega
        have HH := Lib.hid hh
        have HP := Lib.hid hpj
        have HQ := Lib.hid hpw
        have SP := Lib.hid sp
        clear hh hpj hpw sp
        go_wp2_with (go_at_call 9; refine (refprod_any _ _ hx (inU_nat n hn) _).mono ?_; rintro e w1 ⟨rfl, rfl⟩)
        go_round
        case rel => exact ⟨j, v, by omega, by simp, rfl, by omega, by rw [HP.out]; omega, by rw [HP.out]; unfold PureDraw.M; omega⟩
        case measure => simp [intOf]
end Go.Proofs.Ytbkphkbkfhpaaaa
