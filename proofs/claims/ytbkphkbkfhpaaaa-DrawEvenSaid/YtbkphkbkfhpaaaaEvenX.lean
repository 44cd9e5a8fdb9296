import Derived.Test.YtbkphkbkfhpaaaaEvenW
namespace Go.Proofs.Ytbkphkbkfhpaaaa
open Go.RowKit

theorem hi_mono {u n m : Nat} (h : n ≤ m) : hiI (u : Int) (n : Int) ≤ hiI (u : Int) (m : Int) := by
  rw [hi_nat, hi_nat]
  have := PureDraw.high_mono u n m h
  omega

set_option maxHeartbeats 1000000 in
theorem even_zero (K U More : Nat) (hU : U < 18446744073709551616) (w : World) :
    Calls Try.prog 4 #[.agg #[.int .u64 (K : Int), .int .u64 0, .int .u64 (U : Int), .int .u64 (More : Int)]] w fun e w' => e = .returned (.bool true) ∧ Below w.heap.size w w' := by
  have z := Lib.hid (hi_zero (U : Int))
  go_enter Try.func4, Try.ntmps4
  go_wp2_with fail
  refine (below_any _ _ (inU_nat U hU) ⟨by decide, by decide⟩ _).mono ?_
  rintro e w1 ⟨he, hb⟩
  rw [z.out] at he
  subst he
  have hb' : Below w.heap.size w w1 := Below.trans (by go_grown) (hb.mono (by simp))
  go_wp2_with fail
  go_returns
  exact ⟨rfl, hb'⟩

theorem hi_top (n : Nat) (h0 : n ≠ 0) (hn : n < 18446744073709551616) : hiI 18446744073709551615 (n : Int) = (n : Int) - 1 := by
  have := PureDraw.high_top n (by omega) hn
  rw [show (18446744073709551615 : Int) = ((18446744073709551615 : Nat) : Int) from rfl, hi_nat, show (18446744073709551615 : Nat) = PureDraw.M - 1 from rfl, this]
  omega

set_option maxHeartbeats 2000000 in
theorem even_pos (K N U More : Nat) (hN0 : N ≠ 0) (hK : K < 18446744073709551616) (hN : N < 18446744073709551616) (hU : U < 18446744073709551616) (hM : More < 18446744073709551616) (h0 : K % N ≠ 0) (w : World) :
    Calls Try.prog 4 #[.agg #[.int .u64 (K : Int), .int .u64 (N : Int), .int .u64 (U : Int), .int .u64 (More : Int)]] w fun e w' => e = .returned (.bool true) ∧ Below w.heap.size w w' := by
  obtain ⟨k, hk, hkn, hk0⟩ : ∃ k : Nat, (K : Int) % (N : Int) = (k : Int) ∧ k < N ∧ 1 ≤ k := ⟨K % N, by simp, Nat.mod_lt _ (by omega), by omega⟩
  obtain ⟨f, hf, hfl, hf1, hf2, hf3⟩ : ∃ f : Nat, PureDraw.from_ k N = f ∧ f < 18446744073709551616 ∧ 1 ≤ f ∧ hiI (f : Int) (N : Int) = (k : Int) ∧ hiI ((f : Int) - 1) (N : Int) = (k : Int) - 1 := by
    have h1 := PureDraw.from_high k N hkn hN
    obtain ⟨h2, h3⟩ := PureDraw.from_pred k N hkn hN (by omega)
    refine ⟨_, rfl, PureDraw.from_lt k N hkn hN, h2, by rw [hi_nat, h1], ?_⟩
    rw [show ((PureDraw.from_ k N : Nat) : Int) - 1 = ((PureDraw.from_ k N - 1 : Nat) : Int) by omega, hi_nat, h3]
    omega
  have HF := Lib.hid hf
  have E1 := Lib.hid hf2
  have E2 := Lib.hid hf3
  have E3 := Lib.hid (hi_top N hN0 hN)
  have iN := inU_nat N hN
  have iU := inU_nat U hU
  have iM := inU_nat More hM
  have if' : InU ((f : Int) - 1) := ⟨by omega, by omega⟩
  clear hf hf2 hf3 h0
  have mono : N ≤ More ∨ More ≤ N := by omega
  have M1 : N ≤ More → hiI (U : Int) (N : Int) ≤ hiI (U : Int) (More : Int) := hi_mono
  have M2 : More ≤ N → hiI (U : Int) (More : Int) ≤ hiI (U : Int) (N : Int) := hi_mono
  have HM1 := Lib.hid M1
  have HM2 := Lib.hid M2
  clear M1 M2 mono
  have hN1 : 1 ≤ N := by omega
  clear hN0
  go_enter Try.func4, Try.ntmps4
  go_wp2_with fail
  refine (least_any k N hkn hN _).mono ?_
  rintro e w1 ⟨he, hw⟩
  have hb : Below w.heap.size w w1 := by rw [← hw]; go_grown
  clear hw
  rw [HF.out] at he
  subst he
  go_wp2_with fail
  refine (below_any _ _ (inU_nat f hfl) iN _).mono ?_
  rintro e w2 ⟨he, hb2⟩
  rw [E1.out] at he
  subst he
  replace hb := bthen hb hb2
  clear hb2
  go_wp2_with fail
  refine (below_any _ _ if' iN _).mono ?_
  rintro e w3 ⟨he, hb2⟩
  rw [E2.out] at he
  subst he
  replace hb := bthen hb hb2
  clear hb2
  go_wp2_with fail
  refine (below_any _ _ ⟨by decide, by decide⟩ iN _).mono ?_
  rintro e w4 ⟨he, hb2⟩
  rw [E3.out] at he
  subst he
  replace hb := bthen hb hb2
  clear hb2
  by_cases hlt : More < N
  · go_wp2_with fail
    refine (below_any _ _ iU iM _).mono ?_
    rintro e w5 ⟨rfl, hb2⟩
    replace hb := bthen hb hb2
    clear hb2
    go_wp2_with fail
    refine (below_any _ _ iU iN _).mono ?_
    rintro e w6 ⟨rfl, hb2⟩
    replace hb := bthen hb hb2
    clear hb2
    go_wp2_with fail
    go_returns
    exact ⟨by simpa using HM2.out (by omega), hb⟩
  · go_wp2_with fail
    refine (below_any _ _ iU iN _).mono ?_
    rintro e w5 ⟨rfl, hb2⟩
    replace hb := bthen hb hb2
    clear hb2
    go_wp2_with fail
    refine (below_any _ _ iU iM _).mono ?_
    rintro e w6 ⟨rfl, hb2⟩
    replace hb := bthen hb hb2
    clear hb2
    go_wp2_with fail
    go_returns
    exact ⟨by simpa using HM1.out (by omega), hb⟩

set_option maxHeartbeats 2000000 in
theorem even_nil (K N U More : Nat) (hN0 : N ≠ 0) (hK : K < 18446744073709551616) (hN : N < 18446744073709551616) (hU : U < 18446744073709551616) (hM : More < 18446744073709551616) (h0 : K % N = 0) (w : World) :
    Calls Try.prog 4 #[.agg #[.int .u64 (K : Int), .int .u64 (N : Int), .int .u64 (U : Int), .int .u64 (More : Int)]] w fun e w' => e = .returned (.bool true) ∧ Below w.heap.size w w' := by
  have hk : (K : Int) % (N : Int) = 0 := by omega
  have hf := PureDraw.from_zero N (by omega)
  have HF := Lib.hid hf
  have E1 := Lib.hid (zero_hi (N : Int))
  have E3 := Lib.hid (hi_top N hN0 hN)
  have iN := inU_nat N hN
  have iU := inU_nat U hU
  have iM := inU_nat More hM
  clear hf h0
  have M1 : N ≤ More → hiI (U : Int) (N : Int) ≤ hiI (U : Int) (More : Int) := hi_mono
  have M2 : More ≤ N → hiI (U : Int) (More : Int) ≤ hiI (U : Int) (N : Int) := hi_mono
  have HM1 := Lib.hid M1
  have HM2 := Lib.hid M2
  clear M1 M2
  have hN1 : 1 ≤ N := by omega
  clear hN0
  go_enter Try.func4, Try.ntmps4
  go_wp2_with fail
  refine (least_any 0 N (by omega) hN _).mono ?_
  rintro e w1 ⟨he, hw⟩
  have hb : Below w.heap.size w w1 := by rw [← hw]; go_grown
  clear hw
  rw [HF.out] at he
  subst he
  go_wp2_with fail
  refine (below_any _ _ ⟨by decide, by decide⟩ iN _).mono ?_
  rintro e w2 ⟨he, hb2⟩
  rw [E1.out] at he
  subst he
  replace hb := bthen hb hb2
  clear hb2
  go_wp2_with fail
  refine (below_any _ _ ⟨by decide, by decide⟩ iN _).mono ?_
  rintro e w4 ⟨he, hb2⟩
  rw [E3.out] at he
  subst he
  replace hb := bthen hb hb2
  clear hb2
  by_cases hlt : More < N
  · go_wp2_with fail
    refine (below_any _ _ iU iM _).mono ?_
    rintro e w5 ⟨rfl, hb2⟩
    replace hb := bthen hb hb2
    clear hb2
    go_wp2_with fail
    refine (below_any _ _ iU iN _).mono ?_
    rintro e w6 ⟨rfl, hb2⟩
    replace hb := bthen hb hb2
    clear hb2
    go_wp2_with fail
    go_returns
    exact ⟨by simpa using HM2.out (by omega), hb⟩
  · go_wp2_with fail
    refine (below_any _ _ iU iN _).mono ?_
    rintro e w5 ⟨rfl, hb2⟩
    replace hb := bthen hb hb2
    clear hb2
    go_wp2_with fail
    refine (below_any _ _ iU iM _).mono ?_
    rintro e w6 ⟨rfl, hb2⟩
    replace hb := bthen hb hb2
    clear hb2
    go_wp2_with fail
    go_returns
    exact ⟨by simpa using HM1.out (by omega), hb⟩
end Go.Proofs.Ytbkphkbkfhpaaaa
