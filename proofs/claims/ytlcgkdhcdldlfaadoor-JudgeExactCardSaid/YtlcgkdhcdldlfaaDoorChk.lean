import Derived.Test.YtlcgkdhcdldlfaaDoorRChk
namespace Go.Proofs.YtlcgkdhcdldlfaaDoor
open Go.RowKit Go.Maps

theorem law68 : Keyed Tryd.prog 68 := Keyed.of_law (deep_law_laid laidOut (m := 8) (by decide) (of_decide_eq_true (by kernel_rfl)) (by kernel_rfl) (by kernel_rfl))
theorem key68 (a b : Int) (ha : (Lit.int .i64 a).wf = true) (hb : (Lit.int .i64 b).wf = true) : ∃ l, keyOf Tryd.prog 68 (.agg #[.int .i64 a, .int .i64 b]) = some l := by
  have h1 : Tryd.prog.keyType 68 = true := by kernel_rfl
  have h2 : Value.formed Tryd.prog 68 (.agg #[.int .i64 a, .int .i64 b]) = true := by kernel_rfl
  have hc : Tryd.prog.cellsOf 3 = 1 := by kernel_rfl
  have hc2 : Tryd.prog.cellsOf 68 = 2 := by kernel_rfl
  have e2 : ∀ d : Nat, Tryd.prog.keyLits (d + 1 + 1) 68 [.int .i64 a, .int .i64 b] = some [.int .i64 a, .int .i64 b] := fun d => by
    simp [Program.keyLits, Tryd.underlying68, Tryd.underlying3, hc, hc2, ha, hb]
  obtain ⟨d, hd⟩ : ∃ d, Tryd.prog.types.size + 1 = d + 1 + 1 := ⟨Tryd.prog.types.size - 1, by
    have : 0 < Tryd.prog.types.size := of_decide_eq_true (by kernel_rfl)
    omega⟩
  refine ⟨.string (keyBytes [.int .i64 a, .int .i64 b]), ?_⟩
  unfold keyOf
  rw [Tryd.underlying68]
  have e3 := e2 d
  rw [← hd] at e3
  have hcl : (Value.agg #[Value.int .i64 a, Value.int .i64 b]).cells.toList = [Value.int .i64 a, Value.int .i64 b] := rfl
  simp only [h1, h2, hcl, Bool.true_and, if_true, e3]
  rfl
/-- the branches of the nodes ahead of k, the root left out -/
def BK (t : List Nd) (k : Nat) : List Value := ((List.range k).drop 1).map fun i => .agg #[.int .i64 (par t i), .int .i64 (tk t i)]
theorem BK_one (t : List Nd) : BK t 1 = [] := rfl
theorem BK_zero (t : List Nd) : BK t 0 = [] := rfl
theorem BK_succ (t : List Nd) (k : Nat) (h : 1 ≤ k) : BK t (k + 1) = BK t k ++ [.agg #[.int .i64 (par t k), .int .i64 (tk t k)]] := by
  unfold BK
  rw [List.range_succ, List.drop_append_of_le_length (by simpa using h)]
  simp
theorem BK_mem (t : List Nd) (k : Nat) (a b : Int) : (Value.agg #[.int .i64 a, .int .i64 b] ∈ BK t k) ↔ ∃ j, j < k ∧ 1 ≤ j ∧ par t j = a ∧ tk t j = b := by
  unfold BK
  rw [List.mem_map]
  constructor
  · rintro ⟨j, hj, he⟩
    rw [List.mem_iff_getElem] at hj
    obtain ⟨i, hi, rfl⟩ := hj
    simp at hi he ⊢
    exact ⟨1 + i, by omega, by omega, he.1, he.2⟩
  · rintro ⟨j, hj, h1, h2, h3⟩
    refine ⟨j, ?_, by rw [h2, h3]⟩
    rw [List.mem_iff_getElem]
    exact ⟨j - 1, by simp; omega, by simp; omega⟩

set_option maxRecDepth 100000 in
set_option maxHeartbeats 2000000 in
/-- tree.Check -/
theorem check_any (A : Option Addr) (n c : Nat) (t : List Nd) (w : World) (hl : t.length = n) (hm : n ≤ 140737488355328) (hx : Rd w A (NC t)) (hwf : WfN t) :
    Calls Tryd.prog 21 #[.slice A n c] w fun e w' => e = .returned (.int .i64 (errT t)) ∧ Below w.heap.size w w' := by
  by_cases z1 : n < 1
  · have HR := Lib.hid (errT_bad (t := t) (fun h => by have := h.1; omega))
    go_enter Tryd.func21, Tryd.ntmps21
    go_wp2
    go_returns
    exact ⟨by rw [HR.out]; rfl, Below.refl _ _⟩
  · by_cases z2 : 32 < n
    · have HR := Lib.hid (errT_bad (t := t) (fun h => by have := h.2.1; omega))
      go_enter Tryd.func21, Tryd.ntmps21
      go_wp2
      go_returns
      exact ⟨by rw [HR.out]; rfl, Below.refl _ _⟩
    · have HX := Lib.hid hx
      obtain ⟨b, o, rfl, y0, y1, y2⟩ := hx.nd 0 (by omega)
      clear hx
      have HP := Lib.hid (rfl : par t 0 = par t 0)
      have HD := Lib.hid (rfl : dep t 0 = dep t 0)
      generalize hp : par t 0 = p at y0
      generalize tk t 0 = x at y1
      generalize hd : dep t 0 = d at y2
      rw [show o + 0 * 3 = o by omega] at y0 y1 y2
      clear HP HD
      by_cases z3 : p = -1
      · by_cases z4 : d = 0
        · subst z3 z4
          have hmm := @run_makeMap Tryd.prog
          go_enter Tryd.func21, Tryd.ntmps21
          go_wp2
          clear hmm y0 y1 y2
          have hM : (w.alloc (.map #[] 0)).ownsMap Tryd.prog 68 (plainElem Tryd.prog 3) w.heap.size 0 (.map [] : DataW Unit) := World.ownsMap_made (H := Unit) w Tryd.prog 68 (plainElem Tryd.prog 3)
          have hb0 : Below w.heap.size w (w.alloc (.map #[] 0)) := by go_grown
          generalize w.alloc (.map #[] 0) = w1 at *
          go_loopw [4, 5, 6, 7, 8, 34] (fun _ _ _ _ _ i wr => ∃ (k : Nat) (D : DataW Unit), k ≤ n ∧ i = .int .i64 (k : Int) ∧ (∀ j, j < k → 1 ≤ j → good t j) ∧ wr.ownsMap Tryd.prog 68 (plainElem Tryd.prog 3) w.heap.size (k - 1) D ∧ KeysAre 68 D (BK t k) ∧ Below w.heap.size w wr) (fun _ _ _ _ _ i _ => n - (intOf i).toNat)
          case atStart => exact ⟨0, .map [], by omega, rfl, by omega, hM, KeysAre.nil 68, hb0⟩
          case round =>
            clear hM hb0
            obtain ⟨k, D0, hk, rfl, hg, hM, hD, hb⟩ := hrel
            by_cases hlt : k < n
            · by_cases h1k : 1 ≤ k
              · have hkz : ((k : Int) == 0) = false := by simpa using (show (k : Int) ≠ 0 by omega)
                obtain ⟨u0, u1, u2⟩ := (HX.out.below hb).ndAt k (by omega)
                have ea := addr_add b o (k * 3)
                have ea1 := addr_add b (o + k * 3) 1
                have ea2 := addr_add b (o + k * 3) 2
                have ka : (⟨b, o, none⟩ : Addr).add ((k - 1) * 3) = ⟨b, o + (k - 1) * 3, none⟩ := addr_add b o ((k - 1) * 3)
                have ka2 := addr_add b (o + (k - 1) * 3) 2
                have hdk := dep_le t hd k hg
                have HG := Lib.hid hg
                have NG := Lib.hid (good_not (t := t) h1k (by omega : k < t.length))
                have hw1 : IntKind.i64.wrap ((k : Int) - 1) = (k : Int) - 1 := IntWalk.i64_in _ (by omega)
                have ht1 : ((k : Int) - 1).toNat = k - 1 := by omega
                have hPk : (par t k).toNat < n ∨ ¬ (0 ≤ par t k ∧ par t k < (k : Int)) := by omega
                have hb1 : Below w.heap.size w (wr.alloc (.cells #[.int .i64 (par t k), .int .i64 (tk t k), .int .i64 (dep t k)] 42)) := hb.alloc hb.size _
                have fin : ∀ (h : ¬ good t k) (nq : Nat), (Ending.returned (.int .i64 140) = .returned (.int .i64 (errT t))) ∧ Below w.heap.size w ((wr.alloc (.cells #[.int .i64 (par t k), .int .i64 (tk t k), .int .i64 (dep t k)] 42)).drewN nq) := fun h nq => ⟨by rw [NG.out h], bdraw hb1 _⟩
                have FIN := Lib.hid fin
                clear fin NG hg
                by_cases c1 : par t k < 0
                · have H0 := Lib.hid (show ¬ good t k from fun h => absurd h.1 (by omega))
                  generalize par t k = P at *
                  generalize tk t k = X at *
                  generalize dep t k = D at *
                  have d1 : decide (P < 0) = true := decide_eq_true c1
                  clear hdk
                  go_wp2
                  go_quiet (fail)
                  all_goals go_wp2
                  go_returns
                  exact FIN.out H0.out _
                · by_cases c2 : (k : Int) ≤ par t k
                  · have H0 := Lib.hid (show ¬ good t k from fun h => absurd h.2.1 (by omega))
                    generalize par t k = P at *
                    generalize tk t k = X at *
                    generalize dep t k = D at *
                    have d1 : decide (P < 0) = false := decide_eq_false c1
                    have d2 : decide ((k : Int) ≤ P) = true := decide_eq_true c2
                    clear hdk
                    go_wp2
                    go_quiet (fail)
                    all_goals go_wp2
                    go_returns
                    exact FIN.out H0.out _
                  · by_cases c3 : tk t k < 1
                    · have H0 := Lib.hid (show ¬ good t k from fun h => absurd h.2.2.1 (by omega))
                      generalize par t k = P at *
                      generalize tk t k = X at *
                      generalize dep t k = D at *
                      have d1 : decide (P < 0) = false := decide_eq_false c1
                      have d2 : decide ((k : Int) ≤ P) = false := decide_eq_false c2
                      have d3 : decide (X < 1) = true := decide_eq_true c3
                      clear hdk
                      go_wp2
                      go_quiet (fail)
                      all_goals go_wp2
                      go_returns
                      exact FIN.out H0.out _
                    · obtain ⟨q, hq⟩ : ∃ q : Nat, par t k = (q : Int) := ⟨(par t k).toNat, by omega⟩
                      obtain ⟨r0, r1, r2⟩ := (HX.out.below hb1).ndAt q (by omega)
                      obtain ⟨v0, v1, v2⟩ := (HX.out.below hb1).ndAt (k - 1) (by omega)
                      have fa : (⟨b, o, none⟩ : Addr).add (q * 3) = ⟨b, o + q * 3, none⟩ := addr_add b o (q * 3)
                      have fa2 := addr_add b (o + q * 3) 2
                      have hdq := hdk q (by omega)
                      have hd1 := hdk (k - 1) (by omega)
                      have GD := Lib.hid (rfl : good t k = good t k)
                      have hgd : good t k ↔ (dep t k = dep t q + 1 ∧ dep t (k - 1) ≤ dep t k ∧ ∀ j, j < k → 1 ≤ j → ¬ (par t j = (q : Int) ∧ tk t j = tk t k)) := by
                        unfold good
                        rw [hq, Int.toNat_natCast]
                        constructor
                        · exact fun h => ⟨h.2.2.2.1, h.2.2.2.2.1, h.2.2.2.2.2⟩
                        · exact fun h => ⟨by omega, by omega, by omega, h.1, h.2.1, h.2.2⟩
                      rw [hq] at u0 c1 c2 FIN hb1 r0 r1 r2 v0 v1 v2
                      have d1 : decide ((q : Int) < 0) = false := decide_eq_false c1
                      have d2 : decide ((k : Int) ≤ (q : Int)) = false := decide_eq_false c2
                      have d3 : decide (tk t k < 1) = false := decide_eq_false c3
                      have d2' : decide (k ≤ q) = false := decide_eq_false (by omega)
                      have hw2 : IntKind.i64.wrap (dep t q + 1) = dep t q + 1 := IntWalk.i64_in _ (by omega)
                      have hql : q < n := by omega
                      have hqi : (q : Int) < (n : Int) := by omega
                      have hki : (k : Int) - 1 < (n : Int) := by omega
                      have hk0 : 0 ≤ (k : Int) - 1 := by omega
                      by_cases c4 : dep t k = dep t q + 1
                      · by_cases c5 : dep t k < dep t (k - 1)
                        · have H0 := Lib.hid (show ¬ good t k from fun h => absurd (hgd.1 h).2.1 (by omega))
                          generalize tk t k = X at *
                          generalize dep t q = E at *
                          generalize dep t k = D at *
                          generalize dep t (k - 1) = G at *
                          subst c4
                          have d5 : decide (E + 1 < G) = true := decide_eq_true c5
                          clear hdk hgd GD
                          go_wp2
                          go_quiet (fail)
                          all_goals go_wp2
                          go_returns
                          exact FIN.out H0.out _
                        · generalize hX : tk t k = X at *
                          generalize dep t q = E at *
                          generalize dep t k = D at *
                          generalize dep t (k - 1) = G at *
                          subst c4
                          have d5 : decide (E + 1 < G) = false := decide_eq_false c5
                          have GOOD := Lib.hid hgd
                          have HQ := Lib.hid hq
                          obtain ⟨lk, hkey⟩ := key68 (q : Int) X (by have := (hwf k (by omega)).1; rwa [hq] at this) (by have := (hwf k (by omega)).2.1; rwa [hX] at this)
                          have hmem := hD.2 _ _ hkey
                          rw [BK_mem] at hmem
                          have hM1 := hM.alloc (.cells #[.int .i64 (q : Int), .int .i64 X, .int .i64 (E + 1)] 42)
                          have hgood : (¬ ∃ j, j < k ∧ 1 ≤ j ∧ par t j = (q : Int) ∧ tk t j = X) → good t k := fun h => hgd.2 ⟨rfl, by omega, fun j h1 h2 h3 => h ⟨j, h1, h2, h3⟩⟩
                          have HGD := Lib.hid hgood
                          have hbs := hb.size
                          clear hdk hgd hq hgood
                          by_cases hin : ∃ j, j < k ∧ 1 ≤ j ∧ par t j = (q : Int) ∧ tk t j = X
                          · have hh := hmem.2 hin
                            have H0 := Lib.hid (show ¬ good t k from fun h => by
                              obtain ⟨j, h1, h2, h3⟩ := hin
                              exact (GOOD.out.1 h).2.2 j h1 h2 h3)
                            have HK := Lib.hid hkey
                            clear hmem hin hkey
                            go_wp2
                            go_quiet (fail)
                            have hM2 : ((wr.alloc (.cells #[.int .i64 (q : Int), .int .i64 X, .int .i64 (E + 1)] 42)).drewN nq).ownsMap Tryd.prog 68 (plainElem Tryd.prog 3) w.heap.size (k - 1) D0 := hM1
                            have hB : Blk ((wr.alloc (.cells #[.int .i64 (q : Int), .int .i64 X, .int .i64 (E + 1)] 42)).drewN nq) wr.heap.size #[.int .i64 (q : Int), .int .i64 X, .int .i64 (E + 1)] 42 := Blk.new wr _ 42
                            have hb2 := bdraw hb1 nq
                            have FN := Lib.hid (fun h => (FIN.out h 0).1)
                            clear u0 u1 u2 v0 v1 v2 r0 r1 r2 d1 d2 d3 d2' d5 hb1 hb hM hM1 FIN
                            generalize wr.heap.size = N at *
                            generalize ((wr.alloc (.cells #[.int .i64 (q : Int), .int .i64 X, .int .i64 (E + 1)] 42)).drewN nq) = w2 at *
                            have hM3 := hM2.alloc (.cells #[.int .i64 (q : Int), .int .i64 X] 68)
                            have x0 : w2.cell? ⟨N, 0, none⟩ = some (.int .i64 (q : Int)) := hB.cell _
                            have x1 : w2.cell? ⟨N, 1, none⟩ = some (.int .i64 X) := hB.cell _
                            have hb3 := hb2.alloc hb2.size (.cells #[.int .i64 (q : Int), .int .i64 X] 68)
                            go_wp2_with (at_lookup; refine wpList_lookup_own_ok_int _ rfl _ _ 66 rfl 68 3 .i64 law68 Tryd.underlying66 Tryd.underlying3 (zero3 _) w.heap.size (k - 1) D0 rfl hM3 _ _ rfl HK.out ?_; intro cc hat hwc)
                            go_returns
                            exact ⟨FN.out H0.out, hb3⟩
                          · have hh : Maps.has D0 lk = false := by
                              cases hq : Maps.has D0 lk with
                              | false => rfl
                              | true => exact absurd (hmem.1 hq) hin
                            have HGK := Lib.hid (HGD.out hin)
                            have HK := Lib.hid hkey
                            clear hmem hin hkey
                            go_wp2
                            go_quiet (fail)
                            have hM2 : ((wr.alloc (.cells #[.int .i64 (q : Int), .int .i64 X, .int .i64 (E + 1)] 42)).drewN nq).ownsMap Tryd.prog 68 (plainElem Tryd.prog 3) w.heap.size (k - 1) D0 := hM1
                            have hB : Blk ((wr.alloc (.cells #[.int .i64 (q : Int), .int .i64 X, .int .i64 (E + 1)] 42)).drewN nq) wr.heap.size #[.int .i64 (q : Int), .int .i64 X, .int .i64 (E + 1)] 42 := Blk.new wr _ 42
                            have hb2 := bdraw hb1 nq
                            have FN := Lib.hid (fun h => (FIN.out h 0).1)
                            clear u0 u1 u2 v0 v1 v2 r0 r1 r2 d1 d2 d3 d2' d5 hb1 hb hM hM1 FIN
                            generalize wr.heap.size = N at *
                            generalize ((wr.alloc (.cells #[.int .i64 (q : Int), .int .i64 X, .int .i64 (E + 1)] 42)).drewN nq) = w2 at *
                            have hM3 := hM2.alloc (.cells #[.int .i64 (q : Int), .int .i64 X] 68)
                            have x0 : w2.cell? ⟨N, 0, none⟩ = some (.int .i64 (q : Int)) := hB.cell _
                            have x1 : w2.cell? ⟨N, 1, none⟩ = some (.int .i64 X) := hB.cell _
                            have hb3 := hb2.alloc hb2.size (.cells #[.int .i64 (q : Int), .int .i64 X] 68)
                            go_wp2_with (first
                              | (at_lookup; refine wpList_lookup_own_ok_int _ rfl _ _ 66 rfl 68 3 .i64 law68 Tryd.underlying66 Tryd.underlying3 (zero3 _) w.heap.size (k - 1) D0 rfl hM3 _ _ rfl HK.out ?_; intro cc hat hwc)
                              | (at_mapUpdate; refine wpList_mapUpdate_own _ rfl _ _ _ 66 rfl 68 3 law68 Tryd.underlying66 _ w.heap.size (k - 1) _ rfl hM3 (by unfold maxLen; omega) _ _ _ rfl rfl HK.out _ [] (plainElem_int Tryd.underlying3 (WalkArith.wf_i64 (by omega))) ?_; intro w4 pm2 hg2; have qb : Below w.heap.size w w4 := hb3.grown hg2 hb3.size (fun j hj => by cases hj; omega)))
                            go_roundw
                            case rel =>
                              refine ⟨k + 1, D0.put lk (DataW.lit (.int .i64 k)), by omega, by go_num, fun j hj h1 => ?_, ?_, ?_, qb⟩
                              · rcases Nat.lt_or_ge j k with h2 | h2
                                · exact HG.out j h2 h1
                                · obtain rfl : j = k := by omega
                                  exact HGK.out
                              · rw [show k + 1 - 1 = k - 1 + 1 by omega]
                                exact pm2
                              · rw [BK_succ t k h1k, HQ.out, hX]
                                exact hD.put law68 HK.out _
                            case measure => simp [intOf]; omega
                      · have H0 := Lib.hid (show ¬ good t k from fun h => absurd (hgd.1 h).1 c4)
                        generalize tk t k = X at *
                        generalize dep t q = E at *
                        generalize dep t k = D at *
                        have d4 : (D != E + 1) = true := by simpa using c4
                        clear hdk hgd GD c4
                        go_wp2
                        go_quiet (fail)
                        all_goals go_wp2
                        go_returns
                        exact FIN.out H0.out _
              · obtain rfl : k = 0 := by omega
                obtain ⟨u0, u1, u2⟩ := (HX.out.below hb).ndAt 0 (by omega)
                rw [show o + 0 * 3 = o by omega] at u0 u1 u2
                have HG := Lib.hid hg
                clear hg
                go_wp2
                go_roundw
                case rel => exact ⟨1, D0, by omega, by go_num, by omega, hM.alloc _, by rw [BK_one, ← BK_zero t]; exact hD, hb.alloc hb.size _⟩
                case measure => simp [intOf]; omega
            · obtain rfl : n = k := by omega
              have HR := Lib.hid (errT_ok (t := t) ⟨by omega, by omega, hp, hd, fun i hi h1 => hg i (by omega) h1⟩)
              clear hg
              go_wp2
              go_returns
              exact ⟨by rw [HR.out]; rfl, hb⟩
        · have hne : (d != 0) = true := by simpa using z4
          have HR := Lib.hid (errT_bad (t := t) (fun h => z4 (hd ▸ h.2.2.2.1)))
          subst z3
          clear z4 hp hd
          go_enter Tryd.func21, Tryd.ntmps21
          go_wp2
          go_returns
          exact ⟨by rw [HR.out]; rfl, Below.refl _ _⟩
      · have hne : (p != -1) = true := by simpa using z3
        have HR := Lib.hid (errT_bad (t := t) (fun h => z3 (hp ▸ h.2.2.1)))
        clear z3 hp hd
        go_enter Tryd.func21, Tryd.ntmps21
        go_wp2
        go_returns
        exact ⟨by rw [HR.out]; rfl, Below.refl _ _⟩
end Go.Proofs.YtlcgkdhcdldlfaaDoor
