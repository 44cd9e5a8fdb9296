import Derived.Test.YtlcgkdhcdldlfaaNodes
namespace Go.Proofs.Ytlcgkdhcdldlfaa
open Go.RowKit

set_option maxRecDepth 100000 in
set_option maxHeartbeats 2000000 in
/-- augurref14.Check -/
theorem refCheck_any (A : Option Addr) (n c : Nat) (t : List Nd) (w : World) (hl : t.length = n) (hm : n ≤ 140737488355328) (hx : Rd w A (NC t)) :
    Calls Try.prog 33 #[.slice A n c] w fun e w' => e = .returned (.int .i64 (errT t)) ∧ Below w.heap.size w w' := by
  by_cases z1 : n < 1
  · have HR := Lib.hid (errT_bad (t := t) (fun h => by have := h.1; omega))
    go_enter Try.func33, Try.ntmps33
    go_wp2
    go_returns
    exact ⟨by rw [HR.out]; rfl, Below.refl _ _⟩
  · by_cases z2 : 32 < n
    · have HR := Lib.hid (errT_bad (t := t) (fun h => by have := h.2.1; omega))
      go_enter Try.func33, Try.ntmps33
      go_wp2
      go_returns
      exact ⟨by rw [HR.out]; rfl, Below.refl _ _⟩
    · have HX := Lib.hid hx
      obtain ⟨b, o, rfl, y0, y1, y2⟩ := hx.nd 0 (by omega)
      clear hx
      have HP := Lib.hid (rfl : par t 0 = par t 0)
      have HD := Lib.hid (rfl : dep t 0 = dep t 0)
      generalize hp : par t 0 = p at y0
      generalize tk t 0 = x at y1
      generalize hd : dep t 0 = d at y2
      rw [show o + 0 * 3 = o by omega] at y0 y1 y2
      clear HP HD
      by_cases z3 : p = -1
      · by_cases z4 : d = 0
        · subst z3 z4
          go_enter Try.func33, Try.ntmps33
          go_wp2
          clear y0 y1 y2
          go_loopw [3, 4, 5] (fun i pv kv wr => ∃ k : Nat, 1 ≤ k ∧ k ≤ n ∧ i = .int .i64 (k : Int) ∧ (∀ j, j < k → 1 ≤ j → good t j) ∧ Below w.heap.size w wr) (fun i _ _ _ => n - (intOf i).toNat)
          case atStart => exact ⟨1, by omega, by omega, rfl, by omega, Below.refl _ _⟩
          case round =>
            obtain ⟨k, h1k, hk, rfl, hg, hb⟩ := hrel
            by_cases hlt : k < n
            · obtain ⟨u0, u1, u2⟩ := (HX.out.below hb).ndAt k (by omega)
              have ea := addr_add b o (k * 3)
              have ea1 := addr_add b (o + k * 3) 1
              have ea2 := addr_add b (o + k * 3) 2
              have ka : (⟨b, o, none⟩ : Addr).add ((k - 1) * 3) = ⟨b, o + (k - 1) * 3, none⟩ := addr_add b o ((k - 1) * 3)
              have ka2 := addr_add b (o + (k - 1) * 3) 2
              have hdk := dep_le t hd k hg
              have HG := Lib.hid hg
              have NG := Lib.hid (good_not (t := t) h1k (by omega : k < t.length))
              have hw1 : IntKind.i64.wrap ((k : Int) - 1) = (k : Int) - 1 := IntWalk.i64_in _ (by omega)
              have ht1 : ((k : Int) - 1).toNat = k - 1 := by omega
              have hPk : (par t k).toNat < n ∨ ¬ (0 ≤ par t k ∧ par t k < (k : Int)) := by omega
              have hb1 : Below w.heap.size w (wr.alloc (.cells #[.int .i64 (par t k), .int .i64 (tk t k), .int .i64 (dep t k)] 50)) := hb.alloc hb.size _
              have fin : ∀ (h : ¬ good t k) (nq : Nat), (Ending.returned (.int .i64 140) = .returned (.int .i64 (errT t))) ∧ Below w.heap.size w ((wr.alloc (.cells #[.int .i64 (par t k), .int .i64 (tk t k), .int .i64 (dep t k)] 50)).drewN nq) := fun h nq => ⟨by rw [NG.out h], bdraw hb1 _⟩
              have FIN := Lib.hid fin
              clear fin NG hg
              by_cases c1 : par t k < 0
              · have H0 := Lib.hid (show ¬ good t k from fun h => absurd h.1 (by omega))
                generalize par t k = P at *
                generalize tk t k = X at *
                generalize dep t k = D at *
                have d1 : decide (P < 0) = true := decide_eq_true c1
                clear hdk
                go_wp2
                go_quiet (fail)
                all_goals go_wp2
                go_returns
                exact FIN.out H0.out _
              · by_cases c2 : (k : Int) ≤ par t k
                · have H0 := Lib.hid (show ¬ good t k from fun h => absurd h.2.1 (by omega))
                  generalize par t k = P at *
                  generalize tk t k = X at *
                  generalize dep t k = D at *
                  have d1 : decide (P < 0) = false := decide_eq_false c1
                  have d2 : decide ((k : Int) ≤ P) = true := decide_eq_true c2
                  clear hdk
                  go_wp2
                  go_quiet (fail)
                  all_goals go_wp2
                  go_returns
                  exact FIN.out H0.out _
                · by_cases c3 : tk t k < 1
                  · have H0 := Lib.hid (show ¬ good t k from fun h => absurd h.2.2.1 (by omega))
                    generalize par t k = P at *
                    generalize tk t k = X at *
                    generalize dep t k = D at *
                    have d1 : decide (P < 0) = false := decide_eq_false c1
                    have d2 : decide ((k : Int) ≤ P) = false := decide_eq_false c2
                    have d3 : decide (X < 1) = true := decide_eq_true c3
                    clear hdk
                    go_wp2
                    go_quiet (fail)
                    all_goals go_wp2
                    go_returns
                    exact FIN.out H0.out _
                  · obtain ⟨q, hq⟩ : ∃ q : Nat, par t k = (q : Int) := ⟨(par t k).toNat, by omega⟩
                    obtain ⟨r0, r1, r2⟩ := (HX.out.below hb1).ndAt q (by omega)
                    obtain ⟨v0, v1, v2⟩ := (HX.out.below hb1).ndAt (k - 1) (by omega)
                    have fa : (⟨b, o, none⟩ : Addr).add (q * 3) = ⟨b, o + q * 3, none⟩ := addr_add b o (q * 3)
                    have fa2 := addr_add b (o + q * 3) 2
                    have hdq := hdk q (by omega)
                    have hd1 := hdk (k - 1) (by omega)
                    have GD := Lib.hid (rfl : good t k = good t k)
                    have hgd : good t k ↔ (dep t k = dep t q + 1 ∧ dep t (k - 1) ≤ dep t k ∧ ∀ j, j < k → 1 ≤ j → ¬ (par t j = (q : Int) ∧ tk t j = tk t k)) := by
                      unfold good
                      rw [hq, Int.toNat_natCast]
                      constructor
                      · exact fun h => ⟨h.2.2.2.1, h.2.2.2.2.1, h.2.2.2.2.2⟩
                      · exact fun h => ⟨by omega, by omega, by omega, h.1, h.2.1, h.2.2⟩
                    rw [hq] at u0 c1 c2 FIN hb1 r0 r1 r2 v0 v1 v2
                    have d1 : decide ((q : Int) < 0) = false := decide_eq_false c1
                    have d2 : decide ((k : Int) ≤ (q : Int)) = false := decide_eq_false c2
                    have d3 : decide (tk t k < 1) = false := decide_eq_false c3
                    have d2' : decide (k ≤ q) = false := decide_eq_false (by omega)
                    have hw2 : IntKind.i64.wrap (dep t q + 1) = dep t q + 1 := IntWalk.i64_in _ (by omega)
                    have hql : q < n := by omega
                    have hqi : (q : Int) < (n : Int) := by omega
                    have hki : (k : Int) - 1 < (n : Int) := by omega
                    have hk0 : 0 ≤ (k : Int) - 1 := by omega
                    by_cases c4 : dep t k = dep t q + 1
                    · by_cases c5 : dep t k < dep t (k - 1)
                      · have H0 := Lib.hid (show ¬ good t k from fun h => absurd (hgd.1 h).2.1 (by omega))
                        generalize tk t k = X at *
                        generalize dep t q = E at *
                        generalize dep t k = D at *
                        generalize dep t (k - 1) = G at *
                        subst c4
                        have d5 : decide (E + 1 < G) = true := decide_eq_true c5
                        clear hdk hgd GD
                        go_wp2
                        go_quiet (fail)
                        all_goals go_wp2
                        go_returns
                        exact FIN.out H0.out _
                      · generalize hX : tk t k = X at *
                        generalize dep t q = E at *
                        generalize dep t k = D at *
                        generalize dep t (k - 1) = G at *
                        subst c4
                        have d5 : decide (E + 1 < G) = false := decide_eq_false c5
                        have GOOD := Lib.hid hgd
                        have HQ := Lib.hid hq
                        clear hdk hgd hq
                        go_wp2
                        go_quiet (fail)
                        all_goals go_wp2
                        have hB : Blk ((wr.alloc (.cells #[.int .i64 (q : Int), .int .i64 X, .int .i64 (E + 1)] 50)).drewN nq) wr.heap.size #[.int .i64 (q : Int), .int .i64 X, .int .i64 (E + 1)] 50 := Blk.new wr _ 50
                        have hb2 := bdraw hb1 nq
                        clear u0 u1 u2 v0 v1 v2 r0 r1 r2 d1 d2 d3 d2' d5 hb1 hb
                        have FN := Lib.hid (fun h => (FIN.out h 0).1)
                        clear FIN
                        generalize wr.heap.size = N at *
                        generalize ((wr.alloc (.cells #[.int .i64 (q : Int), .int .i64 X, .int .i64 (E + 1)] 50)).drewN nq) = w2 at *
                        clear wr
                        go_loopw [5] (fun j wr => ∃ m : Nat, 1 ≤ m ∧ m ≤ k ∧ j = .int .i64 (m : Int) ∧ (∀ j, j < m → 1 ≤ j → ¬ (par t j = (q : Int) ∧ tk t j = X)) ∧ Blk wr N #[.int .i64 (q : Int), .int .i64 X, .int .i64 (E + 1)] 50 ∧ Below w.heap.size w wr) (fun j _ => k - (intOf j).toNat)
                        case atStart => exact ⟨1, by omega, by omega, rfl, by omega, hB, hb2⟩
                        case round =>
                          clear hB hb2
                          obtain ⟨m, h1m, hmk, rfl, hno, hB, hb⟩ := hrel
                          have NO := Lib.hid hno
                          clear hno
                          by_cases hlm : m < k
                          · obtain ⟨u0, u1, u2⟩ := (HX.out.below hb).ndAt m (by omega)
                            have ma := addr_add b o (m * 3)
                            have ma1 := addr_add b (o + m * 3) 1
                            have x0 : wr.cell? ⟨N, 0, none⟩ = some (.int .i64 (q : Int)) := hB.cell _
                            have x1 : wr.cell? ⟨N, 1, none⟩ = some (.int .i64 X) := hB.cell _
                            have hm3 : (m : Int) < (n : Int) := by omega
                            have nx : ¬ (par t m = (q : Int) ∧ tk t m = X) → ∀ j, j < m + 1 → 1 ≤ j → ¬ (par t j = (q : Int) ∧ tk t j = X) := fun h j hj h1 => by
                              rcases Nat.lt_or_ge j m with h2 | h2
                              · exact NO.out j h2 h1
                              · obtain rfl : j = m := by omega
                                exact h
                            by_cases e1 : par t m = (q : Int)
                            · by_cases e2 : tk t m = X
                              · have H0 := Lib.hid (FN.out (fun h => (GOOD.out.1 h).2.2 m hlm h1m ⟨e1, e2⟩))
                                rw [e1] at u0
                                rw [e2] at u1
                                clear nx e1 e2
                                go_wp2
                                go_quiet (fail)
                                all_goals go_wp2
                                go_returns
                                exact ⟨H0.out, bdraw hb _⟩
                              · have NX := Lib.hid (nx (fun h => e2 h.2))
                                rw [e1] at u0
                                clear nx e1
                                generalize tk t m = Y at *
                                have hne : (Y == X) = false := by simpa using e2
                                clear e2
                                go_wp2
                                go_quiet (fail)
                                all_goals go_wp2
                                go_roundw
                                case rel => exact ⟨m + 1, by omega, by omega, by go_num, NX.out, hB.drew, bdraw hb _⟩
                                case measure => simp [intOf]; omega
                            · have NX := Lib.hid (nx (fun h => e1 h.1))
                              clear nx
                              generalize par t m = Y at *
                              have hne : (Y == (q : Int)) = false := by simpa using e1
                              clear e1
                              go_wp2
                              go_quiet (fail)
                              all_goals go_wp2
                              go_roundw
                              case rel => exact ⟨m + 1, by omega, by omega, by go_num, NX.out, hB.drew, bdraw hb _⟩
                              case measure => simp [intOf]; omega
                          · obtain rfl : k = m := by omega
                            have hgk : good t k := GOOD.out.2 ⟨trivial, c5, NO.out⟩
                            have GK := Lib.hid hgk
                            clear hgk
                            go_wp2
                            go_roundw
                            case rel => exact ⟨k + 1, by omega, by omega, by go_num, fun j hj h1 => by
                              rcases Nat.lt_or_ge j k with h2 | h2
                              · exact HG.out j h2 h1
                              · obtain rfl : j = k := by omega
                                exact GK.out, hb⟩
                            case measure => simp [intOf]; omega
                    · have H0 := Lib.hid (show ¬ good t k from fun h => absurd (hgd.1 h).1 c4)
                      generalize tk t k = X at *
                      generalize dep t q = E at *
                      generalize dep t k = D at *
                      have d4 : (D != E + 1) = true := by simpa using c4
                      clear hdk hgd GD c4
                      go_wp2
                      go_quiet (fail)
                      all_goals go_wp2
                      go_returns
                      exact FIN.out H0.out _
            · obtain rfl : n = k := by omega
              have HR := Lib.hid (errT_ok (t := t) ⟨by omega, by omega, hp, hd, fun i hi h1 => hg i (by omega) h1⟩)
              clear hg
              go_wp2
              go_returns
              exact ⟨by rw [HR.out]; rfl, hb⟩
        · have hne : (d != 0) = true := by simpa using z4
          have HR := Lib.hid (errT_bad (t := t) (fun h => z4 (hd ▸ h.2.2.2.1)))
          subst z3
          clear z4 hp hd
          go_enter Try.func33, Try.ntmps33
          go_wp2
          go_returns
          exact ⟨by rw [HR.out]; rfl, Below.refl _ _⟩
      · have hne : (p != -1) = true := by simpa using z3
        have HR := Lib.hid (errT_bad (t := t) (fun h => z3 (hp ▸ h.2.2.1)))
        clear z3 hp hd
        go_enter Try.func33, Try.ntmps33
        go_wp2
        go_returns
        exact ⟨by rw [HR.out]; rfl, Below.refl _ _⟩
end Go.Proofs.Ytlcgkdhcdldlfaa
