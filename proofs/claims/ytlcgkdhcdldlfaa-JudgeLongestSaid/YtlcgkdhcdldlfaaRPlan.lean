import Derived.Test.YtlcgkdhcdldlfaaPlan
namespace Go.Proofs.Ytlcgkdhcdldlfaa
open Go.RowKit Go.Maps

set_option maxRecDepth 100000 in
set_option maxHeartbeats 4000000 in
/-- augurref16.Plan -/
theorem refPlan_any (A B C : Option Addr) (n c m d q e : Nat) (way slots to : List Int) (w : World) (hl : way.length = n) (hm : n * 16 ≤ 140737488351232) (hx : Rd w A (I64 way)) (hl2 : slots.length = m) (hy : Rd w B (I64 slots)) (hl3 : to.length = q) (hm3 : q * 8 ≤ 140737488351232) (hz : Rd w C (I64 to)) :
    Calls Try.prog 20 #[.slice A n c, .slice B m d, .slice C q e] w (PlanOut w way slots to) := by
  by_cases c1 : n = 0
  · have P := Lib.hid (plan_no (way := way) (slots := slots) (to := to) (fun h => absurd h.1 (by omega)))
    subst c1
    go_enter Try.func20, Try.ntmps20
    go_wp2
    go_returns
    exact PlanOut.bad P.out (Below.refl _ _)
  · by_cases c2 : q < n
    · have P := Lib.hid (plan_no (way := way) (slots := slots) (to := to) (fun h => absurd h.2.1 (by omega)))
      have hz0 : ((n : Int) == 0) = false := by simpa using c1
      clear c1
      go_enter Try.func20, Try.ntmps20
      go_wp2
      go_returns
      exact PlanOut.bad P.out (Below.refl _ _)
    · have hz0 : ((n : Int) == 0) = false := by simpa using c1
      obtain ⟨b, o, rfl⟩ := hx.start (by rw [I64_length]; omega)
      obtain ⟨b3, o3, rfl⟩ := hz.start (by rw [I64_length]; omega)
      go_enter Try.func20, Try.ntmps20
      go_wp2
      go_loopw [8, 9, 10] (fun v i _ wr => ∃ k : Nat, k ≤ n ∧ i = .int .i64 (k : Int) ∧ wr.ownsRow w.heap.size 43 2 v (mvs way slots to k).length (PR (mvs way slots to k)) ∧ (∀ j, j < k → mayAt way slots to j) ∧ Below w.heap.size w wr) (fun _ i _ _ => n - (intOf i).toNat)
      case atStart => exact ⟨0, by omega, rfl, World.ownsRow_nil _ _ _ _, by omega, Below.refl _ _⟩
      case round =>
        obtain ⟨k, hk, rfl, ho, hok, hb⟩ := hrel
        obtain ⟨va, vc, rfl, _, _⟩ := own_rd ho
        have hlen := mvs_len way slots to k
        have OK := Lib.hid hok
        clear hok
        by_cases hlt : k < n
        · have y0 := (hx.below hb).i64At k (by omega)
          rw [wv_get way k (by omega)] at y0
          have ea := addr_add b o k
          have ec := addr_add b3 o3 k
          have hki : (k : Int) < (n : Int) := by omega
          have hkq : (k : Int) < (q : Int) := by omega
          have BAD := Lib.hid (plan_bad (slots := slots) (to := to) (show k < way.length by omega))
          have MA := Lib.hid (show mayAt way slots to k ↔ (0 ≤ wv way k ∧ wv way k < (slots.length : Int) ∧ wv to k ∉ to.take k) from Iff.rfl)
          have MS := Lib.hid (mvs_succ way slots to k)
          have HC := Lib.hid (fun (u : World) (h : Below w.heap.size w u) (j : Nat) (hj : j < n) => (show u.cell? ⟨b3, o3 + j, none⟩ = some (.int .i64 (wv to j)) by have := (hz.below h).i64At j (by omega); rwa [wv_get to j (by omega)] at this))
          have HA := Lib.hid (fun (u : World) (h : Below w.heap.size w u) => (show u.cell? ⟨b, o + k, none⟩ = some (.int .i64 (wv way k)) by have := (hx.below h).i64At k (by omega); rwa [wv_get way k (by omega)] at this))
          by_cases d1 : wv way k < 0
          · have P := Lib.hid (BAD.out (fun h => absurd (MA.out.1 h).1 (by omega)))
            clear BAD MA MS HA
            generalize wv way k = V at *
            have d1' : decide (V < 0) = true := decide_eq_true d1
            go_wp2
            go_returns
            exact PlanOut.bad P.out hb
          · by_cases d2 : (m : Int) ≤ wv way k
            · have P := Lib.hid (BAD.out (fun h => absurd (MA.out.1 h).2.1 (by omega)))
              clear BAD MA MS HA
              generalize wv way k = V at *
              have d1' : decide (V < 0) = false := decide_eq_false d1
              have d2' : decide ((m : Int) ≤ V) = true := decide_eq_true d2
              go_wp2
              go_returns
              exact PlanOut.bad P.out hb
            · obtain ⟨v, hv⟩ : ∃ v : Nat, wv way k = (v : Int) := ⟨(wv way k).toNat, by omega⟩
              have NX := Lib.hid (fun hin => okN OK.out (MA.out.2 ⟨by omega, by omega, hin⟩))
              have BD := Lib.hid (fun (hin : wv to k ∈ to.take k) => BAD.out (fun h => (MA.out.1 h).2.2 hin))
              have MV := Lib.hid (show mvAt way slots to k = if wv slots v = wv to k then [] else [(wv slots v, wv to k)] by unfold mvAt; rw [hv, Int.toNat_natCast])
              rw [MV.out] at MS
              clear MV MA BAD
              have hvm : (v : Int) < (m : Int) := by omega
              have HS := Lib.hid (fun (u : World) (h : Below w.heap.size w u) => (show ∃ b2 o2, B = some ⟨b2, o2, none⟩ ∧ u.cell? ⟨b2, o2 + v, none⟩ = some (.int .i64 (wv slots v)) by obtain ⟨b2, o2, e2, this⟩ := (hy.below h).i64 v (by omega); rw [wv_get slots v (by omega)] at this; exact ⟨b2, o2, e2, this⟩))
              rw [hv] at y0 HA
              clear hv d1 d2
              have d1' : decide ((v : Int) < 0) = false := decide_eq_false (by omega)
              have d2' : decide ((m : Int) ≤ (v : Int)) = false := decide_eq_false (by omega)
              have d2'' : decide (m ≤ v) = false := decide_eq_false (by omega)
              have hvn : 0 ≤ (v : Int) := by omega
              generalize wv slots v = s at *
              go_wp2
              go_loopw [10] (fun j wr => ∃ p : Nat, p ≤ k ∧ j = .int .i64 (p : Int) ∧ (∀ j, j < p → wv to j ≠ wv to k) ∧ wr.ownsRow w.heap.size 43 2 (.slice va (mvs way slots to k).length vc) (mvs way slots to k).length (PR (mvs way slots to k)) ∧ Below w.heap.size w wr) (fun j _ => k - (intOf j).toNat)
              case atStart => exact ⟨0, by omega, rfl, by omega, ho, hb⟩
              case round =>
                clear ho hb y0
                obtain ⟨p, hpk, rfl, hno, ho, hb⟩ := hrel
                have NO := Lib.hid hno
                clear hno
                have z0 := HC.out _ hb k (by omega)
                by_cases hlp : p < k
                · have z1 := HC.out _ hb p (by omega)
                  have ep := addr_add b3 o3 p
                  have hpi : (p : Int) < (q : Int) := by omega
                  by_cases ez : wv to p = wv to k
                  · have P := Lib.hid (BD.out (by
                      rw [← ez, ← wv_get to p (by omega), List.mem_take_iff_getElem]
                      exact ⟨p, by omega, rfl⟩))
                    rw [ez] at z1
                    clear BD ez
                    generalize wv to k = x at *
                    go_wp2
                    go_quiet (fail)
                    all_goals go_wp2
                    go_returns
                    exact PlanOut.bad P.out (bdraw hb _)
                  · have N1 : ∀ j, j < p + 1 → wv to j ≠ wv to k := fun j hj => by
                      rcases Nat.lt_or_ge j p with h2 | h2
                      · exact NO.out j h2
                      · obtain rfl : j = p := by omega
                        exact ez
                    have NN := Lib.hid N1
                    have hne : (wv to p == wv to k) = false := by simpa using ez
                    clear N1 ez
                    go_wp2
                    go_quiet (fail)
                    all_goals go_wp2
                    go_roundw
                    case rel => exact ⟨p + 1, by omega, by go_num, NN.out, ho, bdraw hb _⟩
                    case measure => simp [intOf]; omega
                · obtain rfl : k = p := by omega
                  have NX2 := Lib.hid (NX.out (fun hin => by
                    rw [List.mem_take_iff_getElem] at hin
                    obtain ⟨j, hj, he⟩ := hin
                    rw [wv_get to j (by omega)] at he
                    exact NO.out j (by omega) he))
                  obtain ⟨b2, o2, rfl, u0⟩ := HS.out _ hb
                  have ed := addr_add b2 o2 v
                  have y0 := HA.out _ hb
                  clear BD NX
                  generalize wv to k = x at *
                  by_cases es : s = x
                  · subst es
                    rw [if_pos rfl, List.append_nil] at MS
                    go_wp2
                    go_quiet (fail)
                    all_goals go_wp2
                    go_roundw
                    case rel => exact ⟨k + 1, by omega, by go_num, by rw [MS.out]; exact ho, NX2.out, bdraw hb _⟩
                    case measure => simp [intOf]; omega
                  · have hne : (s != x) = true := by simpa using es
                    rw [if_neg es] at MS
                    clear es
                    go_wp2
                    go_quiet (fail)
                    have u1 : (wr.drewN nq).cell? ⟨b2, o2 + v, none⟩ = some (.int .i64 s) := u0
                    have z2 : (wr.drewN nq).cell? ⟨b3, o3 + k, none⟩ = some (.int .i64 x) := z0
                    have y2 : (wr.drewN nq).cell? ⟨b, o + k, none⟩ = some (.int .i64 (v : Int)) := y0
                    have qo2 : (wr.drewN nq).ownsRow w.heap.size 43 2 (.slice va (mvs way slots to k).length vc) (mvs way slots to k).length (PR (mvs way slots to k)) := ho
                    have qb2 := bdraw hb nq
                    clear u0 z0 y0 ho hb
                    generalize wr.drewN nq = w3 at *
                    go_wp2
                    go_region_law ((refine appStep (w0 := w) w.heap.size rfl _ _ 36 43 (.agg #[.int .i64 0, .int .i64 0]) 2 16 rfl Try.underlying36 info43 rfl (by decide) (by decide) (.slice va (mvs way slots to k).length vc) (mvs way slots to k).length (PR (mvs way slots to k)) w3.heap.size #[.int .i64 s, .int .i64 x] rfl rfl rfl (by simp [Value.oneCell']) (Blk.new w3 _ 43) (qo2.alloc _) (qb2.alloc qb2.size _).drew (by have := qb2.size; simp; omega) (by omega) ?_; intro g cap w4 ho4 hb4 hg4 hat))
                    all_goals go_wp2
                    all_goals
                      go_roundw
                      case rel =>
                        refine ⟨k + 1, by omega, by go_num, ?_, NX2.out, hb4⟩
                        rw [MS.out, List.length_append, List.length_singleton, ← PR_snoc]
                        exact ho4
                      case measure => simp [intOf]; omega
        · obtain rfl : n = k := by omega
          have P := Lib.hid (plan_ok (way := way) (slots := slots) (to := to) ⟨by omega, by omega, fun i hi => OK.out i (by omega)⟩)
          go_wp2
          go_returns
          refine ⟨va, vc, by rw [P.out.1, P.out.2, hl]; rfl, ?_, hb⟩
          rw [P.out.1, hl]
          exact ho
end Go.Proofs.Ytlcgkdhcdldlfaa
