import Derived.Test.YtlcgkdhcdldlfaaDoorMoves
namespace Go.Proofs.YtlcgkdhcdldlfaaDoor
open Go.RowKit Go.Maps

theorem okN {way slots to : List Int} {k : Nat} (h : ∀ j, j < k → mayAt way slots to j) (h' : mayAt way slots to k) : ∀ j, j < k + 1 → mayAt way slots to j := fun j hj => by
  rcases Nat.lt_or_ge j k with h2 | h2
  · exact h j h2
  · obtain rfl : j = k := by omega
    exact h'
set_option maxRecDepth 100000 in
set_option maxHeartbeats 4000000 in
/-- judge.Plan -/
theorem plan_any (A B C : Option Addr) (n c m d q e : Nat) (way slots to : List Int) (w : World) (hl : way.length = n) (hm : n * 16 ≤ 140737488351232) (hx : Rd w A (I64 way)) (hl2 : slots.length = m) (hy : Rd w B (I64 slots)) (hl3 : to.length = q) (hm3 : q * 8 ≤ 140737488351232) (hz : Rd w C (I64 to)) (hwf : WfI to) :
    Calls Tryd.prog 14 #[.slice A n c, .slice B m d, .slice C q e] w (PlanOut w way slots to) := by
  by_cases c1 : n = 0
  · have P := Lib.hid (plan_no (way := way) (slots := slots) (to := to) (fun h => absurd h.1 (by omega)))
    subst c1
    go_enter Tryd.func14, Tryd.ntmps14
    go_wp2
    go_returns
    exact PlanOut.bad P.out (Below.refl _ _)
  · by_cases c2 : q < n
    · have P := Lib.hid (plan_no (way := way) (slots := slots) (to := to) (fun h => absurd h.2.1 (by omega)))
      have hz0 : ((n : Int) == 0) = false := by simpa using c1
      clear c1
      go_enter Tryd.func14, Tryd.ntmps14
      go_wp2
      go_returns
      exact PlanOut.bad P.out (Below.refl _ _)
    · have hz0 : ((n : Int) == 0) = false := by simpa using c1
      obtain ⟨b, o, rfl⟩ := hx.start (by rw [I64_length]; omega)
      obtain ⟨b3, o3, rfl⟩ := hz.start (by rw [I64_length]; omega)
      have hmm := @run_makeMap Tryd.prog
      go_enter Tryd.func14, Tryd.ntmps14
      go_wp2
      have hM : (w.alloc (.map #[] 0)).ownsMap Tryd.prog 3 (plainElem Tryd.prog 3) w.heap.size 0 (.map [] : DataW Unit) := World.ownsMap_made (H := Unit) w Tryd.prog 3 (plainElem Tryd.prog 3)
      have hb0 : Below w.heap.size w (w.alloc (.map #[] 0)) := by go_grown
      clear hmm
      generalize w.alloc (.map #[] 0) = w1 at *
      go_loopw [9, 10, 11, 25] (fun v _ _ i wr => ∃ (k : Nat) (D : DataW Unit), k ≤ n ∧ i = .int .i64 (k : Int) ∧ wr.ownsRow w.heap.size 47 2 v (mvs way slots to k).length (PR (mvs way slots to k)) ∧ wr.ownsMap Tryd.prog 3 (plainElem Tryd.prog 3) w.heap.size k D ∧ CntIs D (to.take k) ∧ (∀ j, j < k → mayAt way slots to j) ∧ Below w.heap.size w wr) (fun _ _ _ i _ => n - (intOf i).toNat)
      case atStart => exact ⟨0, .map [], by omega, rfl, World.ownsRow_nil _ _ _ _, hM, CntIs.nil, by omega, hb0⟩
      case round =>
        clear hM hb0
        obtain ⟨k, D, hk, rfl, ho, hM, hD, hok, hb⟩ := hrel
        obtain ⟨va, vc, rfl, _, _⟩ := own_rd ho
        have hlen := mvs_len way slots to k
        have OK := Lib.hid hok
        clear hok
        by_cases hlt : k < n
        · have y0 := (hx.below hb).i64At k (by omega)
          have y1 := (hz.below hb).i64At k (by omega)
          rw [wv_get way k (by omega)] at y0
          rw [wv_get to k (by omega)] at y1
          have ea := addr_add b o k
          have ec := addr_add b3 o3 k
          have hki : (k : Int) < (n : Int) := by omega
          have hkq : (k : Int) < (q : Int) := by omega
          have hwk := hwf.at (show k < to.length by omega)
          have KEY := Lib.hid (keyOf_int_mk (P := Tryd.prog) Tryd.underlying3 hwk)
          have AT := Lib.hid (hD.2 (wv to k))
          have T1 := Lib.hid (List.take_succ_eq_append_getElem (show k < to.length by omega))
          rw [wv_get to k (by omega)] at T1
          have BAD := Lib.hid (plan_bad (slots := slots) (to := to) (show k < way.length by omega))
          have DP := Lib.hid (fun h => CntIs.put hD (x := wv to k) h)
          have MA := Lib.hid (show mayAt way slots to k ↔ (0 ≤ wv way k ∧ wv way k < (slots.length : Int) ∧ wv to k ∉ to.take k) from Iff.rfl)
          have MS := Lib.hid (mvs_succ way slots to k)
          have WK := Lib.hid hwk
          have hyb := hy.below hb
          have HDM := Lib.hid hD.1
          clear hD hwk
          have AS := Lib.hid (fun (d z : DataW Unit) => atKey_put_same (k := Lit.int .i64 (wv to k)) (HDM.out) (law3.key KEY.out) d z)
          obtain ⟨c0, hlk, hat0, hwc0⟩ := hM.lookup_int law3 Tryd.underlying57 Tryd.underlying3 (zero3 _) KEY.out
          rw [AT.out] at hat0
          have HC := Lib.hid (fun (u : World) (h : Below w.heap.size w u) => (show u.cell? ⟨b3, o3 + k, none⟩ = some (.int .i64 (wv to k)) by have := (hz.below h).i64At k (by omega); rwa [wv_get to k (by omega)] at this))
          by_cases hin : wv to k ∈ to.take k
          · rw [if_pos hin] at hat0
            obtain rfl : 1 = c0 := by simpa using hat0
            have P := Lib.hid (BAD.out (fun h => (MA.out.1 h).2.2 hin))
            clear hat0 hwc0 hin BAD MA DP MS T1 AT
            generalize wv way k = V at *
            generalize wv to k = x at *
            by_cases d1 : V < 0
            · have d1' : decide (V < 0) = true := decide_eq_true d1
              go_wp2_with (at_mapUpdate; refine wpList_mapUpdate_own _ rfl _ _ _ 57 rfl 3 3 law3 Tryd.underlying57 _ w.heap.size k _ rfl hM (by unfold maxLen; omega) _ _ _ rfl rfl KEY.out (DataW.lit (.int .i64 2)) [] (plainElem_int Tryd.underlying3 (WalkArith.wf_i64 (by omega))) ?_; intro w2 pm2 hg2; have qb : Below w.heap.size w w2 := hb.grown hg2 hb.size (fun j hj => by cases hj; omega); have qo := World.ownsRow.kept ho hg2 (own_ne_map' hM ho); have z1 := HC.out _ qb; obtain ⟨cc, hlk2, hat2, hw2⟩ := pm2.lookup_int law3 Tryd.underlying57 Tryd.underlying3 (zero3 _) KEY.out; rw [AS.out] at hat2; have hcc : (2 : Int) = cc := (by simpa using hat2); subst hcc; clear hat2 hw2)
              go_returns
              exact PlanOut.bad P.out qb
            · have d1' : decide (V < 0) = false := decide_eq_false d1
              by_cases d2 : (m : Int) ≤ V
              · have d2' : decide ((m : Int) ≤ V) = true := decide_eq_true d2
                go_wp2_with (at_mapUpdate; refine wpList_mapUpdate_own _ rfl _ _ _ 57 rfl 3 3 law3 Tryd.underlying57 _ w.heap.size k _ rfl hM (by unfold maxLen; omega) _ _ _ rfl rfl KEY.out (DataW.lit (.int .i64 2)) [] (plainElem_int Tryd.underlying3 (WalkArith.wf_i64 (by omega))) ?_; intro w2 pm2 hg2; have qb : Below w.heap.size w w2 := hb.grown hg2 hb.size (fun j hj => by cases hj; omega); have qo := World.ownsRow.kept ho hg2 (own_ne_map' hM ho); have z1 := HC.out _ qb; obtain ⟨cc, hlk2, hat2, hw2⟩ := pm2.lookup_int law3 Tryd.underlying57 Tryd.underlying3 (zero3 _) KEY.out; rw [AS.out] at hat2; have hcc : (2 : Int) = cc := (by simpa using hat2); subst hcc; clear hat2 hw2)
                go_returns
                exact PlanOut.bad P.out qb
              · have d2' : decide ((m : Int) ≤ V) = false := decide_eq_false d2
                go_wp2_with (at_mapUpdate; refine wpList_mapUpdate_own _ rfl _ _ _ 57 rfl 3 3 law3 Tryd.underlying57 _ w.heap.size k _ rfl hM (by unfold maxLen; omega) _ _ _ rfl rfl KEY.out (DataW.lit (.int .i64 2)) [] (plainElem_int Tryd.underlying3 (WalkArith.wf_i64 (by omega))) ?_; intro w2 pm2 hg2; have qb : Below w.heap.size w w2 := hb.grown hg2 hb.size (fun j hj => by cases hj; omega); have qo := World.ownsRow.kept ho hg2 (own_ne_map' hM ho); have z1 := HC.out _ qb; obtain ⟨cc, hlk2, hat2, hw2⟩ := pm2.lookup_int law3 Tryd.underlying57 Tryd.underlying3 (zero3 _) KEY.out; rw [AS.out] at hat2; have hcc : (2 : Int) = cc := (by simpa using hat2); subst hcc; clear hat2 hw2)
                go_returns
                exact PlanOut.bad P.out qb
          · rw [if_neg hin] at hat0
            obtain rfl : 0 = c0 := by simpa using hat0
            clear hat0 hwc0 AT
            by_cases d1 : wv way k < 0
            · have P := Lib.hid (BAD.out (fun h => absurd (MA.out.1 h).1 (by omega)))
              clear hin BAD MA DP MS T1
              generalize wv way k = V at *
              generalize wv to k = x at *
              have d1' : decide (V < 0) = true := decide_eq_true d1
              go_wp2_with (at_mapUpdate; refine wpList_mapUpdate_own _ rfl _ _ _ 57 rfl 3 3 law3 Tryd.underlying57 _ w.heap.size k _ rfl hM (by unfold maxLen; omega) _ _ _ rfl rfl KEY.out (DataW.lit (.int .i64 1)) [] (plainElem_int Tryd.underlying3 (WalkArith.wf_i64 (by omega))) ?_; intro w2 pm2 hg2; have qb : Below w.heap.size w w2 := hb.grown hg2 hb.size (fun j hj => by cases hj; omega); have qo := World.ownsRow.kept ho hg2 (own_ne_map' hM ho); have z1 := HC.out _ qb; obtain ⟨cc, hlk2, hat2, hw2⟩ := pm2.lookup_int law3 Tryd.underlying57 Tryd.underlying3 (zero3 _) KEY.out; rw [AS.out] at hat2; have hcc : (1 : Int) = cc := (by simpa using hat2); subst hcc; clear hat2 hw2)
              go_returns
              exact PlanOut.bad P.out qb
            · by_cases d2 : (m : Int) ≤ wv way k
              · have P := Lib.hid (BAD.out (fun h => absurd (MA.out.1 h).2.1 (by omega)))
                clear hin BAD MA DP MS T1
                generalize wv way k = V at *
                generalize wv to k = x at *
                have d1' : decide (V < 0) = false := decide_eq_false d1
                have d2' : decide ((m : Int) ≤ V) = true := decide_eq_true d2
                go_wp2_with (at_mapUpdate; refine wpList_mapUpdate_own _ rfl _ _ _ 57 rfl 3 3 law3 Tryd.underlying57 _ w.heap.size k _ rfl hM (by unfold maxLen; omega) _ _ _ rfl rfl KEY.out (DataW.lit (.int .i64 1)) [] (plainElem_int Tryd.underlying3 (WalkArith.wf_i64 (by omega))) ?_; intro w2 pm2 hg2; have qb : Below w.heap.size w w2 := hb.grown hg2 hb.size (fun j hj => by cases hj; omega); have qo := World.ownsRow.kept ho hg2 (own_ne_map' hM ho); have z1 := HC.out _ qb; obtain ⟨cc, hlk2, hat2, hw2⟩ := pm2.lookup_int law3 Tryd.underlying57 Tryd.underlying3 (zero3 _) KEY.out; rw [AS.out] at hat2; have hcc : (1 : Int) = cc := (by simpa using hat2); subst hcc; clear hat2 hw2)
                go_returns
                exact PlanOut.bad P.out qb
              · obtain ⟨v, hv⟩ : ∃ v : Nat, wv way k = (v : Int) := ⟨(wv way k).toNat, by omega⟩
                have NX := Lib.hid (okN OK.out (MA.out.2 ⟨by omega, by omega, hin⟩))
                have MV := Lib.hid (show mvAt way slots to k = if wv slots v = wv to k then [] else [(wv slots v, wv to k)] by unfold mvAt; rw [hv, Int.toNat_natCast])
                rw [MV.out] at MS
                clear MV MA BAD hin
                have hvm : (v : Int) < (m : Int) := by omega
                have HS := Lib.hid (fun (u : World) (h : Below w.heap.size w u) => (show ∃ b2 o2, B = some ⟨b2, o2, none⟩ ∧ u.cell? ⟨b2, o2 + v, none⟩ = some (.int .i64 (wv slots v)) by obtain ⟨b2, o2, e2, this⟩ := (hy.below h).i64 v (by omega); rw [wv_get slots v (by omega)] at this; exact ⟨b2, o2, e2, this⟩))
                rw [hv] at y0
                clear hv d1 d2
                have d1' : decide ((v : Int) < 0) = false := decide_eq_false (by omega)
                have d2' : decide ((m : Int) ≤ (v : Int)) = false := decide_eq_false (by omega)
                have d2'' : decide (m ≤ v) = false := decide_eq_false (by omega)
                have hvn : 0 ≤ (v : Int) := by omega
                generalize hX : wv to k = x at *
                generalize wv slots v = s at *
                go_wp2_with (at_mapUpdate; refine wpList_mapUpdate_own _ rfl _ _ _ 57 rfl 3 3 law3 Tryd.underlying57 _ w.heap.size k _ rfl hM (by unfold maxLen; omega) _ _ _ rfl rfl KEY.out (DataW.lit (.int .i64 1)) [] (plainElem_int Tryd.underlying3 (WalkArith.wf_i64 (by omega))) ?_; intro w2 pm2 hg2; have qb : Below w.heap.size w w2 := hb.grown hg2 hb.size (fun j hj => by cases hj; omega); have qo := World.ownsRow.kept ho hg2 (own_ne_map' hM ho); have z1 := HC.out _ qb; obtain ⟨cc, hlk2, hat2, hw2⟩ := pm2.lookup_int law3 Tryd.underlying57 Tryd.underlying3 (zero3 _) KEY.out; rw [AS.out] at hat2; have hcc : (1 : Int) = cc := (by simpa using hat2); subst hcc; clear hat2 hw2)
                obtain ⟨b2, o2, rfl, u0⟩ := HS.out _ qb
                have ed := addr_add b2 o2 v
                by_cases es : s = x
                · subst es
                  rw [if_pos rfl, List.append_nil] at MS
                  go_quiet (fail)
                  all_goals go_wp2
                  go_roundw
                  case rel =>
                    refine ⟨k + 1, D.put (.int .i64 s) (DataW.lit (.int .i64 1)), by omega, by go_num, ?_, pm2, ?_, NX.out, bdraw qb _⟩
                    · rw [MS.out]
                      exact qo
                    · rw [T1.out]
                      exact DP.out WK.out
                  case measure => simp [intOf]; omega
                · have hne : (s != x) = true := by simpa using es
                  rw [if_neg es] at MS
                  clear es
                  go_quiet (fail)
                  have u1 : (w2.drewN nq).cell? ⟨b2, o2 + v, none⟩ = some (.int .i64 s) := u0
                  have z2 : (w2.drewN nq).cell? ⟨b3, o3 + k, none⟩ = some (.int .i64 x) := z1
                  have qo2 : (w2.drewN nq).ownsRow w.heap.size 47 2 (.slice va (mvs way slots to k).length vc) (mvs way slots to k).length (PR (mvs way slots to k)) := qo
                  have pm3 : (w2.drewN nq).ownsMap Tryd.prog 3 (plainElem Tryd.prog 3) w.heap.size (k + 1) (D.put (.int .i64 x) (DataW.lit (.int .i64 1))) := pm2
                  have qb2 := bdraw qb nq
                  clear u0 z1 qo pm2 qb hlk hlk2 hg2
                  generalize w2.drewN nq = w3 at *
                  go_wp2
                  have hml := mvs_len way slots to k
                  go_region_law ((refine appStep (w0 := w) w.heap.size rfl _ _ 43 47 (.agg #[.int .i64 0, .int .i64 0]) 2 16 rfl Tryd.underlying43 info47 rfl (by decide) (by decide) (.slice va (mvs way slots to k).length vc) (mvs way slots to k).length (PR (mvs way slots to k)) w3.heap.size #[.int .i64 s, .int .i64 x] rfl rfl rfl (by simp [Value.oneCell']) (Blk.new w3 _ 47) (qo2.alloc _) (qb2.alloc qb2.size _).drew (by have := qb2.size; simp; omega) (by omega) ?_; intro g cap w4 ho4 hb4 hg4 hat))
                  all_goals go_wp2
                  all_goals
                    go_roundw
                    case rel =>
                      have qo3 : (w3.alloc (.cells #[.int .i64 s, .int .i64 x] 47)).drew.ownsRow w.heap.size 47 2 (.slice va (mvs way slots to k).length vc) (mvs way slots to k).length (PR (mvs way slots to k)) := qo2.alloc _
                      have pm4 := (pm3.alloc (.cells #[.int .i64 s, .int .i64 x] 47)).drew
                      refine ⟨k + 1, D.put (.int .i64 x) (DataW.lit (.int .i64 1)), by omega, by go_num, ?_, World.ownsMap.kept pm4 hg4 (map_ne_own pm4 qo3), ?_, NX.out, hb4⟩
                      · rw [MS.out, List.length_append, List.length_singleton, ← PR_snoc]
                        exact ho4
                      · rw [T1.out]
                        exact DP.out WK.out
                    case measure => simp [intOf]; omega
        · obtain rfl : n = k := by omega
          have P := Lib.hid (plan_ok (way := way) (slots := slots) (to := to) ⟨by omega, by omega, fun i hi => OK.out i (by omega)⟩)
          go_wp2
          go_returns
          refine ⟨va, vc, by rw [P.out.1, P.out.2, hl]; rfl, ?_, hb⟩
          rw [P.out.1, hl]
          exact ho
end Go.Proofs.YtlcgkdhcdldlfaaDoor
