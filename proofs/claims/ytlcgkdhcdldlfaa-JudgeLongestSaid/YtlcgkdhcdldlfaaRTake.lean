import Derived.Test.YtlcgkdhcdldlfaaTake
namespace Go.Proofs.Ytlcgkdhcdldlfaa
open Go.RowKit

theorem full_last {t : List Nd} {way : List Int} {next : Int} (h : 0 < way.length) : wv (takeFull t way next) (way.length - 1) = next := by
  have h1 : (wayTk t way).length = way.length - 1 := by simp [wayTk]
  rw [← wv_get _ _ (by rw [takeFull_length h]; omega)]
  simp only [takeFull]
  rw [List.getElem_append_right (by omega)]
  simp
theorem full_get {t : List Nd} {way : List Int} {next : Int} {k : Nat} (h : k + 1 < way.length) : wv (takeFull t way next) k = tk t (wv way (k + 1)).toNat := by
  have h1 : (wayTk t way).length = way.length - 1 := by simp [wayTk]
  rw [← wv_get _ _ (by rw [takeFull_length (by omega)]; omega)]
  simp only [takeFull]
  rw [List.getElem_append_left (by omega), wayTk_get t way k (by omega)]

set_option maxRecDepth 100000 in
set_option maxHeartbeats 4000000 in
/-- augurref16.Take -/
theorem refTake_any (A B : Option Addr) (n c m d : Nat) (t : List Nd) (way : List Int) (next most : Int) (w : World) (hl : t.length = n) (hm : n * 24 ≤ 140737488351232) (hx : Rd w A (NC t)) (hl2 : way.length = m) (hm2 : m * 8 ≤ 140737488351232) (hy : Rd w B (I64 way)) :
    Calls Try.prog 18 #[.slice A n c, .slice B m d, .int .i64 next, .int .i64 most] w (TakeOut w t way next most) := by
  go_enter Try.func18, Try.ntmps18
  go_wp2_with fail
  refine (refCheck_any A n c t w hl (by omega) hx).mono ?_
  rintro e w1 ⟨rfl, hb⟩
  by_cases hT : isT t
  · rw [errT_ok hT]
    go_wp2_with fail
    refine (isWay_any A B n c m d t way w1 hl hm (hx.below hb) hl2 hm2 (hy.below hb)).mono ?_
    rintro e w2 ⟨rfl, hb2⟩
    replace hb2 := bthen hb hb2
    by_cases hW : isWay t way
    · rw [decide_eq_true hW]
      by_cases hmo : most < 1
      · have N := Lib.hid (take_no (next := next) (fun h : okK t way most => absurd h.2.2 (by omega)))
        have E := Lib.hid (take_e2 hT hW hmo)
        clear hT hW
        go_wp2
        go_returns
        exact ⟨none, 0, by rw [N.out.1, N.out.2, E.out]; rfl, by rw [N.out.1]; exact OwnI.nil _ _, hb2⟩
      · have hms := way_short hT hW
        have hTn := hT.2.1
        have hW0 := hW.1
        have TT := Lib.hid hT
        have WW := Lib.hid hW
        have KK := Lib.hid (show okK t way most from ⟨hT, hW, by omega⟩)
        obtain ⟨b, o, rfl⟩ := hy.start (by rw [I64_length]; omega)
        have E := Lib.hid (take_e3 hT hW hmo)
        have hLl := takeFull_length (t := t) (next := next) (show 0 < way.length by omega)
        have KA := Lib.hid (take_all (next := next) KK.out)
        have KC := Lib.hid (fun i => take_cut (i := i) (next := next) KK.out)
        have FL := Lib.hid (full_last (t := t) (way := way) (next := next) (by omega))
        have FG := Lib.hid (fun k => full_get (t := t) (way := way) (next := next) (k := k))
        clear hT hW
        generalize takeFull t way next = L at *
        have hlm : L.length = m := by omega
        go_wp2
        go_loopw [13, 14, 15] (fun v i _ wr => ∃ k : Nat, k ≤ m ∧ i = .int .i64 ((k : Int) + 1) ∧ wr.ownsRow w.heap.size 3 1 v k (I64 (L.take k)) ∧ (∀ j, j < k → ¬ stopAt L most j) ∧ Below w.heap.size w wr) (fun _ i _ _ => m + 1 - (intOf i).toNat)
        case atStart => exact ⟨0, by omega, rfl, World.ownsRow_nil _ _ _ _, by omega, hb2⟩
        case round =>
          clear hb2 hb
          obtain ⟨k, hk, rfl, ho, hno, hb⟩ := hrel
          obtain ⟨va, vc, rfl, _, _⟩ := own_rd ho
          have NO := Lib.hid hno
          clear hno
          by_cases hlt : k < m
          · have hki : (k : Int) + 1 ≤ (m : Int) := by omega
            have hw1 : IntKind.i64.wrap ((k : Int) + 1) = (k : Int) + 1 := IntWalk.i64_in _ (by omega)
            have hw2 : IntKind.i64.wrap ((k : Int) + 1 + 1) = (k : Int) + 1 + 1 := IntWalk.i64_in _ (by omega)
            have ht1 : ((k : Int) + 1).toNat = k + 1 := by omega
            have hk0 : 0 ≤ (k : Int) + 1 := by omega
            have T1 := Lib.hid (List.take_succ_eq_append_getElem (show k < L.length by omega))
            rw [wv_get L k (by omega)] at T1
            have fin : stopAt L most k → ∀ (u : World) (A' : Option Addr) (c' : Nat), u.ownsRow w.heap.size 3 1 (.slice A' (k + 1) c') (k + 1) (I64 (L.take (k + 1))) → Ending.returned (.tuple #[.slice A' (k + 1) c', .bool true, .int .i64 0]) = Ending.returned (.tuple #[.slice A' (takeL t way next most).length c', .bool (takeO t way next most), .int .i64 (takeE t way most)]) ∧ OwnI u w.heap.size A' (takeL t way next most).length c' (takeL t way next most) := fun h u A' c' hu => by
              obtain ⟨e1, e2⟩ := KC.out k (by omega) h NO.out
              have e3 : (L.take (k + 1)).length = k + 1 := by simp; omega
              rw [e1, e2, E.out, e3]
              exact ⟨rfl, OwnI.of_row hu⟩
            have FIN := Lib.hid fin
            have nx : ¬ stopAt L most k → ∀ j, j < k + 1 → ¬ stopAt L most j := fun h j hj => by
              rcases Nat.lt_or_ge j k with h2 | h2
              · exact NO.out j h2
              · obtain rfl : j = k := by omega
                exact h
            have NX := Lib.hid nx
            clear fin nx KC KA
            have SA := Lib.hid (show stopAt L most k ↔ (wv L k = 0 ∨ (k : Int) + 1 = most) from by unfold stopAt; exact Iff.rfl)
            by_cases hk1 : k + 1 < m
            · have y0 := (hy.below hb).i64At (k + 1) (by omega)
              rw [wv_get way (k + 1) (by omega)] at y0
              obtain ⟨h1, h2, _, _⟩ := WW.out.2 (k + 1) (by omega)
              have hfg := FG.out k (by omega)
              obtain ⟨v, hv⟩ : ∃ v : Nat, wv way (k + 1) = (v : Int) := ⟨(wv way (k + 1)).toNat, by omega⟩
              rw [hv] at y0 h2
              rw [hv, Int.toNat_natCast] at hfg
              rw [hfg] at T1 SA
              obtain ⟨b', o2, rfl, u0, u1, u2⟩ := (hx.below hb).nd v (by omega)
              have ea := addr_add b o (k + 1)
              have eb := addr_add b' o2 (v * 3)
              have eb1 := addr_add b' (o2 + v * 3) 1
              have hvn : (v : Int) < (n : Int) := by omega
              have hkl : (k : Int) + 1 < (m : Int) := by omega
              clear hv h1 hfg
              generalize tk t v = z at *
              by_cases e1 : z = 0
              · have F := Lib.hid (FIN.out (SA.out.2 (.inl e1)))
                rw [e1] at T1
                rw [e1] at u1
                clear FIN NX
                go_wp2_with (at_builtin; refine app (w0 := w) w.heap.size rfl _ _ 23 3 (.int .i64 0) 1 8 rfl Try.underlying23 info3 rfl (by decide) (by decide) (.slice va k vc) k (I64 (L.take k)) #[.int .i64 0] rfl rfl rfl (by simp [Value.oneCell']) ho hb hb.size (by omega) ?_; intro g2 cap w5 ow hb5 hg5 hat5; rw [show I64 (L.take k) ++ (#[Value.int .i64 0] : Array Value).toList = I64 (L.take (k + 1)) by rw [T1.out, ← I64_snoc]] at ow)
                go_returns
                obtain ⟨f1, f2⟩ := F.out _ _ _ ow
                exact ⟨_, _, f1, f2, hb5⟩
              · have hz0 : (z == 0) = false := by simpa using e1
                by_cases e2 : (k : Int) + 1 = most
                · have F := Lib.hid (FIN.out (SA.out.2 (.inr e2)))
                  subst e2
                  clear FIN NX e1
                  go_wp2_with (at_builtin; refine app (w0 := w) w.heap.size rfl _ _ 23 3 (.int .i64 0) 1 8 rfl Try.underlying23 info3 rfl (by decide) (by decide) (.slice va k vc) k (I64 (L.take k)) #[.int .i64 z] rfl rfl rfl (by simp [Value.oneCell']) ho hb hb.size (by omega) ?_; intro g2 cap w5 ow hb5 hg5 hat5; rw [show I64 (L.take k) ++ (#[Value.int .i64 z] : Array Value).toList = I64 (L.take (k + 1)) by rw [T1.out, ← I64_snoc]] at ow)
                  go_returns
                  obtain ⟨f1, f2⟩ := F.out _ _ _ ow
                  exact ⟨_, _, f1, f2, hb5⟩
                · have N1 := Lib.hid (NX.out (fun h => (SA.out.1 h).elim e1 e2))
                  have hne : ((k : Int) + 1 == most) = false := by simpa using e2
                  clear FIN NX e1 e2
                  go_wp2_with (at_builtin; refine app (w0 := w) w.heap.size rfl _ _ 23 3 (.int .i64 0) 1 8 rfl Try.underlying23 info3 rfl (by decide) (by decide) (.slice va k vc) k (I64 (L.take k)) #[.int .i64 z] rfl rfl rfl (by simp [Value.oneCell']) ho hb hb.size (by omega) ?_; intro g2 cap w5 ow hb5 hg5 hat5; rw [show I64 (L.take k) ++ (#[Value.int .i64 z] : Array Value).toList = I64 (L.take (k + 1)) by rw [T1.out, ← I64_snoc]] at ow)
                  go_roundw
                  case rel => exact ⟨k + 1, by omega, by go_num, ow, N1.out, hb5⟩
                  case measure => simp [intOf]; omega
            · obtain rfl : m = k + 1 := by omega
              have hfl : wv L k = next := by
                have := FL.out
                rwa [show way.length - 1 = k by omega] at this
              rw [hfl] at T1 SA
              clear hfl
              have hge : ¬ ((k : Int) + 1 < ((k + 1 : Nat) : Int)) := by omega
              by_cases e1 : next = 0
              · have F := Lib.hid (FIN.out (SA.out.2 (.inl e1)))
                rw [e1] at T1
                subst e1
                clear FIN NX
                go_wp2_with (at_builtin; refine app (w0 := w) w.heap.size rfl _ _ 23 3 (.int .i64 0) 1 8 rfl Try.underlying23 info3 rfl (by decide) (by decide) (.slice va k vc) k (I64 (L.take k)) #[.int .i64 0] rfl rfl rfl (by simp [Value.oneCell']) ho hb hb.size (by omega) ?_; intro g2 cap w5 ow hb5 hg5 hat5; rw [show I64 (L.take k) ++ (#[Value.int .i64 0] : Array Value).toList = I64 (L.take (k + 1)) by rw [T1.out, ← I64_snoc]] at ow)
                go_returns
                obtain ⟨f1, f2⟩ := F.out _ _ _ ow
                exact ⟨_, _, f1, f2, hb5⟩
              · have hz0 : (next == 0) = false := by simpa using e1
                by_cases e2 : (k : Int) + 1 = most
                · have F := Lib.hid (FIN.out (SA.out.2 (.inr e2)))
                  subst e2
                  clear FIN NX e1
                  go_wp2_with (at_builtin; refine app (w0 := w) w.heap.size rfl _ _ 23 3 (.int .i64 0) 1 8 rfl Try.underlying23 info3 rfl (by decide) (by decide) (.slice va k vc) k (I64 (L.take k)) #[.int .i64 next] rfl rfl rfl (by simp [Value.oneCell']) ho hb hb.size (by omega) ?_; intro g2 cap w5 ow hb5 hg5 hat5; rw [show I64 (L.take k) ++ (#[Value.int .i64 next] : Array Value).toList = I64 (L.take (k + 1)) by rw [T1.out, ← I64_snoc]] at ow)
                  go_returns
                  obtain ⟨f1, f2⟩ := F.out _ _ _ ow
                  exact ⟨_, _, f1, f2, hb5⟩
                · have N1 := Lib.hid (NX.out (fun h => (SA.out.1 h).elim e1 e2))
                  have hne : ((k : Int) + 1 == most) = false := by simpa using e2
                  clear FIN NX e1 e2
                  go_wp2_with (at_builtin; refine app (w0 := w) w.heap.size rfl _ _ 23 3 (.int .i64 0) 1 8 rfl Try.underlying23 info3 rfl (by decide) (by decide) (.slice va k vc) k (I64 (L.take k)) #[.int .i64 next] rfl rfl rfl (by simp [Value.oneCell']) ho hb hb.size (by omega) ?_; intro g2 cap w5 ow hb5 hg5 hat5; rw [show I64 (L.take k) ++ (#[Value.int .i64 next] : Array Value).toList = I64 (L.take (k + 1)) by rw [T1.out, ← I64_snoc]] at ow)
                  go_roundw
                  case rel => exact ⟨k + 1, by omega, by go_num, ow, N1.out, hb5⟩
                  case measure => simp [intOf]; omega
          · obtain rfl : m = k := by omega
            obtain ⟨e1, e2⟩ := KA.out (fun i hi => NO.out i (by omega))
            rw [List.take_of_length_le (by omega)] at ho
            have fin : Ending.returned (.tuple #[.slice va m vc, .bool false, .int .i64 0]) = Ending.returned (.tuple #[.slice va (takeL t way next most).length vc, .bool (takeO t way next most), .int .i64 (takeE t way most)]) ∧ OwnI wr w.heap.size va (takeL t way next most).length vc (takeL t way next most) := by
              rw [e1, e2, E.out, hlm]
              exact ⟨rfl, OwnI.of_row ho⟩
            have F := Lib.hid fin
            have hge : ¬ ((m : Int) + 1 ≤ (m : Int)) := by omega
            clear e1 e2 fin KA KC
            go_wp2
            go_returns
            exact ⟨_, _, F.out.1, F.out.2, hb⟩
    · rw [decide_eq_false hW]
      have N := Lib.hid (take_no (next := next) (fun h : okK t way most => hW h.2.1))
      have E := Lib.hid (take_e1 (most := most) hT hW)
      clear hT hW
      go_wp2
      go_returns
      exact ⟨none, 0, by rw [N.out.1, N.out.2, E.out]; rfl, by rw [N.out.1]; exact OwnI.nil _ _, hb2⟩
  · rw [errT_bad hT]
    have N := Lib.hid (take_no (next := next) (fun h : okK t way most => hT h.1))
    have E := Lib.hid (take_e0 (way := way) (most := most) hT)
    clear hT
    go_wp2
    go_returns
    exact ⟨none, 0, by rw [N.out.1, N.out.2, E.out]; rfl, by rw [N.out.1]; exact OwnI.nil _ _, hb⟩
end Go.Proofs.Ytlcgkdhcdldlfaa
