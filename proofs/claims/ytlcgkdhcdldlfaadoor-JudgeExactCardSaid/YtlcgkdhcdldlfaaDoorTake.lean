import Derived.Test.YtlcgkdhcdldlfaaDoorIsWay
namespace Go.Proofs.YtlcgkdhcdldlfaaDoor
open Go.RowKit

/-- all tokens of a way, and the next one -/
def wayTk (t : List Nd) (way : List Int) : List Int := (way.drop 1).map fun v => tk t v.toNat
def takeFull (t : List Nd) (way : List Int) (next : Int) : List Int := wayTk t way ++ [next]
theorem takeFull_length {t : List Nd} {way : List Int} {next : Int} (h : 0 < way.length) : (takeFull t way next).length = way.length := by simp [takeFull, wayTk]; omega
theorem wayTk_get (t : List Nd) (way : List Int) (k : Nat) (h : k < way.length - 1) : (wayTk t way)[k]'(by simp [wayTk]; omega) = tk t (wv way (k + 1)).toNat := by
  simp only [wayTk, List.getElem_map, List.getElem_drop]
  rw [wv_get way (1 + k) (by omega), Nat.add_comm]
/-- where the list ends: at an end, or at the most-th -/
def stopAt (L : List Int) (most : Int) (i : Nat) : Prop := wv L i = 0 ∨ (i : Int) + 1 = most
instance (L : List Int) (most : Int) (i : Nat) : Decidable (stopAt L most i) := by unfold stopAt; infer_instance
def cutN (L : List Int) (most : Int) : Option Nat := (List.range L.length).find? fun i => decide (stopAt L most i)
theorem cutN_none {L : List Int} {most : Int} (h : ∀ k, k < L.length → ¬ stopAt L most k) : cutN L most = none := by
  unfold cutN
  rw [List.find?_eq_none]
  intro k hk hp
  exact h k (List.mem_range.1 hk) (by simpa using hp)
theorem cutN_some {L : List Int} {most : Int} {k : Nat} (h1 : k < L.length) (h2 : stopAt L most k) (h3 : ∀ j, j < k → ¬ stopAt L most j) : cutN L most = some k := by
  unfold cutN
  rw [List.find?_range_eq_some]
  exact ⟨by simpa using h2, by simpa using h1, fun j hj => by simpa using h3 j hj⟩
def cutL (L : List Int) (most : Int) : List Int := match cutN L most with | none => L | some i => L.take (i + 1)
def cutO (L : List Int) (most : Int) : Bool := (cutN L most).isSome
def okK (t : List Nd) (way : List Int) (most : Int) : Prop := isT t ∧ isWay t way ∧ 1 ≤ most
instance (t : List Nd) (way : List Int) (most : Int) : Decidable (okK t way most) := by unfold okK; infer_instance
def takeL (t : List Nd) (way : List Int) (next most : Int) : List Int := if okK t way most then cutL (takeFull t way next) most else []
def takeO (t : List Nd) (way : List Int) (next most : Int) : Bool := if okK t way most then cutO (takeFull t way next) most else false
def takeE (t : List Nd) (way : List Int) (most : Int) : Int := if isT t then if isWay t way then if 1 ≤ most then 0 else 1 else 160 else 140
theorem take_no {t : List Nd} {way : List Int} {next most : Int} (h : ¬ okK t way most) : takeL t way next most = [] ∧ takeO t way next most = false := ⟨if_neg h, if_neg h⟩
theorem take_e0 {t : List Nd} {way : List Int} {most : Int} (h : ¬ isT t) : takeE t way most = 140 := if_neg h
theorem take_e1 {t : List Nd} {way : List Int} {most : Int} (h : isT t) (h' : ¬ isWay t way) : takeE t way most = 160 := by unfold takeE; rw [if_pos h, if_neg h']
theorem take_e2 {t : List Nd} {way : List Int} {most : Int} (h : isT t) (h' : isWay t way) (k : most < 1) : takeE t way most = 1 := by unfold takeE; rw [if_pos h, if_pos h', if_neg (by omega)]
theorem take_e3 {t : List Nd} {way : List Int} {most : Int} (h : isT t) (h' : isWay t way) (k : ¬ most < 1) : takeE t way most = 0 := by unfold takeE; rw [if_pos h, if_pos h', if_pos (by omega)]
theorem take_all {t : List Nd} {way : List Int} {next most : Int} (h : okK t way most) (k : ∀ i, i < (takeFull t way next).length → ¬ stopAt (takeFull t way next) most i) : takeL t way next most = takeFull t way next ∧ takeO t way next most = false := by
  unfold takeL takeO cutL cutO
  rw [if_pos h, if_pos h, cutN_none k]
  exact ⟨rfl, rfl⟩
theorem take_cut {t : List Nd} {way : List Int} {next most : Int} {i : Nat} (h : okK t way most) (h1 : i < (takeFull t way next).length) (h2 : stopAt (takeFull t way next) most i) (h3 : ∀ j, j < i → ¬ stopAt (takeFull t way next) most j) : takeL t way next most = (takeFull t way next).take (i + 1) ∧ takeO t way next most = true := by
  unfold takeL takeO cutL cutO
  rw [if_pos h, if_pos h, cutN_some h1 h2 h3]
  exact ⟨rfl, rfl⟩
/-- a way is no longer than its tree -/
theorem way_short {t : List Nd} {way : List Int} (hT : isT t) (h : isWay t way) : way.length ≤ t.length := by
  have key : ∀ i, i < way.length → (i : Int) ≤ wv way i := by
    intro i
    induction i with
    | zero => intro hi; have := (h.2 0 hi).1; omega
    | succ i ih =>
      intro hi
      have h1 := ih (by omega)
      obtain ⟨h2, h3, _, h4⟩ := h.2 (i + 1) hi
      have h5 := h4 (by omega)
      rw [Nat.add_sub_cancel] at h5
      rcases Nat.eq_zero_or_pos (wv way (i + 1)).toNat with h6 | h6
      · rw [h6, hT.2.2.1] at h5
        omega
      · have := (hT.2.2.2.2 _ (by omega) h6).2.1
        rw [h5] at this
        omega
  have hp := h.1
  have h1 := key (way.length - 1) (by omega)
  have h2 := (h.2 (way.length - 1) (by omega)).2.1
  omega

/-- numbers of the call's own, maybe with more memory behind them than their capacity -/
def OwnI (w : World) (base : Nat) (A : Option Addr) (n c : Nat) (xs : List Int) : Prop :=
  xs.length = n ∧ ((A = none ∧ n = 0 ∧ c = 0) ∨ ∃ g cur, A = some ⟨g, 0, none⟩ ∧ base ≤ g ∧ Blk w g cur 3 ∧ n ≤ c ∧ c ≤ cur.size ∧ cur.toList.take n = I64 xs)
theorem OwnI.nil (w : World) (base : Nat) : OwnI w base none 0 0 [] := ⟨rfl, .inl ⟨rfl, rfl, rfl⟩⟩
theorem OwnI.of_row {w : World} {base n c : Nat} {A : Option Addr} {xs : List Int} (h : w.ownsRow base 3 1 (.slice A n c) n (I64 xs)) : OwnI w base A n c xs := by
  refine ⟨by have := h.1; simpa [I64] using this, ?_⟩
  rcases h.2 with ⟨h1, h2⟩ | ⟨g, cap, cur, h1, h2, h3, h4, _, h6, h7⟩
  · injection h1 with h1 h3 h4
    exact .inl ⟨h1, h3, h4⟩
  · injection h1 with h1 _ h8
    subst h1 h8
    exact .inr ⟨g, cur, rfl, h2, h3, h4, by omega, by simpa using h7⟩
theorem OwnI.rd {w : World} {base n c : Nat} {A : Option Addr} {xs : List Int} (h : OwnI w base A n c xs) : Rd w A (I64 xs) := by
  obtain ⟨hl, h⟩ := h
  rcases h with ⟨_, h, _⟩ | ⟨g, cur, rfl, _, hB, h1, h2, h3⟩
  · refine .inl ?_
    have : xs = [] := List.length_eq_zero_iff.1 (by omega)
    rw [this]; rfl
  · refine .inr ⟨g, 0, rfl, fun i hi => ?_⟩
    rw [Nat.zero_add, hB.cell, ← h3, List.getElem?_take_of_lt (by rw [I64_length] at hi; omega)]
    simp
theorem OwnI.below {w w1 : World} {base n c : Nat} {A : Option Addr} {xs : List Int} (h : OwnI w base A n c xs) (hb : Below w.heap.size w w1) : OwnI w1 base A n c xs := by
  refine ⟨h.1, ?_⟩
  rcases h.2 with h | ⟨g, cur, h1, h2, h3, h4⟩
  · exact .inl h
  · exact .inr ⟨g, cur, h1, h2, h3.below hb, h4⟩
/-- what Take hands back -/
def TakeOut (w : World) (t : List Nd) (way : List Int) (next most : Int) (e : Ending) (w' : World) : Prop :=
  ∃ A c, e = .returned (.tuple #[.slice A (takeL t way next most).length c, .bool (takeO t way next most), .int .i64 (takeE t way most)]) ∧ OwnI w' w.heap.size A (takeL t way next most).length c (takeL t way next most) ∧ Below w.heap.size w w'

set_option maxRecDepth 100000 in
set_option maxHeartbeats 2000000 in
/-- judge.Take -/
theorem take_any (A B : Option Addr) (n c m d : Nat) (t : List Nd) (way : List Int) (next most : Int) (w : World) (hl : t.length = n) (hm : n * 24 ≤ 140737488351232) (hx : Rd w A (NC t)) (hwf : WfN t) (hl2 : way.length = m) (hm2 : m * 8 ≤ 140737488351232) (hmd : m ≤ d) (hy : Rd w B (I64 way)) :
    Calls Tryd.prog 10 #[.slice A n c, .slice B m d, .int .i64 next, .int .i64 most] w (TakeOut w t way next most) := by
  go_enter Tryd.func10, Tryd.ntmps10
  go_wp2_with fail
  refine (check_any A n c t w hl (by omega) hx hwf).mono ?_
  rintro e w1 ⟨rfl, hb⟩
  by_cases hT : isT t
  · rw [errT_ok hT]
    go_wp2_with fail
    refine (fits_any A B n c m d t way w1 hl hm (hx.below hb) hl2 hm2 (hy.below hb)).mono ?_
    rintro e w2 ⟨rfl, hb2⟩
    replace hb2 := bthen hb hb2
    by_cases hW : isWay t way
    · rw [decide_eq_true hW]
      by_cases hmo : most < 1
      · have N := Lib.hid (take_no (next := next) (fun h : okK t way most => absurd h.2.2 (by omega)))
        have E := Lib.hid (take_e2 hT hW hmo)
        clear hT hW
        go_wp2
        go_returns
        exact ⟨none, 0, by rw [N.out.1, N.out.2, E.out]; rfl, by rw [N.out.1]; exact OwnI.nil _ _, hb2⟩
      · have hms := way_short hT hW
        have hTn := hT.2.1
        have hW0 := hW.1
        have TT := Lib.hid hT
        have WW := Lib.hid hW
        have KK := Lib.hid (show okK t way most from ⟨hT, hW, by omega⟩)
        obtain ⟨b, o, rfl⟩ := hy.start (by rw [I64_length]; omega)
        have E := Lib.hid (take_e3 hT hW hmo)
        clear hT hW
        have hz1 : ∀ u, Below w.heap.size w u → (d = 1 → Rd u (some ⟨b, o, none⟩) (I64 (way.drop 1))) ∧ Rd u (some ⟨b, o + 1, none⟩) (I64 (way.drop 1)) := fun u hu => by
          refine ⟨fun h => .inl ?_, .inr ⟨b, o + 1, rfl, fun i hi => ?_⟩⟩
          · rw [List.drop_of_length_le (by omega)]; rfl
          · have hi' : i < way.length - 1 := by simpa [I64] using hi
            have := (hy.below hu).i64At (1 + i) (by omega)
            rw [show o + 1 + i = o + (1 + i) by omega, this]
            simp [I64, hi', Nat.add_comm]
        by_cases hd1 : d = 1
        · have HZ := Lib.hid (fun u hu => (hz1 u hu).1 hd1)
          clear hz1
          subst hd1
          obtain rfl : m = 1 := by omega
          have hwt : wayTk t way = [] := by
            unfold wayTk
            rw [List.drop_of_length_le (by omega)]
            rfl
          go_wp2
          go_loopw [8, 13, 30] (fun v _ i wr => v = .slice none 0 0 ∧ i = .int .i64 0 ∧ Below w.heap.size w wr) (fun _ _ _ _ => 0)
          case atStart => exact ⟨rfl, rfl, hb2⟩
          case round =>
            clear hb2 hb
            obtain ⟨rfl, rfl, hb⟩ := hrel
            go_wp2_with (at_builtin; refine app (w0 := w) w.heap.size rfl _ _ 23 3 (.int .i64 0) 1 8 rfl Tryd.underlying23 info3 rfl (by decide) (by decide) (.slice none 0 0) 0 [] #[.int .i64 next] rfl rfl rfl (by simp [Value.oneCell']) (World.ownsRow_nil _ _ _ _) hb hb.size (by omega) ?_; intro g2 cap w5 ow hb5 hg5 hat5)
            have ow' : w5.ownsRow w.heap.size 3 1 (.slice (some ⟨g2, 0, none⟩) 1 cap) 1 (I64 (takeFull t way next)) := by
              have := ow
              rwa [show ([] : List Value) ++ (#[Value.int .i64 next] : Array Value).toList = I64 (takeFull t way next) by simp [I64, takeFull, hwt]] at this
            have hLl := takeFull_length (t := t) (next := next) (show 0 < way.length by omega)
            have hcap : 1 ≤ cap := by
              obtain ⟨_, _, he, hc, _⟩ := own_rd ow'
              injection he with _ _ he
              omega
            have OI := Lib.hid (OwnI.of_row ow')
            have RD := own_rdA ow'
            have KA := Lib.hid (take_all (next := next) KK.out)
            have KC := Lib.hid (fun i => take_cut (i := i) (next := next) KK.out)
            clear ow ow' hb hg5 hat5
            generalize takeFull t way next = L at *
            have hlm : L.length = 1 := by omega
            go_loopw [8, 14, 15, 49] (fun v8 _ _ i wr => ∃ k : Nat, v8 = .slice (some ⟨g2, 0, none⟩) 1 cap ∧ k ≤ 1 ∧ i = .int .i64 (k : Int) ∧ (∀ j, j < k → ¬ stopAt L most j) ∧ Below w5.heap.size w5 wr) (fun _ _ _ i _ => 1 - (intOf i).toNat)
            case atStart => exact ⟨0, rfl, by omega, rfl, by omega, Below.refl _ _⟩
            case round =>
              obtain ⟨k, rfl, hk, rfl, hno, hb⟩ := hrel
              have NO := Lib.hid hno
              clear hno
              have hb6 := bthen hb5 hb
              by_cases hlt : k < 1
              · have y0 := (RD.below hb).i64At k (by omega)
                rw [wv_get L k (by omega), Nat.zero_add] at y0
                have ea : (⟨g2, 0, none⟩ : Addr).add k = ⟨g2, k, none⟩ := by simpa using addr_add g2 0 k
                have hki : (k : Int) < (1 : Int) := by omega
                have hw1 : IntKind.i64.wrap ((k : Int) + 1) = (k : Int) + 1 := IntWalk.i64_in _ (by omega)
                have ht1 : ((k : Int) + 1).toNat = k + 1 := by omega
                have hkc : k + 1 ≤ cap := by omega
                have fin : stopAt L most k → Ending.returned (.tuple #[.slice (some ⟨g2, 0, none⟩) (k + 1) (k + 1), .bool true, .int .i64 0]) = Ending.returned (.tuple #[.slice (some ⟨g2, 0, none⟩) (takeL t way next most).length (k + 1), .bool (takeO t way next most), .int .i64 (takeE t way most)]) ∧ OwnI wr w.heap.size (some ⟨g2, 0, none⟩) (takeL t way next most).length (k + 1) (takeL t way next most) := fun h => by
                  obtain ⟨e1, e2⟩ := KC.out k (by omega) h NO.out
                  have e3 : (L.take (k + 1)).length = k + 1 := by simp; omega
                  rw [e1, e2, E.out, e3]
                  refine ⟨rfl, e3, ?_⟩
                  rcases (OI.out.below hb).2 with ⟨h, _⟩ | ⟨g, cur, hA, h1, h2, h3, h4, h5⟩
                  · cases h
                  · refine .inr ⟨g, cur, hA, h1, h2, Nat.le_refl _, by omega, ?_⟩
                    have h6 : (cur.toList.take 1).take (k + 1) = (I64 L).take (k + 1) := by rw [h5]
                    rw [List.take_take, show min (k + 1) 1 = k + 1 by omega] at h6
                    rw [h6]
                    simp [I64]
                have FIN := Lib.hid fin
                have nx : ¬ stopAt L most k → ∀ j, j < k + 1 → ¬ stopAt L most j := fun h j hj => by
                  rcases Nat.lt_or_ge j k with h2 | h2
                  · exact NO.out j h2
                  · obtain rfl : j = k := by omega
                    exact h
                have NX := Lib.hid nx
                clear fin nx KC KA
                by_cases e1 : wv L k = 0
                · have F := Lib.hid (FIN.out (.inl e1))
                  rw [e1] at y0
                  clear FIN NX
                  go_wp2
                  go_returns
                  exact ⟨_, _, F.out.1, F.out.2, hb6⟩
                · have hz0 : (wv L k == 0) = false := by simpa using e1
                  by_cases e2 : (k : Int) + 1 = most
                  · have F := Lib.hid (FIN.out (.inr e2))
                    subst e2
                    clear FIN NX e1
                    generalize wv L k = z at *
                    go_wp2
                    go_returns
                    exact ⟨_, _, F.out.1, F.out.2, hb6⟩
                  · have N1 := Lib.hid (NX.out (fun h => h.elim e1 e2))
                    have hne : ((k : Int) + 1 == most) = false := by simpa using e2
                    clear FIN NX e1 e2
                    generalize wv L k = z at *
                    go_wp2
                    go_roundw
                    case rel => exact ⟨k + 1, rfl, by omega, by go_num, N1.out, hb⟩
                    case measure => simp [intOf]; omega
              · obtain rfl : k = 1 := by omega
                obtain ⟨e1, e2⟩ := KA.out (fun i hi => NO.out i (by omega))
                have fin : Ending.returned (.tuple #[.slice (some ⟨g2, 0, none⟩) 1 cap, .bool false, .int .i64 0]) = Ending.returned (.tuple #[.slice (some ⟨g2, 0, none⟩) (takeL t way next most).length cap, .bool (takeO t way next most), .int .i64 (takeE t way most)]) ∧ OwnI wr w.heap.size (some ⟨g2, 0, none⟩) (takeL t way next most).length cap (takeL t way next most) := by
                  rw [e1, e2, E.out, hlm]
                  exact ⟨rfl, OI.out.below hb⟩
                have F := Lib.hid fin
                clear e1 e2 fin KA KC
                go_wp2
                go_returns
                exact ⟨_, _, F.out.1, F.out.2, hb6⟩
        · have HZ := Lib.hid (fun u hu => (hz1 u hu).2)
          clear hz1
          go_wp2
          generalize o + 1 = o' at *
          go_loopw [8, 13, 30] (fun v _ i wr => ∃ k : Nat, k ≤ m - 1 ∧ i = .int .i64 (k : Int) ∧ wr.ownsRow w.heap.size 3 1 v k (I64 ((wayTk t way).take k)) ∧ Below w.heap.size w wr) (fun _ _ i _ => m - 1 - (intOf i).toNat)
          case atStart => exact ⟨0, by omega, rfl, World.ownsRow_nil _ _ _ _, hb2⟩
          case round =>
            clear hb2 hb
            obtain ⟨k, hk, rfl, ho, hb⟩ := hrel
            obtain ⟨va, vc, rfl, _, _⟩ := own_rd ho
            by_cases hlt : k < m - 1
            · have y0 := (HZ.out _ hb).i64At k (by simp; omega)
              have hg : (way.drop 1)[k]'(by simp; omega) = wv way (k + 1) := by rw [List.getElem_drop, wv_get way (1 + k) (by omega), Nat.add_comm]
              rw [hg] at y0
              obtain ⟨h1, h2, _, _⟩ := WW.out.2 (k + 1) (by omega)
              have T1 := Lib.hid (List.take_succ_eq_append_getElem (show k < (wayTk t way).length by simp [wayTk]; omega))
              rw [wayTk_get t way k (by omega)] at T1
              obtain ⟨v, hv⟩ : ∃ v : Nat, wv way (k + 1) = (v : Int) := ⟨(wv way (k + 1)).toNat, by omega⟩
              rw [hv] at y0 T1 h2
              rw [Int.toNat_natCast] at T1
              obtain ⟨b', o2, rfl, u0, u1, u2⟩ := (hx.below hb).nd v (by omega)
              have ea := addr_add b o' k
              have eb := addr_add b' o2 (v * 3)
              have eb1 := addr_add b' (o2 + v * 3) 1
              have hvn : (v : Int) < (n : Int) := by omega
              have hkl : (k : Int) < ((m - 1 : Nat) : Int) := by omega
              clear hg hv h1
              generalize tk t v = z at *
              go_wp2_with (at_builtin; refine app (w0 := w) w.heap.size rfl _ _ 23 3 (.int .i64 0) 1 8 rfl Tryd.underlying23 info3 rfl (by decide) (by decide) (.slice va k vc) k (I64 ((wayTk t way).take k)) #[.int .i64 z] rfl rfl rfl (by simp [Value.oneCell']) ho hb hb.size (by omega) ?_; intro g2 cap w5 ow hb5 hg5 hat5)
              go_roundw
              case rel =>
                refine ⟨k + 1, by omega, by go_num, ?_, hb5⟩
                rw [T1.out, ← I64_snoc]
                exact ow
              case measure => simp [intOf]; omega
            · obtain rfl : k = m - 1 := by omega
              rw [List.take_of_length_le (by simp [wayTk]; omega)] at ho
              have hge : ¬ ((m - 1 : Nat) : Int) < ((m - 1 : Nat) : Int) := by omega
              go_wp2_with (at_builtin; refine app (w0 := w) w.heap.size rfl _ _ 23 3 (.int .i64 0) 1 8 rfl Tryd.underlying23 info3 rfl (by decide) (by decide) (.slice va (m - 1) vc) (m - 1) (I64 (wayTk t way)) #[.int .i64 next] rfl rfl rfl (by simp [Value.oneCell']) ho hb hb.size (by omega) ?_; intro g2 cap w5 ow hb5 hg5 hat5)
              have ow' : w5.ownsRow w.heap.size 3 1 (.slice (some ⟨g2, 0, none⟩) m cap) m (I64 (takeFull t way next)) := by
                have := ow
                rw [show m - 1 + 1 = m by omega] at this
                rwa [show I64 (wayTk t way) ++ (#[Value.int .i64 next] : Array Value).toList = I64 (takeFull t way next) by simp [I64, takeFull]] at this
              have hLl := takeFull_length (t := t) (next := next) (show 0 < way.length by omega)
              have hcap : m ≤ cap := by
                obtain ⟨_, _, he, hc, _⟩ := own_rd ow'
                injection he with _ _ he
                omega
              have OI := Lib.hid (OwnI.of_row ow')
              have RD := own_rdA ow'
              have KA := Lib.hid (take_all (next := next) KK.out)
              have KC := Lib.hid (fun i => take_cut (i := i) (next := next) KK.out)
              clear ow ow' ho hb hg5 hat5
              generalize takeFull t way next = L at *
              rw [show m - 1 + 1 = m by omega]
              have hlm : L.length = m := by omega
              go_loopw [8, 14, 15, 49] (fun v8 _ _ i wr => ∃ k : Nat, v8 = .slice (some ⟨g2, 0, none⟩) m cap ∧ k ≤ m ∧ i = .int .i64 (k : Int) ∧ (∀ j, j < k → ¬ stopAt L most j) ∧ Below w5.heap.size w5 wr) (fun _ _ _ i _ => m - (intOf i).toNat)
              case atStart => exact ⟨0, rfl, by omega, rfl, by omega, Below.refl _ _⟩
              case round =>
                obtain ⟨k, rfl, hk, rfl, hno, hb⟩ := hrel
                have NO := Lib.hid hno
                clear hno
                have hb6 := bthen hb5 hb
                by_cases hlt : k < m
                · have y0 := (RD.below hb).i64At k (by omega)
                  rw [wv_get L k (by omega), Nat.zero_add] at y0
                  have ea : (⟨g2, 0, none⟩ : Addr).add k = ⟨g2, k, none⟩ := by simpa using addr_add g2 0 k
                  have hki : (k : Int) < (m : Int) := by omega
                  have hw1 : IntKind.i64.wrap ((k : Int) + 1) = (k : Int) + 1 := IntWalk.i64_in _ (by omega)
                  have ht1 : ((k : Int) + 1).toNat = k + 1 := by omega
                  have hkc : k + 1 ≤ cap := by omega
                  have fin : stopAt L most k → Ending.returned (.tuple #[.slice (some ⟨g2, 0, none⟩) (k + 1) (k + 1), .bool true, .int .i64 0]) = Ending.returned (.tuple #[.slice (some ⟨g2, 0, none⟩) (takeL t way next most).length (k + 1), .bool (takeO t way next most), .int .i64 (takeE t way most)]) ∧ OwnI wr w.heap.size (some ⟨g2, 0, none⟩) (takeL t way next most).length (k + 1) (takeL t way next most) := fun h => by
                    obtain ⟨e1, e2⟩ := KC.out k (by omega) h NO.out
                    have e3 : (L.take (k + 1)).length = k + 1 := by simp; omega
                    rw [e1, e2, E.out, e3]
                    refine ⟨rfl, e3, ?_⟩
                    rcases (OI.out.below hb).2 with ⟨h, _⟩ | ⟨g, cur, hA, h1, h2, h3, h4, h5⟩
                    · cases h
                    · refine .inr ⟨g, cur, hA, h1, h2, Nat.le_refl _, by omega, ?_⟩
                      have h6 : (cur.toList.take m).take (k + 1) = (I64 L).take (k + 1) := by rw [h5]
                      rw [List.take_take, show min (k + 1) m = k + 1 by omega] at h6
                      rw [h6]
                      simp [I64]
                  have FIN := Lib.hid fin
                  have nx : ¬ stopAt L most k → ∀ j, j < k + 1 → ¬ stopAt L most j := fun h j hj => by
                    rcases Nat.lt_or_ge j k with h2 | h2
                    · exact NO.out j h2
                    · obtain rfl : j = k := by omega
                      exact h
                  have NX := Lib.hid nx
                  clear fin nx KC KA
                  by_cases e1 : wv L k = 0
                  · have F := Lib.hid (FIN.out (.inl e1))
                    rw [e1] at y0
                    clear FIN NX
                    go_wp2
                    go_returns
                    exact ⟨_, _, F.out.1, F.out.2, hb6⟩
                  · have hz0 : (wv L k == 0) = false := by simpa using e1
                    by_cases e2 : (k : Int) + 1 = most
                    · have F := Lib.hid (FIN.out (.inr e2))
                      subst e2
                      clear FIN NX e1
                      generalize wv L k = z at *
                      go_wp2
                      go_returns
                      exact ⟨_, _, F.out.1, F.out.2, hb6⟩
                    · have N1 := Lib.hid (NX.out (fun h => h.elim e1 e2))
                      have hne : ((k : Int) + 1 == most) = false := by simpa using e2
                      clear FIN NX e1 e2
                      generalize wv L k = z at *
                      go_wp2
                      go_roundw
                      case rel => exact ⟨k + 1, rfl, by omega, by go_num, N1.out, hb⟩
                      case measure => simp [intOf]; omega
                · obtain rfl : m = k := by omega
                  obtain ⟨e1, e2⟩ := KA.out (fun i hi => NO.out i (by omega))
                  have fin : Ending.returned (.tuple #[.slice (some ⟨g2, 0, none⟩) m cap, .bool false, .int .i64 0]) = Ending.returned (.tuple #[.slice (some ⟨g2, 0, none⟩) (takeL t way next most).length cap, .bool (takeO t way next most), .int .i64 (takeE t way most)]) ∧ OwnI wr w.heap.size (some ⟨g2, 0, none⟩) (takeL t way next most).length cap (takeL t way next most) := by
                    rw [e1, e2, E.out, hlm]
                    exact ⟨rfl, OI.out.below hb⟩
                  have F := Lib.hid fin
                  clear e1 e2 fin KA KC
                  go_wp2
                  go_returns
                  exact ⟨_, _, F.out.1, F.out.2, hb6⟩
    · rw [decide_eq_false hW]
      have N := Lib.hid (take_no (next := next) (fun h : okK t way most => hW h.2.1))
      have E := Lib.hid (take_e1 (most := most) hT hW)
      clear hT hW
      go_wp2
      go_returns
      exact ⟨none, 0, by rw [N.out.1, N.out.2, E.out]; rfl, by rw [N.out.1]; exact OwnI.nil _ _, hb2⟩
  · rw [errT_bad hT]
    have N := Lib.hid (take_no (next := next) (fun h : okK t way most => hT h.1))
    have E := Lib.hid (take_e0 (way := way) (most := most) hT)
    clear hT
    go_wp2
    go_returns
    exact ⟨none, 0, by rw [N.out.1, N.out.2, E.out]; rfl, by rw [N.out.1]; exact OwnI.nil _ _, hb⟩
end Go.Proofs.YtlcgkdhcdldlfaaDoor
