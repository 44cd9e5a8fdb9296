import Derived.Test.YtlcgkdhcdldlfaaDoorExactA
namespace Go.Proofs.YtlcgkdhcdldlfaaDoor
open Go.RowKit

/-- what is chosen behind each node -/
def chosenL (seed : Int) (v : Nat) (known : List Int) (t : List Nd) : List Int := (List.range t.length).map fun i => chooseF seed v (known ++ behindL t i)
theorem chosenL_length (seed : Int) (v : Nat) (known : List Int) (t : List Nd) : (chosenL seed v known t).length = t.length := by simp [chosenL]
theorem chosenL_take (seed : Int) (v : Nat) (known : List Int) (t : List Nd) (k : Nat) (h : k < t.length) : (chosenL seed v known t).take (k + 1) = (chosenL seed v known t).take k ++ [chooseF seed v (known ++ behindL t k)] := by
  rw [List.take_succ_eq_append_getElem (by rw [chosenL_length]; exact h)]
  simp [chosenL]
theorem chosenL_get (seed : Int) (v : Nat) (known : List Int) (t : List Nd) (k : Nat) (h : k < t.length) : chv (chosenL seed v known t) k = chooseF seed v (known ++ behindL t k) := by
  simp [chv, chosenL, h]

set_option maxRecDepth 100000 in
set_option maxHeartbeats 8000000 in
/-- JudgeExact -/
theorem judgeExact_any (A B : Option Addr) (n c m d : Nat) (seed size most : Int) (known : List Int) (r : List RNd) (w : World) (ht : Table w) (hs : InU seed) (hl : known.length = n) (hm : n * 8 ≤ 140737488351232) (hx : Rd w A (I64 known)) (hl2 : r.length = m) (hm2 : m ≤ 140737488355328) (hy : Rd w B (PR r)) :
    Calls Tryd.prog 3 #[.int .u64 seed, .int .i64 size, .slice A n c, .slice B m d, .int .i64 most] w fun e w' => e = .returned (.bool true) ∧ Below w.heap.size w w' := by
  go_enter Tryd.func3, Tryd.ntmps3
  go_wp2_with fail
  refine (works_any w).mono ?_
  rintro e w1 ⟨rfl, hb⟩
  go_wp2_with fail
  refine (few_any size w1).mono ?_
  rintro e w1' ⟨v, hv2, hv9, rfl, rfl⟩
  by_cases h96 : 96 < m
  · go_wp2_with fail
    refine (clean_long B m d 3 (v : Int) w1 h96 hm2).mono ?_
    rintro e w2 ⟨rfl, hb1⟩
    replace hb := bthen hb hb1
    go_wp2
    go_returns
    exact ⟨rfl, hb⟩
  · have hT := cleanT_tree 3 r (v : Int)
    have hwf := wfN_clean 3 r (v : Int) (by decide) (by omega)
    go_wp2_with fail
    refine (clean_any B m d 3 r (v : Int) w1 hl2 (by omega) (hy.below hb)).mono ?_
    rintro e w2 ⟨u, rfl, ot, hb1⟩
    replace ot := own_base ot hb.size
    replace hb := bthen hb hb1
    obtain ⟨tA, tc, rfl, _, _⟩ := own_rd ot
    have h32 := hT.2.1
    have hT0 := hT.1
    clear hb1 hy
    generalize cleanT 3 r (v : Int) = t at *
    generalize hq : t.length = q at *
    have HT := Lib.hid hT
    have HWF := Lib.hid hwf
    have HQ := Lib.hid hq
    clear hT hwf hq
    by_cases hmost : most < 1
    · go_wp2
      go_returns
      exact ⟨rfl, hb⟩
    · have HL := Lib.hid hl
      have CL := Lib.hid (chosenL_length seed v known t)
      have CT := Lib.hid (fun k h => chosenL_take seed v known t k h)
      have CG := Lib.hid (fun k h => chosenL_get seed v known t k h)
      clear hl
      generalize chosenL seed v known t = ch at *
      go_wp2
      go_loopw [15, 16, 17] (fun u i _ wr => ∃ k : Nat, k ≤ q ∧ i = .int .i64 (k : Int) ∧ wr.ownsRow w.heap.size 3 1 u k (I64 (ch.take k)) ∧ wr.ownsRow w.heap.size 42 3 (.slice tA q tc) q (NC t) ∧ Below w.heap.size w wr) (fun _ i _ _ => q - (intOf i).toNat)
      case atStart => exact ⟨0, by omega, rfl, World.ownsRow_nil _ _ _ _, ot, hb⟩
      case round =>
        clear ot hb
        obtain ⟨k, hk, rfl, ou, ot, hb⟩ := hrel
        have rt := own_rdA ot
        obtain ⟨uA, uc, rfl, huc, _⟩ := own_rd ou
        by_cases hlt : k < q
        · have g1 : (k : Int) < (q : Int) := by omega
          go_wp2_with fail
          refine (behind_any A tA n c q tc k known t wr HL.out hm (hx.below hb) HT.out HQ.out hlt rt).mono ?_
          rintro e w3 ⟨z, rfl, oz, hb1⟩
          have bl := behindL_len HT.out (i := k) (by rw [HQ.out]; exact hlt)
          have ot3 := own_below ot hb1
          have ou3 := own_below ou hb1
          replace hb := bthen hb hb1
          obtain ⟨zA, zc, rfl, _, _⟩ := own_rd oz
          have rz := own_rdA oz
          have CTk := Lib.hid (CT.out k (by rw [HQ.out]; exact hlt))
          have zl : (known ++ behindL t k).length ≤ 140737488355328 := by rw [List.length_append, HL.out]; omega
          have C9 := chooseF_in seed v hv9 (known ++ behindL t k)
          clear oz hb1
          generalize known ++ behindL t k = tx at *
          go_wp2_with fail
          refine (chooses_any zA tx.length zc v seed tx w3 hs hv9 rfl zl rz (ht.below hb)).mono ?_
          rintro e w4 ⟨rfl, hb1⟩
          replace ot3 := own_below ot3 hb1
          replace ou3 := own_below ou3 hb1
          replace hb := bthen hb hb1
          generalize chooseF seed v tx = x at *
          go_wp2_with (at_builtin; refine app (w0 := w) w.heap.size rfl _ _ 23 3 (.int .i64 0) 1 8 rfl Tryd.underlying23 info3 rfl (by decide) (by decide) (.slice uA k uc) k (I64 (ch.take k)) #[.int .i64 x] rfl rfl rfl (by simp [Value.oneCell']) ou3 hb hb.size (by omega) ?_; intro g cap w5 ow hb5 hg5 _)
          go_roundw
          case rel => exact ⟨k + 1, by omega, by go_num, by rw [CTk.out, ← I64_snoc]; exact ow, ot3.kept hg5 (own_type_ne ot3 ou3 (by decide)), hb5⟩
          case measure => simp [intOf]; omega
        · obtain rfl : k = q := by omega
          have hF : ∀ i, i < t.length → chv ch i = chooseF seed v (known ++ behindL t i) := CG.out
          have chl := CL.out
          rw [List.take_of_length_le (by rw [chl, HQ.out]; omega)] at ou
          have rc := own_rdA ou
          obtain ⟨M, RP⟩ := replay (most := most) HT.out chl (by omega) hF
          have RPH := Lib.hid RP
          have CLH := Lib.hid (chl.trans HQ.out)
          clear CT CG hF ou RP chl
          go_wp2_with fail
          refine (walk_any tA uA k tc k uc t ch wr HQ.out (by omega) rt HWF.out CLH.out (by omega) rc).mono ?_
          rintro e w3 ⟨pv, rfl, op, hb1⟩
          obtain ⟨pA, pc, rfl, hpc, _⟩ := own_rd op
          have rp := own_rdA op
          have eE : walkE t ch = 0 := by unfold walkE; rw [if_pos HT.out, if_pos CL.out]
          have okw : okW t ch := ⟨HT.out, CL.out⟩
          have eL : walkL t ch = nats (way t ch) := if_pos okw
          have IW : isWay t (walkL t ch) := by rw [eL]; exact way_isWay HT.out
          have eT : takeE t (walkL t ch) most = 0 := take_e3 HT.out IW (by omega)
          have wl := way_short HT.out IW
          rw [HQ.out] at wl
          rw [eE]
          replace ot := own_below ot hb1
          replace rt := rt.below hb1
          replace hb := bthen hb hb1
          have ETH := Lib.hid eT
          clear op hb1 eE okw eL IW eT rc
          generalize walkL t ch = wL at *
          generalize walkN t ch = wN at *
          go_wp2_with fail
          refine (take_any tA pA k tc wL.length pc t wL wN most w3 HQ.out (by omega) rt HWF.out rfl (by omega) hpc rp).mono ?_
          rintro e w4 ⟨lA, lc, rfl, ol, hb1⟩
          rw [ETH.out]
          have rl := ol.rd
          replace rt := rt.below hb1
          replace hb := bthen hb hb1
          clear ol hb1 rp ETH ot
          generalize takeL t wL wN most = L at *
          generalize takeO t wL wN most = O at *
          have lp := RPH.out.pos
          have ls := RPH.out.small
          have le := RPH.out.le
          have Ml := RPH.out.mlt
          have lne : ((L.length : Int) == 0) = false := by rw [beq_eq_false_iff_ne]; omega
          generalize hK : L.length = K at *
          have HK := Lib.hid hK
          clear hK
          go_wp2_with fail
          refine (copyInts_any A n c known HL.out (by omega) w4 (hx.below hb)).mono ?_
          rintro e w5 ⟨u, rfl, ou, hb1⟩
          clear lne
          go_wp2
          go_loopw [24, 25, 26, 27, 28, 29, 30] (fun u rg at' st i _ _ wr => ∃ j : Nat, j ≤ K ∧ i = .int .i64 (j : Int) ∧ wr.ownsRow w4.heap.size 3 1 u (n + j) (I64 (known ++ L.take j)) ∧ rg = .int .i64 ((min j M : Nat) : Int) ∧ at' = .int .i64 (gv (way t ch) (min j M) : Int) ∧ st = .bool (decide (0 < j ∧ wv L (j - 1) = 0)) ∧ Below w4.heap.size w4 wr) (fun _ _ _ _ i _ _ _ => K - (intOf i).toNat)
          case atStart =>
            refine ⟨0, by omega, rfl, by simpa using ou, by simp, ?_, rfl, hb1⟩
            rw [Nat.zero_min, way_zero]
            rfl
          case round =>
            clear ou hb1
            obtain ⟨j, hj, rfl, ou, rfl, rfl, rfl, hb1⟩ := hrel
            obtain ⟨uA, uc, rfl, _, _⟩ := own_rd ou
            by_cases hlt : j < K
            · have g1 : (j : Int) < (K : Int) := by omega
              have hst : decide (0 < j ∧ wv L (j - 1) = 0) = false := decide_eq_false (fun h => RPH.out.goes (j - 1) (by have := h.1; rw [HK.out]; omega) h.2)
              rw [hst]
              obtain ⟨b, o, rfl, y0⟩ := (rl.below hb1).i64 j (by rw [HK.out]; exact hlt)
              rw [wv_get L j (by rw [HK.out]; exact hlt)] at y0
              have ea := addr_add b o j
              have SAY := Lib.hid (RPH.out.says j (by rw [HK.out]; exact hlt))
              have MORE := Lib.hid (RPH.out.more j (by rw [HK.out]; exact hlt))
              have ENDS := Lib.hid (RPH.out.ends j (by rw [HK.out]; exact hlt))
              have TK := Lib.hid (show L.take (j + 1) = L.take j ++ [wv L j] by rw [List.take_succ_eq_append_getElem (by rw [HK.out]; exact hlt), wv_get L j (by rw [HK.out]; exact hlt)])
              have tl : (known ++ L.take j).length = n + j := by rw [List.length_append, List.length_take, HL.out, HK.out]; omega
              clear hst
              go_wp2_with fail
              refine (chooses_any uA (n + j) uc v seed (known ++ L.take j) wr hs hv9 tl (by omega) (own_rdA ou) ((ht.below hb).below hb1)).mono ?_
              rintro e w6 ⟨rfl, hb2⟩
              rw [← SAY.out]
              replace ou := own_below ou hb2
              have y1 : w6.cell? ⟨b, o + j, none⟩ = _ := (hb2.cell (p := ⟨b, o + j, none⟩) (World.block_lt_of_cell? wr _ y0)).trans y0
              replace hb1 := bthen hb1 hb2
              clear y0 hb2 tl
              generalize hwx : wv L j = x at *
              have HX := Lib.hid (show (x == 0) = decide (0 < j + 1 ∧ wv L (j + 1 - 1) = 0) by
                rw [Nat.add_sub_cancel, hwx]
                by_cases h : x = 0 <;> simp [h])
              clear hwx
              have hxx : (x != x) = false := by simp
              go_wp2_with (at_builtin; refine app (w0 := w4) w4.heap.size rfl _ _ 23 3 (.int .i64 0) 1 8 rfl Tryd.underlying23 info3 rfl (by decide) (by decide) (.slice uA (n + j) uc) (n + j) (I64 (known ++ L.take j)) #[.int .i64 x] rfl rfl rfl (by simp [Value.oneCell']) ou hb1 hb1.size (by omega) ?_; intro g cap w7 ow hb7 _ _)
              have ow2 : w7.ownsRow w4.heap.size 3 1 (.slice (some ⟨g, 0, none⟩) (n + j + 1) cap) (n + (j + 1)) (I64 (known ++ L.take (j + 1))) := by
                rw [TK.out, ← List.append_assoc, ← I64_snoc]
                exact ow
              clear ow ou y1 hb1 hxx
              generalize hgA : gv (way t ch) (min j M) = ga at *
              have HGA := Lib.hid hgA
              clear hgA
              go_wp2_with fail
              refine (kid_any tA k tc ga x t w7 HT.out HQ.out (rt.below hb7)).mono ?_
              rintro e w8 ⟨rfl, hb2⟩
              replace ow2 := own_below ow2 hb2
              replace hb7 := bthen hb7 hb2
              clear hb2
              by_cases hjM : j < M
              · have mn : min j M = j := by omega
                have GN := Lib.hid (show min (j + 1) M = j + 1 by omega)
                have ga1 := HGA.out
                rw [mn] at ga1
                have hk := MORE.out hjM
                rw [ga1] at hk
                have hpos := (kid_above HT.out hk).1
                have hk0 := kid0_some hk
                rw [hk0, mn]
                generalize hnk : gv (way t ch) (j + 1) = nk at *
                have HNK := Lib.hid hnk
                have g2 : (0 : Int) < (nk : Int) := by omega
                clear hnk hk0 hk ga1 mn
                go_wp2
                go_roundw
                case rel => exact ⟨j + 1, by omega, by go_num, ow2, by rw [GN.out]; go_num, by rw [GN.out, HNK.out], by rw [HX.out], hb7⟩
                case measure => simp [intOf]; omega
              · obtain rfl : j = M := by omega
                have GN := Lib.hid (show min (j + 1) j = min j j by omega)
                have ga1 := HGA.out
                rw [Nat.min_self] at ga1
                have hk := ENDS.out rfl
                rw [ga1] at hk
                have hk0 := kid0_none hk
                rw [hk0]
                clear hk0 hk ga1
                go_wp2
                go_roundw
                case rel => exact ⟨j + 1, by omega, by go_num, ow2, by rw [GN.out, Nat.min_self], by rw [GN.out, HGA.out], by rw [HX.out], hb7⟩
                case measure => simp [intOf]; omega
            · obtain rfl : j = K := by omega
              have OV := RPH.out.over
              have LN := RPH.out.len
              rw [HK.out] at OV LN
              have hst : decide (0 < j ∧ wv L (j - 1) = 0) = decide (wv L (j - 1) = 0) := by simp [lp]
              rw [hst]
              have hgx : ¬ (j : Int) < (j : Int) := by omega
              have hw1 : IntKind.i64.wrap (((min j M : Nat) : Int) + 1) = ((min j M : Nat) : Int) + 1 := IntWalk.i64_in _ (by omega)
              have LNH := Lib.hid LN
              have OVH := Lib.hid OV
              clear LN OV hst
              generalize decide (wv L (j - 1) = 0) = sb at *
              generalize min j M = mm at *
              go_wp2_with fail
              ((with_reducible refine (least_any _ _ _).mono ?_); rintro e w6 ⟨rfl, rfl⟩)
              rw [← LNH.out]
              have hb2 := bthen hb hb1
              have OE := OVH.out
              subst OE
              clear hgx hw1
              have f1 : ((j : Int) == (j : Int)) = true := by simp
              by_cases hjm : (j : Int) = most
              · have f2 : ((j : Int) == most) = true := by simpa using hjm
                rw [decide_eq_true hjm, Bool.or_true]
                clear hjm
                cases sb
                all_goals
                  go_wp2
                  go_returns
                  exact ⟨rfl, hb2⟩
              · have f2 : ((j : Int) == most) = false := by simpa using hjm
                rw [decide_eq_false hjm, Bool.or_false]
                clear hjm
                cases sb
                all_goals
                  go_wp2
                  go_returns
                  exact ⟨rfl, hb2⟩
end Go.Proofs.YtlcgkdhcdldlfaaDoor
