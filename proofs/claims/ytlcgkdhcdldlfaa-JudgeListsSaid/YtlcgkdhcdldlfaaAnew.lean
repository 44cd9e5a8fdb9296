import Derived.Test.YtlcgkdhcdldlfaaBook
import Derived.Deep.DeepCutAuto
namespace Go.Proofs.Ytlcgkdhcdldlfaa
open Go.RowKit

theorem OwnI.grown {w w1 : World} {base n c : Nat} {A : Option Addr} {xs : List Int} {r : Option Nat} (h : OwnI w base A n c xs) (hg : w.grownBy w1 r) (hr : ∀ g, blk A = Option.some g → r ≠ Option.some g) : OwnI w1 base A n c xs := by
  refine ⟨h.1, ?_⟩
  rcases h.2 with h | ⟨g, cur, h1, h2, h3, h4⟩
  · exact .inl h
  · exact .inr ⟨g, cur, h1, h2, h3.kept hg (fun he => hr g (by rw [h1]; rfl) he.symm), h4⟩
theorem OwnI.lt {w : World} {base n c : Nat} {A : Option Addr} {xs : List Int} (h : OwnI w base A n c xs) : ∀ g, blk A = Option.some g → base ≤ g ∧ g < w.heap.size := by
  intro g hg
  rcases h.2 with ⟨h1, _⟩ | ⟨g', cur, h1, h2, h3, h4⟩
  · rw [h1] at hg; cases hg
  · rw [h1] at hg
    obtain rfl : g' = g := by simpa [blk] using hg
    exact ⟨h2, h3.lt⟩
theorem OwnI.cap {w : World} {base n c : Nat} {A : Option Addr} {xs : List Int} (h : OwnI w base A n c xs) : n ≤ c := by
  rcases h.2 with ⟨_, h1, h2⟩ | ⟨g', cur, _, _, _, h4, _⟩ <;> omega
theorem WfI.rev {l : List Int} (h : WfI l) : WfI l.reverse := fun x hx => h x (List.mem_reverse.1 hx)

set_option maxRecDepth 100000 in
set_option maxHeartbeats 4000000 in
/-- anew -/
theorem anew_any (A B C D : Option Addr) (n c m d q c3 p c4 : Nat) (t : List Nd) (ch sl go : List Int) (most : Int) (w : World) (hl : t.length = n) (hm : n * 24 ≤ 140737488351232) (hx : Rd w A (NC t)) (hwf : WfN t)
    (hl2 : ch.length = m) (hm2 : m * 8 ≤ 140737488351232) (hy : Rd w B (I64 ch)) (hl3 : sl.length = q) (hm3 : q * 8 ≤ 140737488351232) (hs : Rd w C (I64 sl)) (hl4 : go.length = p) (hm4 : p * 8 ≤ 140737488351232) (hg : Rd w D (I64 go)) (hwg : WfI go) :
    Calls Try.prog 27 #[.slice A n c, .slice B m d, .slice C q c3, .slice D p c4, .int .i64 most] w fun e w' => e = .returned (.bool true) ∧ Below w.heap.size w w' := by
  go_enter Try.func27, Try.ntmps27
  go_wp2_with fail
  refine (copyInts_any B m d ch hl2 (by omega) w hy).mono ?_
  rintro e w1 ⟨v, rfl, ov, hb⟩
  obtain ⟨xA, xc, rfl, _, _⟩ := own_rd ov
  have ox := OwnI.of_row ov
  clear ov
  go_wp2_with fail
  refine (walk_any A xA n c m xc t ch w1 hl hm (hx.below hb) hwf hl2 hm2 ox.rd).mono ?_
  rintro e w2 ⟨v2, rfl, _, hb2⟩
  replace hb := bthen hb hb2
  replace ox := ox.below hb2
  clear hb2
  go_wp2_with fail
  refine (turned_any xA m xc w.heap.size ch w2 ox (by omega)).mono ?_
  rintro e w3 ⟨rfl, hg3, ox3⟩
  replace hb : Below w.heap.size w w3 := hb.grown hg3 hb.size (fun j hj => (ox.lt j hj).1)
  clear ox hg3
  have hl2' : ch.reverse.length = m := by simpa using hl2
  generalize ch.reverse = rch at *
  go_wp2_with fail
  refine (copyInts_any xA m xc rch hl2' (by omega) w3 ox3.rd).mono ?_
  rintro e w4 ⟨v, rfl, ov, hb4⟩
  obtain ⟨zA, zc, rfl, _, _⟩ := own_rd ov
  have rz := own_rdA ov
  replace hb := bthen hb hb4
  replace ox3 := ox3.below hb4
  clear ov hb4
  go_wp2_with fail
  refine (refWalk_any A zA n c m zc t rch w4 hl hm (hx.below hb) hl2' hm2 rz).mono ?_
  rintro e w5 ⟨v, rfl, ov, hb4⟩
  obtain ⟨wA, wc, rfl, _, _⟩ := own_rd ov
  have rw' := own_rdA ov
  replace hb := bthen hb hb4
  replace ox3 := ox3.below hb4
  clear ov hb4 rz
  go_wp2_with fail
  refine (walk_any A xA n c m xc t rch w5 hl hm (hx.below hb) hwf hl2' hm2 ox3.rd).mono ?_
  rintro e w6 ⟨v, rfl, ov, hb4⟩
  obtain ⟨uA, uc, rfl, _, _⟩ := own_rd ov
  have ru := own_rdA ov
  replace hb := bthen hb hb4
  replace rw' := rw'.below hb4
  have hlen := walkL_len t rch
  clear ov hb4 ox3
  generalize walkL t rch = L at *
  generalize walkN t rch = N at *
  generalize walkE t rch = E at *
  go_wp2_with fail
  refine (eqInts_any uA wA L.length L.length uc wc L L rfl rfl (by omega) w6 ru rw').mono ?_
  rintro e w7 ⟨rfl, hb4⟩
  rw [decide_eq_true rfl]
  replace hb := bthen hb hb4
  replace rw' := rw'.below hb4
  clear hb4 ru
  go_wp2_with fail
  refine (copyInts_any wA L.length wc L rfl (by omega) w7 rw').mono ?_
  rintro e w8 ⟨v, rfl, ov, hb4⟩
  obtain ⟨yA, yc, rfl, _, _⟩ := own_rd ov
  have oy := OwnI.of_row ov
  have sz7 := hb.size
  replace hb := bthen hb hb4
  clear ov hb4 rw'
  go_wp2_with fail
  refine (copyInts_any C q c3 sl hl3 (by omega) w8 (hs.below hb)).mono ?_
  rintro e w9 ⟨v, rfl, ov, hb4⟩
  obtain ⟨sA, sc, rfl, _, _⟩ := own_rd ov
  have os := OwnI.of_row ov
  have yl : ∀ g, blk yA = some g → w7.heap.size ≤ g ∧ g < w8.heap.size := oy.lt
  have sz8 := hb4.size
  have t8 := hb.size
  replace hb := bthen hb hb4
  replace oy := oy.below hb4
  clear ov hb4
  go_wp2_with fail
  refine (copyInts_any D p c4 go hl4 (by omega) w9 (hg.below hb)).mono ?_
  rintro e w10 ⟨v, rfl, ov, hb4⟩
  obtain ⟨gA, gc, rfl, _, _⟩ := own_rd ov
  have og := OwnI.of_row ov
  have sl' : ∀ g, blk sA = some g → w8.heap.size ≤ g ∧ g < w9.heap.size := os.lt
  have sz9 := hb4.size
  have t9 := hb.size
  replace hb := bthen hb hb4
  replace oy := oy.below hb4
  replace os := os.below hb4
  clear ov hb4
  go_wp2_with fail
  refine (take_any A yA n c L.length yc t L N most w10 hl hm (hx.below hb) hwf rfl (by omega) oy.cap oy.rd).mono ?_
  rintro e w11 ⟨_, _, rfl, _, hb4⟩
  have gl : ∀ g, blk gA = some g → w9.heap.size ≤ g ∧ g < w10.heap.size := og.lt
  replace hb := bthen hb hb4
  replace oy := oy.below hb4
  replace os := os.below hb4
  replace og := og.below hb4
  clear hb4
  go_wp2_with fail
  refine (plan_any yA sA gA L.length yc q sc p gc L sl go w11 rfl (by omega) oy.rd hl3 os.rd hl4 hm4 og.rd hwg).mono ?_
  rintro e w12 ⟨_, _, rfl, _, hb4⟩
  replace hb := bthen hb hb4
  replace oy := oy.below hb4
  replace os := os.below hb4
  replace og := og.below hb4
  clear hb4
  go_upto_if 84 with fail
  go_cut [] (fun wx => ∃ L2 : List Int, L2.length = L.length ∧ OwnI wx w7.heap.size yA L.length yc L2 ∧ OwnI wx w8.heap.size sA q sc sl ∧ OwnI wx w9.heap.size gA p gc go ∧ Below w.heap.size w wx)
  case first =>
    by_cases h1 : 1 < L.length
    · obtain ⟨g, rfl, hgb, _⟩ := oy.some (by omega)
      obtain ⟨y0, y1⟩ := oy.cell (L.length - 1) (by omega)
      have ea : (⟨g, 0, none⟩ : Addr).add (L.length - 1) = ⟨g, L.length - 1, none⟩ := by simpa using addr_add g 0 (L.length - 1)
      have hw : IntKind.i64.wrap ((L.length : Int) - 1) = ((L.length - 1 : Nat) : Int) := by rw [IntWalk.i64_in _ (by omega)]; omega
      have hn : ((L.length - 1 : Nat) : Int) < (L.length : Int) := by omega
      have hgi : (1 : Int) < (L.length : Int) := by omega
      have yg := yl g rfl
      go_wp2
      go_meet
      refine ⟨L.set (L.length - 1) 0, by simp, oy.set _ _, os.grown (grown_set _ _ _ _) (fun g' hg' he => ?_), og.grown (grown_set _ _ _ _) (fun g' hg' he => ?_), hb.setCell (by simp; omega) _⟩
      · have := sl' g' hg'
        injection he with he
        omega
      · have := gl g' hg'
        injection he with he
        omega
    · have hgi : ¬ ((1 : Int) < (L.length : Int)) := by omega
      go_wp2
      go_meet
      exact ⟨L, rfl, oy, os, og, hb⟩
  case rest =>
    clear hb oy os og
    obtain ⟨L2, hL2, oy, os, og, hb⟩ := hcut
    go_wp2_with fail
    refine (turned_any sA q sc w8.heap.size sl wc os (by omega)).mono ?_
    rintro e w14 ⟨rfl, hg3, os2⟩
    replace oy := oy.grown hg3 (fun g hg he => by
      have := yl g hg
      have := sl' g he
      omega)
    replace og := og.grown hg3 (fun g hg he => by
      have := gl g hg
      have := sl' g he
      omega)
    replace hb : Below w.heap.size w w14 := hb.grown hg3 hb.size (fun j hj => by have := sl' j hj; omega)
    clear os hg3
    go_wp2_with fail
    refine (turned_any gA p gc w9.heap.size go w14 og (by omega)).mono ?_
    rintro e w15 ⟨rfl, hg3, og2⟩
    replace oy := oy.grown hg3 (fun g hg he => by
      have := yl g hg
      have := gl g he
      omega)
    replace os2 := os2.grown hg3 (fun g hg he => by
      have := sl' g hg
      have := gl g he
      omega)
    replace hb : Below w.heap.size w w15 := hb.grown hg3 hb.size (fun j hj => by have := gl j hj; omega)
    have hl3' : sl.reverse.length = q := by simpa using hl3
    have hl4' : go.reverse.length = p := by simpa using hl4
    have hwg' := hwg.rev
    clear og hg3 yl sl' gl sz7 sz8 sz9 t8 t9
    generalize sl.reverse = sl2 at *
    generalize go.reverse = go2 at *
    go_wp2_with fail
    refine (copyInts_any yA L.length yc L2 hL2 (by omega) w15 oy.rd).mono ?_
    rintro e w16 ⟨v, rfl, ov, hb4⟩
    obtain ⟨zA2, zc2, rfl, _, _⟩ := own_rd ov
    have rz := own_rdA ov
    replace hb := bthen hb hb4
    replace oy := oy.below hb4
    replace os2 := os2.below hb4
    replace og2 := og2.below hb4
    clear ov hb4
    go_wp2_with fail
    refine (refTake_any A zA2 n c L.length zc2 t L2 N most w16 hl hm (hx.below hb) hL2 (by omega) rz).mono ?_
    rintro e w17 ⟨kA, kc, rfl, ok, hb4⟩
    have rk := ok.rd
    replace hb := bthen hb hb4
    replace oy := oy.below hb4
    replace os2 := os2.below hb4
    replace og2 := og2.below hb4
    clear ok hb4 rz
    go_wp2_with fail
    refine (copyInts_any yA L.length yc L2 hL2 (by omega) w17 oy.rd).mono ?_
    rintro e w18 ⟨v, rfl, ov, hb4⟩
    obtain ⟨zA3, zc3, rfl, _, _⟩ := own_rd ov
    have rz := own_rdA ov
    replace hb := bthen hb hb4
    replace oy := oy.below hb4
    replace os2 := os2.below hb4
    replace og2 := og2.below hb4
    replace rk := rk.below hb4
    clear ov hb4
    go_wp2_with fail
    refine (copyInts_any sA q sc sl2 hl3' (by omega) w18 os2.rd).mono ?_
    rintro e w19 ⟨v, rfl, ov, hb4⟩
    obtain ⟨zA4, zc4, rfl, _, _⟩ := own_rd ov
    have rz4 := own_rdA ov
    replace hb := bthen hb hb4
    replace oy := oy.below hb4
    replace os2 := os2.below hb4
    replace og2 := og2.below hb4
    replace rk := rk.below hb4
    replace rz := rz.below hb4
    clear ov hb4
    go_wp2_with fail
    refine (copyInts_any gA p gc go2 hl4' (by omega) w19 og2.rd).mono ?_
    rintro e w20 ⟨v, rfl, ov, hb4⟩
    obtain ⟨zA5, zc5, rfl, _, _⟩ := own_rd ov
    have rz5 := own_rdA ov
    replace hb := bthen hb hb4
    replace oy := oy.below hb4
    replace os2 := os2.below hb4
    replace og2 := og2.below hb4
    replace rk := rk.below hb4
    replace rz := rz.below hb4
    replace rz4 := rz4.below hb4
    clear ov hb4
    go_wp2_with fail
    refine (refPlan_any zA3 zA4 zA5 L.length zc3 q zc4 p zc5 L2 sl2 go2 w20 hL2 (by omega) rz hl3' rz4 hl4' hm4 rz5).mono ?_
    rintro e w21 ⟨mA, mc, rfl, om, hb4⟩
    have rm := own_rdA om
    replace hb := bthen hb hb4
    replace oy := oy.below hb4
    replace os2 := os2.below hb4
    replace og2 := og2.below hb4
    replace rk := rk.below hb4
    clear om hb4 rz rz4 rz5
    go_wp2_with fail
    refine (take_any A yA n c L.length yc t L2 N most w21 hl hm (hx.below hb) hwf hL2 (by omega) oy.cap oy.rd).mono ?_
    rintro e w22 ⟨kA2, kc2, rfl, ok, hb4⟩
    have rk2 := ok.rd
    replace hb := bthen hb hb4
    replace oy := oy.below hb4
    replace os2 := os2.below hb4
    replace og2 := og2.below hb4
    replace rk := rk.below hb4
    replace rm := rm.below hb4
    clear ok hb4
    go_wp2_with fail
    refine (plan_any yA sA gA L.length yc q sc p gc L2 sl2 go2 w22 hL2 (by omega) oy.rd hl3' os2.rd hl4' hm4 og2.rd hwg').mono ?_
    rintro e w23 ⟨mA2, mc2, rfl, om, hb4⟩
    have rm2 := own_rdA om
    replace hb := bthen hb hb4
    replace rk := rk.below hb4
    replace rk2 := rk2.below hb4
    replace rm := rm.below hb4
    have kl := takeL_len t L2 N most
    have ml := planL_len L2 sl2 go2
    clear om hb4 oy os2 og2
    generalize takeL t L2 N most = K at *
    generalize takeO t L2 N most = K2 at *
    generalize takeE t L2 most = K3 at *
    generalize planL L2 sl2 go2 = M at *
    generalize planE L2 sl2 go2 = M2 at *
    go_wp2_with fail
    refine (eqInts_any kA2 kA K.length K.length kc2 kc K K rfl rfl (by omega) w23 rk2 rk).mono ?_
    rintro e w24 ⟨rfl, hb4⟩
    rw [decide_eq_true rfl]
    replace hb := bthen hb hb4
    replace rm := rm.below hb4
    replace rm2 := rm2.below hb4
    clear hb4 rk rk2
    go_wp2_with fail
    refine (eqMoves_any mA2 mA M.length mc2 mc M w24 rfl (by omega) rm2 rm).mono ?_
    rintro e w25 ⟨rfl, hb4⟩
    replace hb := bthen hb hb4
    go_wp2
    go_returns
    exact ⟨rfl, hb⟩
end Go.Proofs.Ytlcgkdhcdldlfaa
