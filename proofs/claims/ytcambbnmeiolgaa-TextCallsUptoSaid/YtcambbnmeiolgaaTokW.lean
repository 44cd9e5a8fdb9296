import Derived.Test.YtcambbnmeiolgaaTok
import Derived.Deep.RegionWith
namespace Go.Proofs.Ytcambbnmeiolgaa
open Go.RowKit

def TokOut (w0 : World) (p : Nat) (wv sv : Value) (s : S3) (en : Ending) (w' : World) : Prop := en = .returned (.tuple #[]) ∧ Str w0 w' p wv sv s.1 s.2.1 s.2.2

set_option maxRecDepth 100000 in
set_option maxHeartbeats 4000000 in
/-- token -/
theorem token_any (p : Nat) (wv sv : Value) (wds : List (List Int)) (sts : List ByteArray) (t : List UInt8) (o : List Int) (k : Nat) (w0 w : World) (hS : Sta w0 p wv sv wds sts) (h : Str w0 w p wv sv t o false) (hk : k < wds.length) (ht : t.length ≤ 18) (hle : o.length ≤ 70368744177664) :
    Calls Try.prog 46 #[.pointer (some ⟨p, 0, none⟩), .int .i64 (k : Int)] w (TokOut w0 p wv sv (tokU (sts.map lst) wds (t, o, false) k)) := by
  obtain ⟨ov, T, rfl, hb0, ho, hg⟩ := h
  obtain ⟨As, cs, rfl, _⟩ := hS.stops
  rw [lst_length] at ht
  have a0 : (⟨p, 0, none⟩ : Addr).add 0 = ⟨p, 0, none⟩ := by simpa using addr_add p 0 0
  have a2 : (⟨p, 0, none⟩ : Addr).add 2 = ⟨p, 2, none⟩ := by simpa using addr_add p 0 2
  have a4 : (⟨p, 0, none⟩ : Addr).add 4 = ⟨p, 4, none⟩ := by simpa using addr_add p 0 4
  by_cases hk0 : k = 0
  · subst hk0
    have x2 : w.cell? ⟨p, 2, none⟩ = some (.string T) := hb0.cell _
    have TU := Lib.hid (show tokU (sts.map lst) wds (lst T, o, false) 0 = ([], o ++ bI (lst T), true) from rfl)
    go_enter Try.func46, Try.ntmps46
    go_wp2_with fail
    refine (give_any p wv (.slice As sts.length cs) ov T false o T.size w0 w hb0 ho hg (Nat.le_refl _) (by omega) (by omega)).mono ?_
    rintro e w2 ⟨rfl, ov', T', hl, b2, o2, g3⟩
    have z4 := b2.frozen 4
    have y4 : w2.cell? ⟨p, 4, none⟩ = some (.bool false) := b2.cell _
    have b3 := b2.set 4 (.bool true)
    have SO : TokOut w0 p wv (.slice As sts.length cs) (tokU (sts.map lst) wds (lst T, o, false) 0) (.returned (.tuple #[])) (w2.setCell ⟨p, 4, none⟩ (.bool true)) := by
      rw [TU.out]
      refine ⟨rfl, ov', T', ?_, b3, ?_, grown_step g3 (grown_set _ _ _ _) (.inl rfl)⟩
      · rw [hl, ← lst_length, List.drop_length]
      · have := own_set_other o2 p 4 (.bool true) (b2.not_row (by decide) o2)
        rw [← lst_length, List.take_length] at this
        exact this
    have SOH := Lib.hid SO
    clear SO b2 b3 o2 g3 hl x2 hb0 ho hg
    go_wp2
    go_end0
    exact SOH.out
  · obtain ⟨b, of, c, A, c', rfl, hwd⟩ := hS.word k hk
    obtain ⟨y0, _⟩ := hwd w hg
    have x0 : w.cell? ⟨p, 0, none⟩ = some (.slice (some ⟨b, of, none⟩) wds.length c) := hb0.cell _
    have ea := addr_add b of k
    have hkz : ((k : Int) == 0) = false := by simpa using hk0
    have g1 : (k : Int) < (wds.length : Int) := by omega
    have TU := Lib.hid (show tokU (sts.map lst) wds (lst T, o, false) k = bytesU (sts.map lst) (lst T, o, false) (wds.getD k []) from if_neg hk0)
    have hw16 := hS.w16 (wds.getD k []) (by rw [List.getD_eq_getElem?_getD, List.getElem?_eq_getElem hk]; exact List.getElem_mem _)
    have HL := Lib.hid hS.lens
    generalize wds.getD k [] = L at *
    obtain ⟨l16, hx⟩ := hw16
    have HX := Lib.hid hx
    have hs4 := hS.s4
    have HSm := Lib.hid hS.s16
    have HWD := Lib.hid (fun w' h => (hwd w' h).2)
    have HSS := Lib.hid (fun w' (h : w0.grownBy w' (some p)) => own_rdv ((hS.kept h).so.1))
    clear hx hwd hS
    go_enter Try.func46, Try.ntmps46
    go_wp2
    clear x0 y0 ea
    have HO0 := Lib.hid ho
    clear ho
    go_loopw [5, 26] (fun _ i wr => ∃ j : Nat, j ≤ L.length ∧ i = .int .i64 (j : Int) ∧ (bytesU (sts.map lst) (lst T, o, false) (L.take j)).2.2 = false ∧ Str w0 wr p (.slice (some ⟨b, of, none⟩) wds.length c) (.slice As sts.length cs) (bytesU (sts.map lst) (lst T, o, false) (L.take j)).1 (bytesU (sts.map lst) (lst T, o, false) (L.take j)).2.1 false) (fun _ i _ => L.length - (intOf i).toNat)
    case atStart => exact ⟨0, by omega, rfl, rfl, ov, T, rfl, hb0, HO0.out, hg⟩
    case round =>
      obtain ⟨j, hj, rfl, hf, hst⟩ := hrel
      by_cases hlt : j < L.length
      · obtain ⟨ov1, T1, hT1, b1, o1, g2⟩ := hst
        have rd := HWD.out wr g2
        obtain ⟨bb, oo, rfl, y1⟩ := rd.b8 j hlt
        have ea := addr_add bb oo j
        have g3 : (j : Int) < (L.length : Int) := by omega
        have hx0 := HX.out L[j] (List.getElem_mem _)
        have hlen := bytesU_len (sts.map lst) HL.out (L.take j) (lst T, o, false) (by rw [lst_length]; exact ht)
        have hlen2 : (bytesU (sts.map lst) (lst T, o, false) (L.take j)).2.1.length ≤ o.length + 40 := by
          have := hlen.2
          simp only [lst_length, List.length_take] at this
          omega
        have NX := Lib.hid (show bytesU (sts.map lst) (lst T, o, false) (L.take (j + 1)) = stepU (sts.map lst) (bytesU (sts.map lst) (lst T, o, false) (L.take j)) (u8 L[j]) by rw [List.take_succ_eq_append_getElem hlt, bytesU_snoc])
        generalize bytesU (sts.map lst) (lst T, o, false) (L.take j) = S at *
        generalize L[j] = x at *
        have x2 : wr.cell? ⟨p, 2, none⟩ = some (.string T1) := b1.cell _
        have z2 := b1.frozen 2
        have hcv : (convert 34 9 (.slice (some ⟨wr.heap.size, 0, none⟩) 1 1)).run Try.prog ((wr.alloc (.cells #[.int .u8 x] 5)).drew) = .ok (.string ⟨#[u8 x]⟩) ((wr.alloc (.cells #[.int .u8 x] 5)).drew) :=
          conv_run _ _ 1 1 [x] rfl (blk_rd (Blk.drew (Blk.new wr #[.int .u8 x] 5)) (xs := B8 [x]) rfl)
        have hpl := b1.lt
        have hpn : p ≠ wr.heap.size := by omega
        have x2' : ((wr.alloc (.cells #[.int .u8 x] 5)).drew).cell? ⟨p, 2, none⟩ = some (.string T1) := (Blk.drew (b1.alloc _)).cell _
        have z2' : ((wr.alloc (.cells #[.int .u8 x] 5)).drew).frozen? ⟨p, 2, none⟩ = false := (Blk.drew (b1.alloc _)).frozen _
        have hsz2 : ¬ 9223372036854775807 < T1.size + 1 := by rw [← lst_length, hT1]; omega
        have hsz : T1.size + 1 ≤ 9223372036854775807 := by rw [← lst_length, hT1]; omega
        go_wp2
        go_region
        have l2 : lst (T1 ++ ⟨#[u8 x]⟩) = S.1 ++ [u8 x] := by rw [lst_append, hT1]
        generalize T1 ++ (⟨#[u8 x]⟩ : ByteArray) = T2 at *
        have b2 : Blk ((wr.setCell ⟨p, 2, none⟩ (.string T2)).alloc (.cells #[.int .u8 x] 5)).drew p (SC (.slice (some ⟨b, of, none⟩) wds.length c) (.slice As sts.length cs) T2 ov1 false) 85 := Blk.drew ((b1.set 2 (.string T2)).alloc _)
        skip
        have o2 : ((wr.setCell ⟨p, 2, none⟩ (.string T2)).alloc (.cells #[.int .u8 x] 5)).drew.ownsRow w0.heap.size 5 1 ov1 S.2.1.length (B8 S.2.1) := (own_set_other o1 p 2 (.string T2) (b1.not_row (by decide) o1)).alloc _
        skip
        have g40 := grown_step (grown_step g2 (grown_set wr p 2 (.string T2)) (.inl rfl)) (World.grownBy_alloc _ (.cells #[.int .u8 x] 5) none) (.inr (by simp))
        have g4 : w0.grownBy ((wr.setCell ⟨p, 2, none⟩ (.string T2)).alloc (.cells #[.int .u8 x] 5)).drew (some p) := ⟨g40.os, g40.tape, g40.output, g40.size, g40.block⟩
        clear g40
        skip
        have sz2 : T2.size ≤ 100 := by rw [← lst_length, l2]; simp; omega
        clear x2 z2 x2' z2' hcv hsz hsz2 hpl hpn y1 ea b1 o1 g2 rd
        generalize ((wr.setCell ⟨p, 2, none⟩ (.string T2)).alloc (.cells #[.int .u8 x] 5)).drew = w2 at *
        have L2 := Lib.hid l2
        clear l2 hT1
        skip
        go_wp2_with fail
        skip
        refine (stopped_any p sts.length cs As _ ov1 T2 S.2.1 sts w0 w2 b2 o2 g4 rfl (HSS.out w2 g4) (fun s hs => (HSm.out s hs).2) hs4 (by omega) (by omega)).mono ?_
        rintro e w3 (⟨hz, rfl, hst⟩ | ⟨hz, rfl, hst⟩)
        · have SU : stepU (sts.map lst) S (u8 x) = ((S.1 ++ [u8 x]).drop ((S.1 ++ [u8 x]).length - longest (sts.map lst) (S.1 ++ [u8 x])), S.2.1 ++ bI ((S.1 ++ [u8 x]).take ((S.1 ++ [u8 x]).length - longest (sts.map lst) (S.1 ++ [u8 x]))), true) := by
            rw [L2.out] at hz
            unfold stepU
            rw [if_neg (by rw [hf]; decide), if_pos hz]
          have SO := Lib.hid (show TokOut w0 p (.slice (some ⟨b, of, none⟩) wds.length c) (.slice As sts.length cs) (tokU (sts.map lst) wds (lst T, o, false) k) (.returned (.tuple #[])) w3 from by
            have e1 : bytesU (sts.map lst) (lst T, o, false) L = stepU (sts.map lst) S (u8 x) := by
              have e2 : L = L.take (j + 1) ++ L.drop (j + 1) := (List.take_append_drop _ _).symm
              rw [e2]
              unfold bytesU
              rw [List.foldl_append]
              have e3 := NX.out
              unfold bytesU at e3
              rw [e3]
              exact bytesU_over _ _ _ (by rw [SU])
            rw [TU.out, e1, SU]
            rw [L2.out] at hst
            exact ⟨rfl, hst⟩)
          clear hst hz b2 o2 g4 SU
          go_wp2
          go_end0
          exact SO.out
        · have SU : stepU (sts.map lst) S (u8 x) = ((S.1 ++ [u8 x]).drop ((S.1 ++ [u8 x]).length - waitsL (sts.map lst) (S.1 ++ [u8 x])), S.2.1 ++ bI ((S.1 ++ [u8 x]).take ((S.1 ++ [u8 x]).length - waitsL (sts.map lst) (S.1 ++ [u8 x]))), false) := by
            rw [L2.out] at hz
            unfold stepU
            rw [if_neg (by rw [hf]; decide), if_neg (by omega)]
          replace SU := Lib.hid SU
          obtain ⟨ov3, T3, hT3, b3, o3, g5⟩ := hst
          rw [L2.out] at hT3
          have sz3 : T3.size ≤ 100 := by rw [← lst_length, hT3]; simp; omega
          have hwl := waitsL_le (sts.map lst) (lst T3)
          rw [lst_length] at hwl
          have HT3 := Lib.hid hT3
          have WC := Lib.hid (fun W (hb : Blk W p _ 85) hr => waits_any p sts.length cs As (.slice (some ⟨b, of, none⟩) wds.length c) ov3 T3 false sts W hb rfl hs4 HSm.out hr (by omega))
          have HR3 := Lib.hid (HSS.out w3 g5)
          generalize hq : waitsL (sts.map lst) (lst T3) = q at *
          have HQ := Lib.hid hq
          have hw5 : IntKind.i64.wrap ((T3.size : Int) - (q : Int)) = ((T3.size - q : Nat) : Int) := by rw [IntWalk.i64_in _ (by omega)]; omega
          clear hT3 hq hz b2 o2 g4
          have B3 := Lib.hid b3
          have O3 := Lib.hid o3
          have G5 := Lib.hid g5
          have y2 : w3.cell? ⟨p, 2, none⟩ = some (.string T3) := b3.cell _
          clear b3 o3 g5
          go_wp2
          have y2' : w3.drew.cell? ⟨p, 2, none⟩ = some (.string T3) := y2
          go_region_law (first | ((try go_simp); go_at_call 59; refine (WC.out _ (Blk.drew B3.out) (Rd.below HR3.out (Below.drew (Below.refl _ _)))).mono ?_; rintro e w4 ⟨rfl, hb4⟩; have b4 := (Blk.drew B3.out).below hb4; have y3 : w4.cell? ⟨p, 2, none⟩ = some (.string T3) := b4.cell _) | ((try go_simp); go_at_call 57; refine (give_any p _ _ ov3 T3 false S.2.1 (T3.size - q) w0 w4 b4 (own_below (w := w3.drew) O3.out hb4) (grown_below (wr := w3.drew) ⟨G5.out.os, G5.out.tape, G5.out.output, G5.out.size, G5.out.block⟩ hb4) (by omega) (by omega) (by omega)).mono ?_; rintro e w5 ⟨rfl, ov5, T5, h5, b5, o5, g6⟩))
          all_goals go_wp2
          all_goals
            have TS : T3.size = (S.1 ++ [u8 x]).length := by rw [← HT3.out, lst_length]
            rw [HT3.out] at h5 o5
            have HQ' := HQ.out
            rw [HT3.out] at HQ'
            rw [TS, ← HQ'] at h5 o5
            go_roundw
            case rel => exact ⟨j + 1, by omega, by go_num, by rw [NX.out, SU.out], by rw [NX.out, SU.out]; exact ⟨ov5, T5, h5, b5, o5, g6⟩⟩
            case measure => simp [intOf]; omega
      · obtain rfl : j = L.length := by omega
        rw [List.take_length] at hst hf
        have SO := Lib.hid (show TokOut w0 p (.slice (some ⟨b, of, none⟩) wds.length c) (.slice As sts.length cs) (tokU (sts.map lst) wds (lst T, o, false) k) (.returned (.tuple #[])) wr from ⟨rfl, by rw [TU.out, hf]; exact hst⟩)
        clear hst hf
        go_wp2
        go_end0
        exact SO.out
end Go.Proofs.Ytcambbnmeiolgaa
