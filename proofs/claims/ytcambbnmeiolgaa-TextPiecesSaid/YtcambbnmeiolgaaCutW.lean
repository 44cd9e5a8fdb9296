import Derived.Test.YtcambbnmeiolgaaCutP
namespace Go.Proofs.Ytcambbnmeiolgaa
open Go.RowKit
set_option maxRecDepth 100000 in
set_option maxHeartbeats 16000000 in
/-- TextPieces -/
theorem cut_any (A A' S L K : Option Addr) (n m sn ln kn c c' sc lc kc : Nat) (bs : List Int) (ps : List (Int × Int)) (strs : List ByteArray) (l late : List Int) (w : World) (hv : Voc w A A' n m bs ps) (hwf : Wf bs ps) (hS : strs.length = sn) (rS : Rd w S (strs.map Value.string)) (hsn : sn ≤ 140737488355328) (hl : l.length = ln) (rl : Rd w L (I64 l)) (hk : late.length = kn) (rk : Rd w K (I64 late)) (hkn : kn ≤ 140737488355328) :
    Calls Try.prog 4 #[.agg #[.slice A n c, .slice A' m c'], .slice S sn sc, .slice L ln lc, .slice K kn kc] w fun e w' => e = .returned (.bool true) ∧ Below w.heap.size w w' := by
  have h0 : Below w.heap.size w (w.alloc (.cells #[.slice A n c, .slice A' m c'] 37)) := by go_grown
  have q0 := Blk.new w #[.slice A n c, .slice A' m c'] 37
  go_enter Try.func4, Try.ntmps4
  go_wp2_with fail
  refine (long_any _ _).mono ?_
  rintro e w1 ⟨rfl, rfl⟩
  by_cases g1 : (2147483647 : Int) < ln
  · go_wp2
    go_returns
    exact ⟨rfl, h0⟩
  · go_wp2_with fail
    refine (fixed_any _).mono ?_
    rintro e w2 ⟨rfl, hb⟩
    replace q0 := q0.below hb
    replace hb := bthen h0 hb
    have hl2 := q0.lt
    have y0 : w2.cell? ⟨w.heap.size, 0, none⟩ = some (.slice A n c) := q0.cell _
    have y1 : w2.cell? ⟨w.heap.size, 1, none⟩ = some (.slice A' m c') := q0.cell _
    go_wp2_with fail
    refine (new_any A A' S n m sn c c' sc bs ps strs w2 (hv.below hb) hwf hS (rS.below hb) hsn).mono ?_
    rintro e w3 ⟨hb3, h3⟩
    replace q0 := q0.below hb3
    replace hb := bthen hb hb3
    have y2 : w3.cell? ⟨w.heap.size, 0, none⟩ = some (.slice A n c) := q0.cell _
    have y3 : w3.cell? ⟨w.heap.size, 1, none⟩ = some (.slice A' m c') := q0.cell _
    have N2 := Lib.hid (new_any A A' S n m sn c c' sc bs ps strs w3 (hv.below hb) hwf hS (rS.below hb) hsn)
    clear hb3 y0 y1
    rcases h3 with ⟨hne, rfl⟩ | ⟨he0, p, hp, rfl, hs⟩
    · have HN := Lib.hid hne
      clear hne
      go_wp2_with fail
      refine N2.out.mono ?_
      rintro e w4 ⟨hb4, (⟨_, rfl⟩ | ⟨he0, _⟩)⟩
      · have hne := HN.out
        generalize newE bs ps strs = k0 at *
        have hd : (k0 != 0) = true := by simpa using hne
        have HB := Lib.hid (bthen hb hb4)
        clear hb hb4 q0 y2 y3 N2
        go_wp2
        go_returns
        exact ⟨rfl, HB.out⟩
      · exact absurd he0 HN.out
    · go_wp2_with fail
      refine N2.out.mono ?_
      rintro e w4 ⟨hb4, (⟨hne, _⟩ | ⟨_, p2, hp2, rfl, hs2⟩)⟩
      · exact absurd he0 hne
      · replace q0 := q0.below hb4
        replace hb := bthen hb hb4
        have hpl := hs.lt
        replace hs := hs.below hb4
        have htk := newE_some he0
        have hwp : w.heap.size < p := by omega
        clear hb4 y2 y3 he0 hp hl2 h0 N2
        have y0 : w4.cell? ⟨w.heap.size, 0, none⟩ = some (.slice A n c) := q0.cell _
        have y1 : w4.cell? ⟨w.heap.size, 1, none⟩ = some (.slice A' m c') := q0.cell _
        go_wp2_with fail
        refine (right_any A A' L n m ln c c' lc bs ps l true w4 (hv.below hb) hwf hl (rl.below hb) (by omega)).mono ?_
        rintro e w6 ⟨u, rfl, ou, hb6⟩
        replace hs := hs.below hb6
        replace hs2 := hs2.below hb6
        replace hb := bthen hb hb6
        obtain ⟨uA, uc, rfl, hcap, _⟩ := own_rd ou
        have hrl := rgt_len (toks bs ps).length l true
        have RK := Lib.hid (rgt_ok (toks bs ps).length l true)
        obtain ⟨v1, v2, hT0⟩ := two_new hb hs hs2 (by omega) (by omega) (by omega)
        have RK0 := Lib.hid rk
        clear y0 y1 hb6 hs hs2 hb rk rl hv hpl hp2 rS q0
        generalize rgt (toks bs ps).length l true = all at *
        obtain ⟨wds, hwds⟩ : ∃ wds, toks bs ps = wds := ⟨_, rfl⟩
        rw [hwds] at hT0 htk RK
        clear hwds
        have HL1 := Lib.hid (fun j => cutF_len (strs.map lst) wds hT0.st1.lens (fun x hx => (hT0.st1.w16 x hx).1) all j)
        have OU := Lib.hid ou
        clear ou
        go_wp2
        go_loopw [15, 16, 17, 18, 19, 20, 21, 22, 23, 24, 25] (fun av bv ai i _ _ _ _ _ _ _ wr => ∃ a k : Nat, a ≤ all.length ∧ k ≤ kn + a ∧ ai = .int .i64 (a : Int) ∧ i = .int .i64 (k : Int) ∧ TwoS w w6 p p2 v1 v2 wds strs strs wr av bv (cutF (strs.map lst) wds all a).2.1 (cutF (strs.map lst) wds all a).2.1 ((cutF (strs.map lst) wds all a).1, (cutF (strs.map lst) wds all a).2.2) ((cutF (strs.map lst) wds all a).1, (cutF (strs.map lst) wds all a).2.2)) (fun _ _ ai i _ _ _ _ _ _ _ _ => (kn - (intOf i).toNat) + (all.length - (intOf ai).toNat))
        case atStart => exact ⟨0, 0, by omega, by omega, rfl, rfl, hT0⟩
        case round =>
          obtain ⟨a, k, ha, hka, rfl, rfl, hT⟩ := hrel
          obtain ⟨aA, ac, rfl, _, _⟩ := own_rd hT.ra
          obtain ⟨bA, bc, rfl, _, _⟩ := own_rd hT.rb
          by_cases hlt : a < all.length
          · have g2 : (a : Int) < (all.length : Int) := by omega
            have rku := RK0.out.below hT.bl
            obtain ⟨g, rfl⟩ : ∃ g, uA = some ⟨g, 0, none⟩ := by
              rcases OU.out.2 with ⟨_, h⟩ | ⟨g, _, _, h, _⟩
              · omega
              · injection h with h1; exact ⟨g, h1⟩
            have GP := Lib.hid (show g ≠ p2 from fun he => by obtain ⟨cs, hb⟩ := hT.b2; exact hb.not_row (by decide) OU.out (by rw [← he]; rfl))
            have RA := Lib.hid (own_rdv (hT.ints (by decide) OU.out))
            by_cases hkk : k < kn
            · have g3 : (k : Int) < (kn : Int) := by omega
              obtain ⟨b, of, rfl, y9⟩ := rku.i64 k (by omega)
              have eb := addr_add b of k
              generalize late[k]'(by omega) = x at *
              obtain ⟨nn, hnn⟩ : ∃ nn : Nat, (all.length : Int) - (a : Int) = (nn : Int) := ⟨all.length - a, by omega⟩
              by_cases hr : x.tmod 5 < 0
              · obtain ⟨r, hr1⟩ : ∃ r : Nat, x.tmod 5 = -(r : Int) := ⟨(-(x.tmod 5)).toNat, by omega⟩
                have hr2 : -(r : Int) < 0 := by omega
                have hr5 : (r : Int) ≤ 4 := by have := tmod_lt (n := 5) (by omega) x; omega
                by_cases hgt : nn < r
                · have g4 : (nn : Int) < (r : Int) := by omega
                  have HT := Lib.hid hT
                  have hs8 : (a : Int) + (r : Int) ≤ 2147483700 := by omega
                  have hr9 : 0 ≤ (r : Int) := by omega
                  have hT2 := hT.swap
                  clear rku hT
                  go_wp2_with fail
                  refine (hT2.feed (some ⟨g, a, none⟩) (nn) _ ((all.drop a).take (nn)) (by rw [List.length_take, List.length_drop]; omega) (by omega) (rd_piece RA.out a (nn) (by omega)) (fun b o h _ => by cases h; exact GP.out) (fun x hx => RK.out x (List.mem_of_mem_drop (List.mem_of_mem_take hx)))).mono ?_
                  rintro e wB ⟨u2, rfl, ou2, ap2, hT3⟩
                  have FA := Lib.hid (cutF_add (strs.map lst) wds all a (nn))
                  have hb2 : (cutF (strs.map lst) wds all a).2.1.length + (feedU (strs.map lst) wds ((cutF (strs.map lst) wds all a).1, [], (cutF (strs.map lst) wds all a).2.2) ((all.drop a).take (nn))).2.1.length ≤ 70368744177664 := by
                    have := HL1.out (a + (nn))
                    rw [FA.out] at this
                    simp only [sh, List.length_append] at this
                    omega
                  obtain ⟨uB, ub, rfl, _, _⟩ := own_rd ou2
                  go_wp2_with fail
                  refine (hT3.join uB _ ub _ ou2 rfl (fun q hq => (ap2 q hq).1) hb2).mono ?_
                  rintro e wC ⟨bv', rfl, hT4⟩
                  have hT5 : TwoS w w6 p p2 v1 v2 wds strs strs wC (.slice aA (cutF (strs.map lst) wds all a).2.1.length ac) bv' (cutF (strs.map lst) wds all a).2.1 (cutF (strs.map lst) wds all (a + (nn))).2.1 ((cutF (strs.map lst) wds all a).1, (cutF (strs.map lst) wds all a).2.2) ((cutF (strs.map lst) wds all (a + (nn))).1, (cutF (strs.map lst) wds all (a + (nn))).2.2) := by rw [FA.out]; exact hT4.swap
                  clear hT4 hT3 ou2 ap2 hb2 hT2
                  obtain ⟨bB, bcc, rfl, _, _⟩ := own_rd hT5.rb
                  have HT5 := Lib.hid hT5
                  clear hT5
                  go_wp2
                  go_loopw [15, 22, 23, 24] (fun av kk _ _ wr => ∃ j : Nat, a ≤ j ∧ j ≤ a + (nn) ∧ kk = .int .i64 (j : Int) ∧ TwoS w w6 p p2 v1 v2 wds strs strs wr av (.slice bB (cutF (strs.map lst) wds all (a + (nn))).2.1.length bcc) (cutF (strs.map lst) wds all j).2.1 (cutF (strs.map lst) wds all (a + (nn))).2.1 ((cutF (strs.map lst) wds all j).1, (cutF (strs.map lst) wds all j).2.2) ((cutF (strs.map lst) wds all (a + (nn))).1, (cutF (strs.map lst) wds all (a + (nn))).2.2)) (fun _ kk _ _ _ => (a + (nn)) - (intOf kk).toNat)
                  case atStart => exact ⟨a, Nat.le_refl _, by omega, rfl, HT5.out⟩
                  case round =>
                    obtain ⟨j, hj1, hj2, rfl, hTj⟩ := hrel
                    obtain ⟨jA, jc, rfl, _, _⟩ := own_rd hTj.ra
                    by_cases hlj : j < a + (nn)
                    · have hjl : j < all.length := by omega
                      have g6 : (j : Int) < (a : Int) + (nn : Int) := by omega
                      have y5 := (own_rdv (hTj.ints (by decide) OU.out)).cell0 j (by simp [I64]; omega)
                      rw [show (I64 all)[j]? = some (.int .i64 all[j]) by simp [I64, hjl]] at y5
                      have ea := addr_add g 0 j
                      rw [Nat.zero_add] at ea
                      have hok1 : okTs wds.length [all[j]] := fun x hx => by rw [List.mem_singleton.1 hx]; exact RK.out _ (List.getElem_mem _)
                      have FJ0 := cutF_add (strs.map lst) wds all j 1
                      rw [show (all.drop j).take 1 = [all[j]] by rw [List.drop_eq_getElem_cons hjl]; rfl] at FJ0
                      have FJ := Lib.hid FJ0
                      have hb3 : (cutF (strs.map lst) wds all j).2.1.length + (feedU (strs.map lst) wds ((cutF (strs.map lst) wds all j).1, [], (cutF (strs.map lst) wds all j).2.2) [all[j]]).2.1.length ≤ 70368744177664 := by
                        have := HL1.out (j + 1)
                        rw [FJ.out] at this
                        simp only [sh, List.length_append] at this
                        omega
                      clear FJ0
                      generalize all[j] = tk at *
                      go_wp2_with fail
                      have k3 := Blk.new wr #[.int .i64 tk] 3
                      have h3 : Below wr.heap.size wr (wr.alloc (.cells #[.int .i64 tk] 3)) := by go_grown
                      refine ((hTj.below h3).feed (some ⟨wr.heap.size, 0, none⟩) 1 1 [tk] rfl (by omega) (blk_rd k3 rfl) (fun b o h _ => by cases h; have := hTj.lt1; have := hTj.sz; omega) hok1).mono ?_
                      rintro e wD ⟨u3, rfl, ou3, ap3, hT6⟩
                      clear k3 h3 hTj y5
                      obtain ⟨uD, ud, rfl, _, _⟩ := own_rd ou3
                      go_wp2_with fail
                      refine (hT6.join uD _ ud _ ou3 rfl (fun q hq => (ap3 q hq).1) hb3).mono ?_
                      rintro e wE ⟨jv, rfl, hT7⟩
                      have hT8 : TwoS w w6 p p2 v1 v2 wds strs strs wE jv (.slice bB (cutF (strs.map lst) wds all (a + (nn))).2.1.length bcc) (cutF (strs.map lst) wds all (j + 1)).2.1 (cutF (strs.map lst) wds all (a + (nn))).2.1 ((cutF (strs.map lst) wds all (j + 1)).1, (cutF (strs.map lst) wds all (j + 1)).2.2) ((cutF (strs.map lst) wds all (a + (nn))).1, (cutF (strs.map lst) wds all (a + (nn))).2.2) := by rw [FJ.out]; exact hT7
                      have HT8 := Lib.hid hT8
                      clear hT6 hT7 ou3 ap3 hb3 hok1
                      obtain ⟨jB, jd, rfl, _, _⟩ := own_rd hT8.ra
                      clear hT8
                      go_wp2
                      go_roundw
                      case rel => exact ⟨j + 1, by omega, by omega, by go_num, HT8.out⟩
                      case measure => simp [intOf]; omega
                    · obtain rfl : j = a + (nn) := by omega
                      have g6 : ¬ ((a + (nn) : Nat) : Int) < (a : Int) + (nn : Int) := by omega
                      go_wp2_with fail
                      refine (eqBytes_any jA bB _ _ _ _ _ _ rfl rfl (by have := hTj.ra.1; have := HL1.out (a + (nn)); omega) wr (own_rdv hTj.ra) (own_rdv hTj.rb)).mono ?_
                      rintro e wF ⟨rfl, hbF⟩
                      rw [decide_eq_true (rfl : (cutF (strs.map lst) wds all (a + (nn))).2.1 = (cutF (strs.map lst) wds all (a + (nn))).2.1)]
                      have hT8 := hTj.below hbF
                      clear hTj hbF
                      go_wp2_with fail
                      refine hT8.over.mono ?_
                      rintro e w9 ⟨rfl, rfl⟩
                      go_wp2_with fail
                      refine hT8.swap.over.mono ?_
                      rintro e w9 ⟨rfl, rfl⟩
                      have HT8 := Lib.hid hT8
                      clear hT8
                      obtain ⟨ov, hov⟩ : ∃ ov, (cutF (strs.map lst) wds all (a + (nn))).2.2 = ov := ⟨_, rfl⟩
                      dsimp only
                      rw [hov]
                      clear hov
                      go_wp2
                      go_roundw
                      case rel => exact ⟨a + (nn), k + 1, by omega, by omega, by go_num, by go_num, HT8.out⟩
                      case measure => simp [intOf]; omega
                · have g4 : ¬ (nn : Int) < (r : Int) := by omega
                  have HT := Lib.hid hT
                  have hs8 : (a : Int) + (r : Int) ≤ 2147483700 := by omega
                  have hr9 : 0 ≤ (r : Int) := by omega
                  have hT2 := hT.swap
                  clear rku hT
                  go_wp2_with fail
                  refine (hT2.feed (some ⟨g, a, none⟩) (r) _ ((all.drop a).take (r)) (by rw [List.length_take, List.length_drop]; omega) (by omega) (rd_piece RA.out a (r) (by omega)) (fun b o h _ => by cases h; exact GP.out) (fun x hx => RK.out x (List.mem_of_mem_drop (List.mem_of_mem_take hx)))).mono ?_
                  rintro e wB ⟨u2, rfl, ou2, ap2, hT3⟩
                  have FA := Lib.hid (cutF_add (strs.map lst) wds all a (r))
                  have hb2 : (cutF (strs.map lst) wds all a).2.1.length + (feedU (strs.map lst) wds ((cutF (strs.map lst) wds all a).1, [], (cutF (strs.map lst) wds all a).2.2) ((all.drop a).take (r))).2.1.length ≤ 70368744177664 := by
                    have := HL1.out (a + (r))
                    rw [FA.out] at this
                    simp only [sh, List.length_append] at this
                    omega
                  obtain ⟨uB, ub, rfl, _, _⟩ := own_rd ou2
                  go_wp2_with fail
                  refine (hT3.join uB _ ub _ ou2 rfl (fun q hq => (ap2 q hq).1) hb2).mono ?_
                  rintro e wC ⟨bv', rfl, hT4⟩
                  have hT5 : TwoS w w6 p p2 v1 v2 wds strs strs wC (.slice aA (cutF (strs.map lst) wds all a).2.1.length ac) bv' (cutF (strs.map lst) wds all a).2.1 (cutF (strs.map lst) wds all (a + (r))).2.1 ((cutF (strs.map lst) wds all a).1, (cutF (strs.map lst) wds all a).2.2) ((cutF (strs.map lst) wds all (a + (r))).1, (cutF (strs.map lst) wds all (a + (r))).2.2) := by rw [FA.out]; exact hT4.swap
                  clear hT4 hT3 ou2 ap2 hb2 hT2
                  obtain ⟨bB, bcc, rfl, _, _⟩ := own_rd hT5.rb
                  have HT5 := Lib.hid hT5
                  clear hT5
                  go_wp2
                  go_loopw [15, 22, 23, 24] (fun av kk _ _ wr => ∃ j : Nat, a ≤ j ∧ j ≤ a + (r) ∧ kk = .int .i64 (j : Int) ∧ TwoS w w6 p p2 v1 v2 wds strs strs wr av (.slice bB (cutF (strs.map lst) wds all (a + (r))).2.1.length bcc) (cutF (strs.map lst) wds all j).2.1 (cutF (strs.map lst) wds all (a + (r))).2.1 ((cutF (strs.map lst) wds all j).1, (cutF (strs.map lst) wds all j).2.2) ((cutF (strs.map lst) wds all (a + (r))).1, (cutF (strs.map lst) wds all (a + (r))).2.2)) (fun _ kk _ _ _ => (a + (r)) - (intOf kk).toNat)
                  case atStart => exact ⟨a, Nat.le_refl _, by omega, rfl, HT5.out⟩
                  case round =>
                    obtain ⟨j, hj1, hj2, rfl, hTj⟩ := hrel
                    obtain ⟨jA, jc, rfl, _, _⟩ := own_rd hTj.ra
                    by_cases hlj : j < a + (r)
                    · have hjl : j < all.length := by omega
                      have g6 : (j : Int) < (a : Int) + (r : Int) := by omega
                      have y5 := (own_rdv (hTj.ints (by decide) OU.out)).cell0 j (by simp [I64]; omega)
                      rw [show (I64 all)[j]? = some (.int .i64 all[j]) by simp [I64, hjl]] at y5
                      have ea := addr_add g 0 j
                      rw [Nat.zero_add] at ea
                      have hok1 : okTs wds.length [all[j]] := fun x hx => by rw [List.mem_singleton.1 hx]; exact RK.out _ (List.getElem_mem _)
                      have FJ0 := cutF_add (strs.map lst) wds all j 1
                      rw [show (all.drop j).take 1 = [all[j]] by rw [List.drop_eq_getElem_cons hjl]; rfl] at FJ0
                      have FJ := Lib.hid FJ0
                      have hb3 : (cutF (strs.map lst) wds all j).2.1.length + (feedU (strs.map lst) wds ((cutF (strs.map lst) wds all j).1, [], (cutF (strs.map lst) wds all j).2.2) [all[j]]).2.1.length ≤ 70368744177664 := by
                        have := HL1.out (j + 1)
                        rw [FJ.out] at this
                        simp only [sh, List.length_append] at this
                        omega
                      clear FJ0
                      generalize all[j] = tk at *
                      go_wp2_with fail
                      have k3 := Blk.new wr #[.int .i64 tk] 3
                      have h3 : Below wr.heap.size wr (wr.alloc (.cells #[.int .i64 tk] 3)) := by go_grown
                      refine ((hTj.below h3).feed (some ⟨wr.heap.size, 0, none⟩) 1 1 [tk] rfl (by omega) (blk_rd k3 rfl) (fun b o h _ => by cases h; have := hTj.lt1; have := hTj.sz; omega) hok1).mono ?_
                      rintro e wD ⟨u3, rfl, ou3, ap3, hT6⟩
                      clear k3 h3 hTj y5
                      obtain ⟨uD, ud, rfl, _, _⟩ := own_rd ou3
                      go_wp2_with fail
                      refine (hT6.join uD _ ud _ ou3 rfl (fun q hq => (ap3 q hq).1) hb3).mono ?_
                      rintro e wE ⟨jv, rfl, hT7⟩
                      have hT8 : TwoS w w6 p p2 v1 v2 wds strs strs wE jv (.slice bB (cutF (strs.map lst) wds all (a + (r))).2.1.length bcc) (cutF (strs.map lst) wds all (j + 1)).2.1 (cutF (strs.map lst) wds all (a + (r))).2.1 ((cutF (strs.map lst) wds all (j + 1)).1, (cutF (strs.map lst) wds all (j + 1)).2.2) ((cutF (strs.map lst) wds all (a + (r))).1, (cutF (strs.map lst) wds all (a + (r))).2.2) := by rw [FJ.out]; exact hT7
                      have HT8 := Lib.hid hT8
                      clear hT6 hT7 ou3 ap3 hb3 hok1
                      obtain ⟨jB, jd, rfl, _, _⟩ := own_rd hT8.ra
                      clear hT8
                      go_wp2
                      go_roundw
                      case rel => exact ⟨j + 1, by omega, by omega, by go_num, HT8.out⟩
                      case measure => simp [intOf]; omega
                    · obtain rfl : j = a + (r) := by omega
                      have g6 : ¬ ((a + (r) : Nat) : Int) < (a : Int) + (r : Int) := by omega
                      go_wp2_with fail
                      refine (eqBytes_any jA bB _ _ _ _ _ _ rfl rfl (by have := hTj.ra.1; have := HL1.out (a + (r)); omega) wr (own_rdv hTj.ra) (own_rdv hTj.rb)).mono ?_
                      rintro e wF ⟨rfl, hbF⟩
                      rw [decide_eq_true (rfl : (cutF (strs.map lst) wds all (a + (r))).2.1 = (cutF (strs.map lst) wds all (a + (r))).2.1)]
                      have hT8 := hTj.below hbF
                      clear hTj hbF
                      go_wp2_with fail
                      refine hT8.over.mono ?_
                      rintro e w9 ⟨rfl, rfl⟩
                      go_wp2_with fail
                      refine hT8.swap.over.mono ?_
                      rintro e w9 ⟨rfl, rfl⟩
                      have HT8 := Lib.hid hT8
                      clear hT8
                      obtain ⟨ov, hov⟩ : ∃ ov, (cutF (strs.map lst) wds all (a + (r))).2.2 = ov := ⟨_, rfl⟩
                      dsimp only
                      rw [hov]
                      clear hov
                      go_wp2
                      go_roundw
                      case rel => exact ⟨a + (r), k + 1, by omega, by omega, by go_num, by go_num, HT8.out⟩
                      case measure => simp [intOf]; omega
              · obtain ⟨r, hr1⟩ : ∃ r : Nat, x.tmod 5 = (r : Int) := ⟨(x.tmod 5).toNat, by omega⟩
                have hr2 : ¬ (r : Int) < 0 := by omega
                have hr5 : (r : Int) ≤ 4 := by have := tmod_lt (n := 5) (by omega) x; omega
                by_cases hgt : nn < r
                · have g4 : (nn : Int) < (r : Int) := by omega
                  have HT := Lib.hid hT
                  have hs8 : (a : Int) + (r : Int) ≤ 2147483700 := by omega
                  have hr9 : 0 ≤ (r : Int) := by omega
                  have hT2 := hT.swap
                  clear rku hT
                  go_wp2_with fail
                  refine (hT2.feed (some ⟨g, a, none⟩) (nn) _ ((all.drop a).take (nn)) (by rw [List.length_take, List.length_drop]; omega) (by omega) (rd_piece RA.out a (nn) (by omega)) (fun b o h _ => by cases h; exact GP.out) (fun x hx => RK.out x (List.mem_of_mem_drop (List.mem_of_mem_take hx)))).mono ?_
                  rintro e wB ⟨u2, rfl, ou2, ap2, hT3⟩
                  have FA := Lib.hid (cutF_add (strs.map lst) wds all a (nn))
                  have hb2 : (cutF (strs.map lst) wds all a).2.1.length + (feedU (strs.map lst) wds ((cutF (strs.map lst) wds all a).1, [], (cutF (strs.map lst) wds all a).2.2) ((all.drop a).take (nn))).2.1.length ≤ 70368744177664 := by
                    have := HL1.out (a + (nn))
                    rw [FA.out] at this
                    simp only [sh, List.length_append] at this
                    omega
                  obtain ⟨uB, ub, rfl, _, _⟩ := own_rd ou2
                  go_wp2_with fail
                  refine (hT3.join uB _ ub _ ou2 rfl (fun q hq => (ap2 q hq).1) hb2).mono ?_
                  rintro e wC ⟨bv', rfl, hT4⟩
                  have hT5 : TwoS w w6 p p2 v1 v2 wds strs strs wC (.slice aA (cutF (strs.map lst) wds all a).2.1.length ac) bv' (cutF (strs.map lst) wds all a).2.1 (cutF (strs.map lst) wds all (a + (nn))).2.1 ((cutF (strs.map lst) wds all a).1, (cutF (strs.map lst) wds all a).2.2) ((cutF (strs.map lst) wds all (a + (nn))).1, (cutF (strs.map lst) wds all (a + (nn))).2.2) := by rw [FA.out]; exact hT4.swap
                  clear hT4 hT3 ou2 ap2 hb2 hT2
                  obtain ⟨bB, bcc, rfl, _, _⟩ := own_rd hT5.rb
                  have HT5 := Lib.hid hT5
                  clear hT5
                  go_wp2
                  go_loopw [15, 22, 23, 24] (fun av kk _ _ wr => ∃ j : Nat, a ≤ j ∧ j ≤ a + (nn) ∧ kk = .int .i64 (j : Int) ∧ TwoS w w6 p p2 v1 v2 wds strs strs wr av (.slice bB (cutF (strs.map lst) wds all (a + (nn))).2.1.length bcc) (cutF (strs.map lst) wds all j).2.1 (cutF (strs.map lst) wds all (a + (nn))).2.1 ((cutF (strs.map lst) wds all j).1, (cutF (strs.map lst) wds all j).2.2) ((cutF (strs.map lst) wds all (a + (nn))).1, (cutF (strs.map lst) wds all (a + (nn))).2.2)) (fun _ kk _ _ _ => (a + (nn)) - (intOf kk).toNat)
                  case atStart => exact ⟨a, Nat.le_refl _, by omega, rfl, HT5.out⟩
                  case round =>
                    obtain ⟨j, hj1, hj2, rfl, hTj⟩ := hrel
                    obtain ⟨jA, jc, rfl, _, _⟩ := own_rd hTj.ra
                    by_cases hlj : j < a + (nn)
                    · have hjl : j < all.length := by omega
                      have g6 : (j : Int) < (a : Int) + (nn : Int) := by omega
                      have y5 := (own_rdv (hTj.ints (by decide) OU.out)).cell0 j (by simp [I64]; omega)
                      rw [show (I64 all)[j]? = some (.int .i64 all[j]) by simp [I64, hjl]] at y5
                      have ea := addr_add g 0 j
                      rw [Nat.zero_add] at ea
                      have hok1 : okTs wds.length [all[j]] := fun x hx => by rw [List.mem_singleton.1 hx]; exact RK.out _ (List.getElem_mem _)
                      have FJ0 := cutF_add (strs.map lst) wds all j 1
                      rw [show (all.drop j).take 1 = [all[j]] by rw [List.drop_eq_getElem_cons hjl]; rfl] at FJ0
                      have FJ := Lib.hid FJ0
                      have hb3 : (cutF (strs.map lst) wds all j).2.1.length + (feedU (strs.map lst) wds ((cutF (strs.map lst) wds all j).1, [], (cutF (strs.map lst) wds all j).2.2) [all[j]]).2.1.length ≤ 70368744177664 := by
                        have := HL1.out (j + 1)
                        rw [FJ.out] at this
                        simp only [sh, List.length_append] at this
                        omega
                      clear FJ0
                      generalize all[j] = tk at *
                      go_wp2_with fail
                      have k3 := Blk.new wr #[.int .i64 tk] 3
                      have h3 : Below wr.heap.size wr (wr.alloc (.cells #[.int .i64 tk] 3)) := by go_grown
                      refine ((hTj.below h3).feed (some ⟨wr.heap.size, 0, none⟩) 1 1 [tk] rfl (by omega) (blk_rd k3 rfl) (fun b o h _ => by cases h; have := hTj.lt1; have := hTj.sz; omega) hok1).mono ?_
                      rintro e wD ⟨u3, rfl, ou3, ap3, hT6⟩
                      clear k3 h3 hTj y5
                      obtain ⟨uD, ud, rfl, _, _⟩ := own_rd ou3
                      go_wp2_with fail
                      refine (hT6.join uD _ ud _ ou3 rfl (fun q hq => (ap3 q hq).1) hb3).mono ?_
                      rintro e wE ⟨jv, rfl, hT7⟩
                      have hT8 : TwoS w w6 p p2 v1 v2 wds strs strs wE jv (.slice bB (cutF (strs.map lst) wds all (a + (nn))).2.1.length bcc) (cutF (strs.map lst) wds all (j + 1)).2.1 (cutF (strs.map lst) wds all (a + (nn))).2.1 ((cutF (strs.map lst) wds all (j + 1)).1, (cutF (strs.map lst) wds all (j + 1)).2.2) ((cutF (strs.map lst) wds all (a + (nn))).1, (cutF (strs.map lst) wds all (a + (nn))).2.2) := by rw [FJ.out]; exact hT7
                      have HT8 := Lib.hid hT8
                      clear hT6 hT7 ou3 ap3 hb3 hok1
                      obtain ⟨jB, jd, rfl, _, _⟩ := own_rd hT8.ra
                      clear hT8
                      go_wp2
                      go_roundw
                      case rel => exact ⟨j + 1, by omega, by omega, by go_num, HT8.out⟩
                      case measure => simp [intOf]; omega
                    · obtain rfl : j = a + (nn) := by omega
                      have g6 : ¬ ((a + (nn) : Nat) : Int) < (a : Int) + (nn : Int) := by omega
                      go_wp2_with fail
                      refine (eqBytes_any jA bB _ _ _ _ _ _ rfl rfl (by have := hTj.ra.1; have := HL1.out (a + (nn)); omega) wr (own_rdv hTj.ra) (own_rdv hTj.rb)).mono ?_
                      rintro e wF ⟨rfl, hbF⟩
                      rw [decide_eq_true (rfl : (cutF (strs.map lst) wds all (a + (nn))).2.1 = (cutF (strs.map lst) wds all (a + (nn))).2.1)]
                      have hT8 := hTj.below hbF
                      clear hTj hbF
                      go_wp2_with fail
                      refine hT8.over.mono ?_
                      rintro e w9 ⟨rfl, rfl⟩
                      go_wp2_with fail
                      refine hT8.swap.over.mono ?_
                      rintro e w9 ⟨rfl, rfl⟩
                      have HT8 := Lib.hid hT8
                      clear hT8
                      obtain ⟨ov, hov⟩ : ∃ ov, (cutF (strs.map lst) wds all (a + (nn))).2.2 = ov := ⟨_, rfl⟩
                      dsimp only
                      rw [hov]
                      clear hov
                      go_wp2
                      go_roundw
                      case rel => exact ⟨a + (nn), k + 1, by omega, by omega, by go_num, by go_num, HT8.out⟩
                      case measure => simp [intOf]; omega
                · have g4 : ¬ (nn : Int) < (r : Int) := by omega
                  have HT := Lib.hid hT
                  have hs8 : (a : Int) + (r : Int) ≤ 2147483700 := by omega
                  have hr9 : 0 ≤ (r : Int) := by omega
                  have hT2 := hT.swap
                  clear rku hT
                  go_wp2_with fail
                  refine (hT2.feed (some ⟨g, a, none⟩) (r) _ ((all.drop a).take (r)) (by rw [List.length_take, List.length_drop]; omega) (by omega) (rd_piece RA.out a (r) (by omega)) (fun b o h _ => by cases h; exact GP.out) (fun x hx => RK.out x (List.mem_of_mem_drop (List.mem_of_mem_take hx)))).mono ?_
                  rintro e wB ⟨u2, rfl, ou2, ap2, hT3⟩
                  have FA := Lib.hid (cutF_add (strs.map lst) wds all a (r))
                  have hb2 : (cutF (strs.map lst) wds all a).2.1.length + (feedU (strs.map lst) wds ((cutF (strs.map lst) wds all a).1, [], (cutF (strs.map lst) wds all a).2.2) ((all.drop a).take (r))).2.1.length ≤ 70368744177664 := by
                    have := HL1.out (a + (r))
                    rw [FA.out] at this
                    simp only [sh, List.length_append] at this
                    omega
                  obtain ⟨uB, ub, rfl, _, _⟩ := own_rd ou2
                  go_wp2_with fail
                  refine (hT3.join uB _ ub _ ou2 rfl (fun q hq => (ap2 q hq).1) hb2).mono ?_
                  rintro e wC ⟨bv', rfl, hT4⟩
                  have hT5 : TwoS w w6 p p2 v1 v2 wds strs strs wC (.slice aA (cutF (strs.map lst) wds all a).2.1.length ac) bv' (cutF (strs.map lst) wds all a).2.1 (cutF (strs.map lst) wds all (a + (r))).2.1 ((cutF (strs.map lst) wds all a).1, (cutF (strs.map lst) wds all a).2.2) ((cutF (strs.map lst) wds all (a + (r))).1, (cutF (strs.map lst) wds all (a + (r))).2.2) := by rw [FA.out]; exact hT4.swap
                  clear hT4 hT3 ou2 ap2 hb2 hT2
                  obtain ⟨bB, bcc, rfl, _, _⟩ := own_rd hT5.rb
                  have HT5 := Lib.hid hT5
                  clear hT5
                  go_wp2
                  go_loopw [15, 22, 23, 24] (fun av kk _ _ wr => ∃ j : Nat, a ≤ j ∧ j ≤ a + (r) ∧ kk = .int .i64 (j : Int) ∧ TwoS w w6 p p2 v1 v2 wds strs strs wr av (.slice bB (cutF (strs.map lst) wds all (a + (r))).2.1.length bcc) (cutF (strs.map lst) wds all j).2.1 (cutF (strs.map lst) wds all (a + (r))).2.1 ((cutF (strs.map lst) wds all j).1, (cutF (strs.map lst) wds all j).2.2) ((cutF (strs.map lst) wds all (a + (r))).1, (cutF (strs.map lst) wds all (a + (r))).2.2)) (fun _ kk _ _ _ => (a + (r)) - (intOf kk).toNat)
                  case atStart => exact ⟨a, Nat.le_refl _, by omega, rfl, HT5.out⟩
                  case round =>
                    obtain ⟨j, hj1, hj2, rfl, hTj⟩ := hrel
                    obtain ⟨jA, jc, rfl, _, _⟩ := own_rd hTj.ra
                    by_cases hlj : j < a + (r)
                    · have hjl : j < all.length := by omega
                      have g6 : (j : Int) < (a : Int) + (r : Int) := by omega
                      have y5 := (own_rdv (hTj.ints (by decide) OU.out)).cell0 j (by simp [I64]; omega)
                      rw [show (I64 all)[j]? = some (.int .i64 all[j]) by simp [I64, hjl]] at y5
                      have ea := addr_add g 0 j
                      rw [Nat.zero_add] at ea
                      have hok1 : okTs wds.length [all[j]] := fun x hx => by rw [List.mem_singleton.1 hx]; exact RK.out _ (List.getElem_mem _)
                      have FJ0 := cutF_add (strs.map lst) wds all j 1
                      rw [show (all.drop j).take 1 = [all[j]] by rw [List.drop_eq_getElem_cons hjl]; rfl] at FJ0
                      have FJ := Lib.hid FJ0
                      have hb3 : (cutF (strs.map lst) wds all j).2.1.length + (feedU (strs.map lst) wds ((cutF (strs.map lst) wds all j).1, [], (cutF (strs.map lst) wds all j).2.2) [all[j]]).2.1.length ≤ 70368744177664 := by
                        have := HL1.out (j + 1)
                        rw [FJ.out] at this
                        simp only [sh, List.length_append] at this
                        omega
                      clear FJ0
                      generalize all[j] = tk at *
                      go_wp2_with fail
                      have k3 := Blk.new wr #[.int .i64 tk] 3
                      have h3 : Below wr.heap.size wr (wr.alloc (.cells #[.int .i64 tk] 3)) := by go_grown
                      refine ((hTj.below h3).feed (some ⟨wr.heap.size, 0, none⟩) 1 1 [tk] rfl (by omega) (blk_rd k3 rfl) (fun b o h _ => by cases h; have := hTj.lt1; have := hTj.sz; omega) hok1).mono ?_
                      rintro e wD ⟨u3, rfl, ou3, ap3, hT6⟩
                      clear k3 h3 hTj y5
                      obtain ⟨uD, ud, rfl, _, _⟩ := own_rd ou3
                      go_wp2_with fail
                      refine (hT6.join uD _ ud _ ou3 rfl (fun q hq => (ap3 q hq).1) hb3).mono ?_
                      rintro e wE ⟨jv, rfl, hT7⟩
                      have hT8 : TwoS w w6 p p2 v1 v2 wds strs strs wE jv (.slice bB (cutF (strs.map lst) wds all (a + (r))).2.1.length bcc) (cutF (strs.map lst) wds all (j + 1)).2.1 (cutF (strs.map lst) wds all (a + (r))).2.1 ((cutF (strs.map lst) wds all (j + 1)).1, (cutF (strs.map lst) wds all (j + 1)).2.2) ((cutF (strs.map lst) wds all (a + (r))).1, (cutF (strs.map lst) wds all (a + (r))).2.2) := by rw [FJ.out]; exact hT7
                      have HT8 := Lib.hid hT8
                      clear hT6 hT7 ou3 ap3 hb3 hok1
                      obtain ⟨jB, jd, rfl, _, _⟩ := own_rd hT8.ra
                      clear hT8
                      go_wp2
                      go_roundw
                      case rel => exact ⟨j + 1, by omega, by omega, by go_num, HT8.out⟩
                      case measure => simp [intOf]; omega
                    · obtain rfl : j = a + (r) := by omega
                      have g6 : ¬ ((a + (r) : Nat) : Int) < (a : Int) + (r : Int) := by omega
                      go_wp2_with fail
                      refine (eqBytes_any jA bB _ _ _ _ _ _ rfl rfl (by have := hTj.ra.1; have := HL1.out (a + (r)); omega) wr (own_rdv hTj.ra) (own_rdv hTj.rb)).mono ?_
                      rintro e wF ⟨rfl, hbF⟩
                      rw [decide_eq_true (rfl : (cutF (strs.map lst) wds all (a + (r))).2.1 = (cutF (strs.map lst) wds all (a + (r))).2.1)]
                      have hT8 := hTj.below hbF
                      clear hTj hbF
                      go_wp2_with fail
                      refine hT8.over.mono ?_
                      rintro e w9 ⟨rfl, rfl⟩
                      go_wp2_with fail
                      refine hT8.swap.over.mono ?_
                      rintro e w9 ⟨rfl, rfl⟩
                      have HT8 := Lib.hid hT8
                      clear hT8
                      obtain ⟨ov, hov⟩ : ∃ ov, (cutF (strs.map lst) wds all (a + (r))).2.2 = ov := ⟨_, rfl⟩
                      dsimp only
                      rw [hov]
                      clear hov
                      go_wp2
                      go_roundw
                      case rel => exact ⟨a + (r), k + 1, by omega, by omega, by go_num, by go_num, HT8.out⟩
                      case measure => simp [intOf]; omega
            · have g3 : ¬ (k : Int) < (kn : Int) := by omega
              have g4 : ¬ (1 : Int) > (all.length : Int) - (a : Int) := by omega
              have g5 : ¬ (all.length : Int) - (a : Int) < 1 := by omega
              have HT := Lib.hid hT
              have hT2 := hT.swap
              clear rku hT
              go_wp2_with fail
              refine (hT2.feed (some ⟨g, a, none⟩) (1) _ ((all.drop a).take (1)) (by rw [List.length_take, List.length_drop]; omega) (by omega) (rd_piece RA.out a (1) (by omega)) (fun b o h _ => by cases h; exact GP.out) (fun x hx => RK.out x (List.mem_of_mem_drop (List.mem_of_mem_take hx)))).mono ?_
              rintro e wB ⟨u2, rfl, ou2, ap2, hT3⟩
              have FA := Lib.hid (cutF_add (strs.map lst) wds all a (1))
              have hb2 : (cutF (strs.map lst) wds all a).2.1.length + (feedU (strs.map lst) wds ((cutF (strs.map lst) wds all a).1, [], (cutF (strs.map lst) wds all a).2.2) ((all.drop a).take (1))).2.1.length ≤ 70368744177664 := by
                have := HL1.out (a + (1))
                rw [FA.out] at this
                simp only [sh, List.length_append] at this
                omega
              obtain ⟨uB, ub, rfl, _, _⟩ := own_rd ou2
              go_wp2_with fail
              refine (hT3.join uB _ ub _ ou2 rfl (fun q hq => (ap2 q hq).1) hb2).mono ?_
              rintro e wC ⟨bv', rfl, hT4⟩
              have hT5 : TwoS w w6 p p2 v1 v2 wds strs strs wC (.slice aA (cutF (strs.map lst) wds all a).2.1.length ac) bv' (cutF (strs.map lst) wds all a).2.1 (cutF (strs.map lst) wds all (a + (1))).2.1 ((cutF (strs.map lst) wds all a).1, (cutF (strs.map lst) wds all a).2.2) ((cutF (strs.map lst) wds all (a + (1))).1, (cutF (strs.map lst) wds all (a + (1))).2.2) := by rw [FA.out]; exact hT4.swap
              clear hT4 hT3 ou2 ap2 hb2 hT2
              obtain ⟨bB, bcc, rfl, _, _⟩ := own_rd hT5.rb
              have HT5 := Lib.hid hT5
              clear hT5
              go_wp2
              go_loopw [15, 22, 23, 24] (fun av kk _ _ wr => ∃ j : Nat, a ≤ j ∧ j ≤ a + (1) ∧ kk = .int .i64 (j : Int) ∧ TwoS w w6 p p2 v1 v2 wds strs strs wr av (.slice bB (cutF (strs.map lst) wds all (a + (1))).2.1.length bcc) (cutF (strs.map lst) wds all j).2.1 (cutF (strs.map lst) wds all (a + (1))).2.1 ((cutF (strs.map lst) wds all j).1, (cutF (strs.map lst) wds all j).2.2) ((cutF (strs.map lst) wds all (a + (1))).1, (cutF (strs.map lst) wds all (a + (1))).2.2)) (fun _ kk _ _ _ => (a + (1)) - (intOf kk).toNat)
              case atStart => exact ⟨a, Nat.le_refl _, by omega, rfl, HT5.out⟩
              case round =>
                obtain ⟨j, hj1, hj2, rfl, hTj⟩ := hrel
                obtain ⟨jA, jc, rfl, _, _⟩ := own_rd hTj.ra
                by_cases hlj : j < a + (1)
                · have hjl : j < all.length := by omega
                  have g6 : (j : Int) < (a : Int) + 1 := by omega
                  have y5 := (own_rdv (hTj.ints (by decide) OU.out)).cell0 j (by simp [I64]; omega)
                  rw [show (I64 all)[j]? = some (.int .i64 all[j]) by simp [I64, hjl]] at y5
                  have ea := addr_add g 0 j
                  rw [Nat.zero_add] at ea
                  have hok1 : okTs wds.length [all[j]] := fun x hx => by rw [List.mem_singleton.1 hx]; exact RK.out _ (List.getElem_mem _)
                  have FJ0 := cutF_add (strs.map lst) wds all j 1
                  rw [show (all.drop j).take 1 = [all[j]] by rw [List.drop_eq_getElem_cons hjl]; rfl] at FJ0
                  have FJ := Lib.hid FJ0
                  have hb3 : (cutF (strs.map lst) wds all j).2.1.length + (feedU (strs.map lst) wds ((cutF (strs.map lst) wds all j).1, [], (cutF (strs.map lst) wds all j).2.2) [all[j]]).2.1.length ≤ 70368744177664 := by
                    have := HL1.out (j + 1)
                    rw [FJ.out] at this
                    simp only [sh, List.length_append] at this
                    omega
                  clear FJ0
                  generalize all[j] = tk at *
                  go_wp2_with fail
                  have k3 := Blk.new wr #[.int .i64 tk] 3
                  have h3 : Below wr.heap.size wr (wr.alloc (.cells #[.int .i64 tk] 3)) := by go_grown
                  refine ((hTj.below h3).feed (some ⟨wr.heap.size, 0, none⟩) 1 1 [tk] rfl (by omega) (blk_rd k3 rfl) (fun b o h _ => by cases h; have := hTj.lt1; have := hTj.sz; omega) hok1).mono ?_
                  rintro e wD ⟨u3, rfl, ou3, ap3, hT6⟩
                  clear k3 h3 hTj y5
                  obtain ⟨uD, ud, rfl, _, _⟩ := own_rd ou3
                  go_wp2_with fail
                  refine (hT6.join uD _ ud _ ou3 rfl (fun q hq => (ap3 q hq).1) hb3).mono ?_
                  rintro e wE ⟨jv, rfl, hT7⟩
                  have hT8 : TwoS w w6 p p2 v1 v2 wds strs strs wE jv (.slice bB (cutF (strs.map lst) wds all (a + (1))).2.1.length bcc) (cutF (strs.map lst) wds all (j + 1)).2.1 (cutF (strs.map lst) wds all (a + (1))).2.1 ((cutF (strs.map lst) wds all (j + 1)).1, (cutF (strs.map lst) wds all (j + 1)).2.2) ((cutF (strs.map lst) wds all (a + (1))).1, (cutF (strs.map lst) wds all (a + (1))).2.2) := by rw [FJ.out]; exact hT7
                  have HT8 := Lib.hid hT8
                  clear hT6 hT7 ou3 ap3 hb3 hok1
                  obtain ⟨jB, jd, rfl, _, _⟩ := own_rd hT8.ra
                  clear hT8
                  go_wp2
                  go_roundw
                  case rel => exact ⟨j + 1, by omega, by omega, by go_num, HT8.out⟩
                  case measure => simp [intOf]; omega
                · obtain rfl : j = a + (1) := by omega
                  have g6 : ¬ ((a + (1) : Nat) : Int) < (a : Int) + 1 := by omega
                  go_wp2_with fail
                  refine (eqBytes_any jA bB _ _ _ _ _ _ rfl rfl (by have := hTj.ra.1; have := HL1.out (a + (1)); omega) wr (own_rdv hTj.ra) (own_rdv hTj.rb)).mono ?_
                  rintro e wF ⟨rfl, hbF⟩
                  rw [decide_eq_true (rfl : (cutF (strs.map lst) wds all (a + (1))).2.1 = (cutF (strs.map lst) wds all (a + (1))).2.1)]
                  have hT8 := hTj.below hbF
                  clear hTj hbF
                  go_wp2_with fail
                  refine hT8.over.mono ?_
                  rintro e w9 ⟨rfl, rfl⟩
                  go_wp2_with fail
                  refine hT8.swap.over.mono ?_
                  rintro e w9 ⟨rfl, rfl⟩
                  have HT8 := Lib.hid hT8
                  clear hT8
                  obtain ⟨ov, hov⟩ : ∃ ov, (cutF (strs.map lst) wds all (a + (1))).2.2 = ov := ⟨_, rfl⟩
                  dsimp only
                  rw [hov]
                  clear hov
                  go_wp2
                  go_roundw
                  case rel => exact ⟨a + (1), k + 1, by omega, by omega, by go_num, by go_num, HT8.out⟩
                  case measure => simp [intOf]; omega
          · obtain rfl : a = all.length := by omega
            obtain ⟨cl, hcl0⟩ : ∃ cl, (if (cutF (strs.map lst) wds all all.length).2.2 then [] else bI (cutF (strs.map lst) wds all all.length).1) = cl := ⟨_, rfl⟩
            obtain ⟨tl, htl⟩ : ∃ tl, (if (cutF (strs.map lst) wds all all.length).2.2 then (cutF (strs.map lst) wds all all.length).1 else []) = tl := ⟨_, rfl⟩
            have hcl : (cutF (strs.map lst) wds all all.length).2.1.length + cl.length ≤ 70368744177664 := by
              have h1 := HL1.out all.length
              have h2 := hT.t1
              dsimp only at h2
              rw [← hcl0]
              split
              · simp only [List.length_nil]; omega
              · rw [bI_length]; omega
            obtain ⟨tx, htx⟩ : ∃ tx, (cutF (strs.map lst) wds all all.length).2.1 ++ cl = tx := ⟨_, rfl⟩
            have htl2 : tx.length ≤ 70368744177664 := by rw [← htx, List.length_append]; exact hcl
            have HTX := Lib.hid htx
            clear htx
            have HC := Lib.hid hcl0
            have HT9 := Lib.hid htl
            clear hcl0 htl
            have h00 : 0 < wds.length := by omega
            go_wp2_with fail
            refine (hT.close' h00 cl tl HC.out HT9.out).mono ?_
            rintro e wA ⟨u1, rfl, ou1, ap1, hT1⟩
            obtain ⟨uX, ux, rfl, _, _⟩ := own_rd ou1
            clear hT
            go_wp2_with fail
            refine (hT1.join uX _ ux _ ou1 rfl (fun q hq => (ap1 q hq).1) hcl).mono ?_
            rintro e wB ⟨av2, rfl, hT2⟩
            rw [HTX.out] at hT2
            clear ou1 ap1 hT1
            obtain ⟨cA, ca, rfl, _, _⟩ := own_rd hT2.ra
            go_wp2_with fail
            refine (hT2.swap.close' h00 cl tl HC.out HT9.out).mono ?_
            rintro e wC ⟨u2, rfl, ou2, ap2, hT3⟩
            obtain ⟨uY, uy, rfl, _, _⟩ := own_rd ou2
            clear hT2
            go_wp2_with fail
            refine (hT3.join uY _ uy _ ou2 rfl (fun q hq => (ap2 q hq).1) hcl).mono ?_
            rintro e wD ⟨bv2, rfl, hT4⟩
            rw [HTX.out] at hT4
            clear ou2 ap2 hT3
            obtain ⟨cB, cb, rfl, _, _⟩ := own_rd hT4.ra
            go_wp2_with fail
            refine (eqBytes_any cA cB _ _ _ _ tx tx rfl rfl (by omega) wD (own_rdv hT4.rb) (own_rdv hT4.ra)).mono ?_
            rintro e wE ⟨rfl, hbE⟩
            rw [decide_eq_true (rfl : tx = tx)]
            have hT5 := (hT4.below hbE).swap
            clear hT4 hbE
            go_wp2_with fail
            refine hT5.over.mono ?_
            rintro e w9 ⟨rfl, rfl⟩
            go_wp2_with fail
            refine hT5.swap.over.mono ?_
            rintro e w9 ⟨rfl, rfl⟩
            go_wp2_with fail
            refine (hT5.close' h00 [] tl rfl rfl).mono ?_
            rintro e wF ⟨u3, rfl, ou3, _, hT6⟩
            obtain ⟨uZ, uz, rfl, _, _⟩ := own_rd ou3
            have HB := Lib.hid hT6.bl
            clear hT5 hT6 ou3
            go_wp2
            go_returns
            exact ⟨rfl, HB.out⟩
end Go.Proofs.Ytcambbnmeiolgaa
