import Derived.Test.YtcambbnmeiolgaaRunB
namespace Go.Proofs.Ytcambbnmeiolgaa
open Go.RowKit
set_option maxRecDepth 100000 in
set_option maxHeartbeats 16000000 in
/-- TextRunes -/
theorem runes_law (R S K : Option Addr) (rn rc sn sc kn kc : Nat) (rs : List Int) (strs : List ByteArray) (cuts : List Int) (w : World) (hr : rs.length = rn) (rR : Rd w R (rs.map (Value.int .i32))) (hS : strs.length = sn) (rS : Rd w S (strs.map Value.string)) (hsn : sn ≤ 140737488355328) (hk : cuts.length = kn) (rk : Rd w K (I64 cuts)) (hkn : kn ≤ 140737488355328) (hss : ∀ s ∈ strs, s.size ≤ 140737488351232) :
    Calls Try.prog 9 #[.slice R rn rc, .slice S sn sc, .slice K kn kc] w fun e w' => e = .returned (.bool true) ∧ Below w.heap.size w w' := by
  have RR := Lib.hid rR
  have RS := Lib.hid rS
  have RK := Lib.hid rk
  clear rR rS rk
  go_enter Try.func9, Try.ntmps9
  go_wp2_with fail
  refine (long_any _ _).mono ?_
  rintro e w1 ⟨rfl, rfl⟩
  by_cases g1 : (2147483647 : Int) < rn
  · go_wp2
    go_returns
    exact ⟨rfl, Below.refl _ _⟩
  · go_wp2_with fail
    refine (fixed_any _).mono ?_
    rintro e w2 ⟨rfl, hb⟩
    have hB0 : Bld w (w2.alloc (.cells #[.slice none 0 0, .slice none 0 0] 37)) w2.heap.size (.slice none 0 0) (.slice none 0 0) [] [] :=
      ⟨Blk.new w2 _ 37, World.ownsRow_nil _ _ _ _, World.ownsRow_nil _ _ _ _, .inl rfl, hb.alloc hb.size _, hb.size⟩
    have hP0 : BldP [] [] := ⟨by simp, by simp, by simp, whole_nil, by simp, fun _ => rfl⟩
    clear hb
    go_wp2
    generalize hq : w2.heap.size = q at *
    generalize w2.alloc (.cells #[.slice none 0 0, .slice none 0 0] 37) = w3 at *
    clear hq
    rename_i KK aK
    have key : ∀ (a : Act) (wr : World) (t bs : List Int) (tv bv : Value), (∃ us : Nat → Value, a = { tmps := #[.slice R rn rc, .slice S sn sc, .slice K kn kc, undef, undef, undef, .bool false, .bool true, tv, .pointer (some ⟨q, 0, none⟩), us 10, us 11, us 12, us 13, us 14, us 15, us 16, us 17, us 18, us 19, us 20, us 21, us 22, us 23, us 24, us 25, us 26, us 27, us 28, us 29, us 30, us 31, us 32, us 33, us 34, us 35, us 36, us 37, us 38, us 39, us 40, us 41, us 42, us 43, us 44, us 45, us 46, us 47, us 48, us 49, us 50, us 51, us 52, us 53, us 54, us 55, us 56, us 57, us 58, us 59, us 60, us 61, us 62, us 63, us 64, us 65, us 66, us 67, us 68, us 69, us 70, us 71, us 72, us 73, us 74, us 75, us 76, us 77, us 78, us 79, us 80, us 81, us 82, us 83, us 84, us 85, us 86, us 87, us 88, us 89, us 90, us 91, us 92, us 93, us 94, us 95, us 96, us 97, us 98, us 99, us 100, us 101, us 102, us 103, us 104, us 105, us 106, us 107, us 108, us 109, us 110, us 111, us 112, us 113, us 114, us 115, us 116, us 117, us 118, us 119, us 120, us 121, us 122, us 123, us 124, us 125, us 126, us 127, us 128, us 129, us 130, us 131, us 132, us 133, us 134, us 135, us 136, us 137, us 138, us 139, us 140, us 141, us 142, us 143, us 144, us 145, us 146, us 147, us 148, us 149, us 150, us 151, us 152, us 153, us 154, us 155, us 156, us 157, us 158, us 159, us 160, us 161, us 162, us 163, us 164, us 165, us 166, us 167, us 168, us 169, us 170, us 171, us 172, us 173, us 174, us 175, us 176, us 177, us 178, us 179, us 180, us 181, us 182, us 183, us 184, us 185, us 186, us 187, us 188, us 189, us 190, us 191, us 192, us 193, us 194, us 195, us 196, us 197, us 198, us 199, us 200, us 201, us 202, us 203, us 204, us 205, us 206, us 207, us 208, us 209, us 210, us 211, us 212, us 213, us 214, us 215, us 216, us 217, us 218, us 219, us 220, us 221, us 222, us 223, us 224, us 225, us 226, us 227, us 228, us 229, us 230, us 231, us 232, us 233, us 234, us 235, us 236, us 237, us 238, us 239, us 240, us 241, us 242, us 243, us 244, us 245, us 246, us 247, us 248, us 249, us 250, us 251, us 252, us 253, us 254, us 255, us 256, us 257, us 258, us 259, us 260, us 261, us 262, us 263, us 264, us 265, us 266, us 267, us 268, us 269, us 270, us 271, us 272, us 273, us 274, us 275, us 276, us 277, us 278, us 279, us 280], defers := [] }) → t.length ≤ 4 * rn → bs.length ≤ 43 → BldP t bs → Bld w wr q tv bv t bs → KK a wr := by
      rintro a wb t bs tv bv ⟨us, rfl⟩ ht hbs hP hB
      refine aK _ _ ?_
      have HSS := Lib.hid hss
      have HB := Lib.hid hB
      have HP := Lib.hid hP
      obtain ⟨tA, tc, rfl, _, _⟩ := own_rd hB.rt
      clear hB hP hss aK
      go_wp2
      clear KK
      rename_i KK aK
      have key : ∀ (a : Act) (w4 : World) (gs : List ByteArray) (gv : Value), (∃ us : Nat → Value, a = { tmps := #[.slice R rn rc, .slice S sn sc, .slice K kn kc, undef, undef, undef, .bool false, .bool true, .slice tA t.length tc, .pointer (some ⟨q, 0, none⟩), us 10, us 11, us 12, us 13, gv, us 15, us 16, us 17, us 18, us 19, us 20, us 21, us 22, us 23, us 24, us 25, us 26, us 27, us 28, us 29, us 30, us 31, us 32, us 33, us 34, us 35, us 36, us 37, us 38, us 39, us 40, us 41, us 42, us 43, us 44, us 45, us 46, us 47, us 48, us 49, us 50, us 51, us 52, us 53, us 54, us 55, us 56, us 57, us 58, us 59, us 60, us 61, us 62, us 63, us 64, us 65, us 66, us 67, us 68, us 69, us 70, us 71, us 72, us 73, us 74, us 75, us 76, us 77, us 78, us 79, us 80, us 81, us 82, us 83, us 84, us 85, us 86, us 87, us 88, us 89, us 90, us 91, us 92, us 93, us 94, us 95, us 96, us 97, us 98, us 99, us 100, us 101, us 102, us 103, us 104, us 105, us 106, us 107, us 108, us 109, us 110, us 111, us 112, us 113, us 114, us 115, us 116, us 117, us 118, us 119, us 120, us 121, us 122, us 123, us 124, us 125, us 126, us 127, us 128, us 129, us 130, us 131, us 132, us 133, us 134, us 135, us 136, us 137, us 138, us 139, us 140, us 141, us 142, us 143, us 144, us 145, us 146, us 147, us 148, us 149, us 150, us 151, us 152, us 153, us 154, us 155, us 156, us 157, us 158, us 159, us 160, us 161, us 162, us 163, us 164, us 165, us 166, us 167, us 168, us 169, us 170, us 171, us 172, us 173, us 174, us 175, us 176, us 177, us 178, us 179, us 180, us 181, us 182, us 183, us 184, us 185, us 186, us 187, us 188, us 189, us 190, us 191, us 192, us 193, us 194, us 195, us 196, us 197, us 198, us 199, us 200, us 201, us 202, us 203, us 204, us 205, us 206, us 207, us 208, us 209, us 210, us 211, us 212, us 213, us 214, us 215, us 216, us 217, us 218, us 219, us 220, us 221, us 222, us 223, us 224, us 225, us 226, us 227, us 228, us 229, us 230, us 231, us 232, us 233, us 234, us 235, us 236, us 237, us 238, us 239, us 240, us 241, us 242, us 243, us 244, us 245, us 246, us 247, us 248, us 249, us 250, us 251, us 252, us 253, us 254, us 255, us 256, us 257, us 258, us 259, us 260, us 261, us 262, us 263, us 264, us 265, us 266, us 267, us 268, us 269, us 270, us 271, us 272, us 273, us 274, us 275, us 276, us 277, us 278, us 279, us 280], defers := [] }) → gs.length ≤ 4 → (∀ s ∈ gs, 1 ≤ s.size ∧ s.size ≤ 16 ∧ Whole (lst s)) → w4.ownsRow wb.heap.size 9 1 gv gs.length (gs.map Value.string) → Below wb.heap.size wb w4 → KK a w4 := by
        rintro a w4 gs gv ⟨us, rfl⟩ hgl hgs og hb4
        refine aK _ _ ?_
        have HGS := Lib.hid hgs
        have hwf : Wf bs [] := ⟨fun x hx => wf_u8 (HP.out.rb x hx), fun x hx => by cases hx⟩
        obtain ⟨bA, bc, rfl, hbc, _⟩ := own_rd HB.out.rb
        obtain ⟨gA, gc, rfl, _, _⟩ := own_rd og
        have HVB := Lib.hid (show Voc wb bA none bs.length 0 bs [] from ⟨rfl, rfl, by omega, by omega, own_rdv HB.out.rb, .inl rfl⟩)
        have HQ := Lib.hid (HB.out.blk.below hb4)
        have y0 : w4.cell? ⟨q, 0, none⟩ = some (.slice bA bs.length bc) := HQ.out.cell _
        have y1 : w4.cell? ⟨q, 1, none⟩ = some (.slice none 0 0) := HQ.out.cell _
        have hbl4 := bthen HB.out.bl hb4
        have hv4 := HVB.out.below hb4
        have hw4s := hb4.size
        clear aK
        go_wp2_with fail
        refine (new_any bA none gA bs.length 0 gs.length bc 0 gc bs [] gs w4 hv4 hwf rfl (own_rdv og) (by omega)).mono ?_
        rintro e w5 ⟨hb5, h5⟩
        have HQ5 := Lib.hid (HQ.out.below hb5)
        have z0 : w5.cell? ⟨q, 0, none⟩ = some (.slice bA bs.length bc) := HQ5.out.cell _
        have z1 : w5.cell? ⟨q, 1, none⟩ = some (.slice none 0 0) := HQ5.out.cell _
        have hv5 := hv4.below hb5
        have hbl5 := bthen hbl4 hb5
        have HBB := Lib.hid (bthen hb4 hb5)
        clear y0 y1 og hb4 hbl4 hv4
        have N2 := Lib.hid (new_any bA none none bs.length 0 0 bc 0 0 bs [] [] w5 hv5 hwf rfl (.inl rfl) (by omega))
        have BAD := Lib.hid (show ∀ s ∈ gs, ¬ badS s from fun s hs h => by have := HGS.out s hs; unfold badS at h; omega)
        by_cases hb0 : bs = []
        · have e5 : newE bs [] gs = 50 := by rw [hb0]; exact newE_voc voc_none
          have e6 : newE bs [] [] = 50 := by rw [hb0]; exact newE_voc voc_none
          have HL0 := Lib.hid (show bs.length = 0 by rw [hb0]; rfl)
          have E6 := Lib.hid e6
          clear hb0 e6
          rcases h5 with ⟨_, rfl⟩ | ⟨he0, _⟩
          · rw [e5]
            clear e5
            go_wp2_with fail
            refine N2.out.mono ?_
            rintro e w6 ⟨hb6, (⟨_, rfl⟩ | ⟨he0, _⟩)⟩
            · rw [E6.out]
              have HBL := Lib.hid (bthen hbl5 hb6)
              have x0 : w6.cell? ⟨q, 0, none⟩ = some (.slice bA bs.length bc) := (HQ5.out.below hb6).cell _
              rw [HL0.out] at x0
              clear hbl5 hb6 z0 z1 N2 hv5 hbc
              go_wp2
              go_returns
              exact ⟨rfl, HBL.out⟩
            · rw [E6.out] at he0; cases he0
          · rw [e5] at he0; cases he0
        · have hbl0 : 1 ≤ bs.length := List.length_pos_iff.2 hb0
          have hvoc := voc_base HP.out.nd hbl0 hbs
          have e5 : newE bs [] gs = 0 := newE_ok hvoc hgl BAD.out
          have e6 : newE bs [] [] = 0 := newE_ok hvoc (by simp) (by simp)
          have eE := err_known hvoc HP.out.al
          rcases h5 with ⟨h, _⟩ | ⟨_, p, hp, rfl, hs⟩
          · exact absurd e5 h
          · have hpl0 := hs.lt
            go_wp2_with fail
            refine N2.out.mono ?_
            rintro e w6 ⟨hb6, (⟨h, _⟩ | ⟨_, p2, hp2, rfl, hs2⟩)⟩
            · exact absurd e6 h
            · have HQ6 := Lib.hid (HQ5.out.below hb6)
              have x0 : w6.cell? ⟨q, 0, none⟩ = some (.slice bA bs.length bc) := HQ6.out.cell _
              have x1 : w6.cell? ⟨q, 1, none⟩ = some (.slice none 0 0) := HQ6.out.cell _
              have hv6 := hv5.below hb6
              have hbl6 := bthen hbl5 hb6
              have rdt := (own_rdv HB.out.rt).below (bthen HBB.out hb6)
              replace hs := hs.below hb6
              have hqw := HB.out.qz
              have hql := HB.out.blk.lt
              have hw5 := HBB.out.size
              clear z0 z1 N2 hv5 hbl5
              have g7 : ¬ (bs.length : Int) = 0 := by omega
              go_wp2_with fail
              refine (encode_any bA none tA bs.length 0 t.length bc 0 tc bs [] t w6 hv6 hwf rfl rdt (fun b hb => wf_u8 (HP.out.rt b hb)) (by omega)).mono ?_
              rintro e w7 ⟨ve, rfl, oe, hb7⟩
              rw [eE]
              obtain ⟨uA, uc, rfl, hcap, _⟩ := own_rd oe
              have hel := enc_len bs [] t
              replace hs := hs.below hb7
              replace hs2 := hs2.below hb7
              have hb := bthen hbl6 hb7
              have htk := newE_some e6
              obtain ⟨v1, v2, hT0⟩ := two_new hb hs hs2 (by omega) (by omega) (by omega)
              have RP := Lib.hid (@enc_pos bs [] t)
              obtain ⟨hok, hcame⟩ : okTs (toks bs []).length (encL bs [] t) ∧ cameU (toks bs []) (encL bs [] t) = t := by
                rcases enc_what hvoc t with h | ⟨_, h⟩
                · rw [eE] at h; cases h
                · exact h
              have OT := Lib.hid (own_below (own_below HB.out.rt (bthen HBB.out hb6)) hb7)
              clear x0 x1 hb7 hs hs2 hb hv6 hbl6 rdt eE e5 e6 hvoc hp hp2 hb6 HBB HQ6 HQ5 HQ BAD hb5 hw4s hql hqw hw5 hpl0
              generalize encL bs [] t = all at *
              obtain ⟨wds, hwds⟩ : ∃ wds, toks bs [] = wds := ⟨_, rfl⟩
              rw [hwds] at hT0 htk hok hcame
              clear hwds
              have HC := Lib.hid hcame
              have OK := Lib.hid hok
              have HWS := Lib.hid (show ∀ s ∈ gs.map lst, Whole s from fun s hs => by obtain ⟨x, hx, rfl⟩ := List.mem_map.1 hs; exact (HGS.out x hx).2.2)
              have HWT := Lib.hid (show Whole ((cameU wds all).map u8) by rw [hcame]; exact HP.out.wh)
              have HL1 := Lib.hid (fun j => cutF_len ([] : List (List UInt8)) wds (fun s hs => by cases hs) (fun y hy => (hT0.st1.w16 y hy).1) all j)
              have HL2 := Lib.hid (fun j => cutF_len (gs.map lst) wds hT0.st1.lens (fun y hy => (hT0.st1.w16 y hy).1) all j)
              have NV := Lib.hid (show ∀ j, (cutF [] wds all j).2.2 = false ∧ (cutF [] wds all j).1.length ≤ 3 from fun j => feedU_nil wds (all.take j) ([], [], false) (fun y hy => RP.out y (List.mem_of_mem_take hy)) rfl (by simp))
              have KP := Lib.hid (fun j => feedU_keep ([] : List (List UInt8)) wds hT0.st1.w16 (all.take j) ([], [], false) (fun y hy => RP.out y (List.mem_of_mem_take hy)) rfl (NV.out j).1)
              have OE := Lib.hid oe
              have RKK := Lib.hid (show ∀ w', Below w.heap.size w w' → Rd w' K (I64 cuts) from fun w' h => RK.out.below h)
              have htl := ht
              clear oe hcame hok HP HGS hwf HVB HB
              go_wp2
              go_loopw [23, 24, 25, 26, 27, 28, 29, 30, 31, 32] (fun av ai i _ _ _ _ _ _ _ wr => ∃ (a k : Nat) (x : Unit), a ≤ all.length ∧ k ≤ a ∧ ai = .int .i64 (a : Int) ∧ i = .int .i64 (k : Int) ∧ TwoS w w7 p p2 v1 v2 wds gs [] wr av (.slice none 0 0) (cutF [] wds all a).2.1 [] ((cutF (gs.map lst) wds all a).1, (cutF (gs.map lst) wds all a).2.2) ((cutF [] wds all a).1, false)) (fun _ ai _ _ _ _ _ _ _ _ _ => all.length - (intOf ai).toNat)
              case atStart => exact ⟨0, 0, (), by omega, by omega, rfl, rfl, hT0⟩
              case round =>
                obtain ⟨a, k, _, ha, hka, rfl, rfl, hT⟩ := hrel
                obtain ⟨aA, ac, rfl, _, _⟩ := own_rd hT.ra
                by_cases hlt : a < all.length
                · have g2 : (a : Int) < (all.length : Int) := by omega
                  have rku := RKK.out _ hT.bl
                  obtain ⟨g, rfl⟩ : ∃ g, uA = some ⟨g, 0, none⟩ := by
                    rcases OE.out.2 with ⟨_, h⟩ | ⟨g, _, _, h, _⟩
                    · omega
                    · injection h with h1; exact ⟨g, h1⟩
                  have ea := addr_add g 0 a
                  rw [Nat.zero_add] at ea
                  obtain ⟨nn, hnn⟩ : ∃ nn : Nat, (all.length : Int) - (a : Int) = (nn : Int) := ⟨all.length - a, by omega⟩
                  have hs8 : (a : Int) + (nn : Int) ≤ 34359738400 := by omega
                  have hn1 : 1 ≤ nn := by omega
                  have hn1' : (1 : Int) ≤ (nn : Int) := by omega
                  by_cases hkk : k < kn
                  · have g3 : (k : Int) < (kn : Int) := by omega
                    obtain ⟨b, of, rfl, y9⟩ := rku.i64 k (by omega)
                    have eb := addr_add b of k
                    generalize cuts[k]'(by omega) = z at *
                    have hzm := tmod_lt (n := 3) (by omega) z
                    by_cases hz0 : z.tmod 3 < 0
                    · obtain ⟨r, hr⟩ : ∃ r : Nat, z.tmod 3 = -(r : Int) := ⟨(-(z.tmod 3)).toNat, by omega⟩
                      have hr1 : 1 + -(r : Int) < 1 := by omega
                      have hr2 : (r : Int) ≤ 2 := by omega
                      have g4 : ¬ (nn : Int) < 1 := by omega
                      clear rku hzm
                      have NA := (NV.out a).1
                      have NB := (NV.out (a + 1)).1
                      have FA := cutF_add ([] : List (List UInt8)) wds all a 1
                      have FG := cutF_add (gs.map lst) wds all a 1
                      rw [NA] at FA
                      have W1 := piece_run HWS.out RP.out HWT.out a 1
                      have W2 := piece_run (sts := ([] : List (List UInt8))) (fun s hs => by cases hs) RP.out HWT.out a 1
                      rw [NA] at W2
                      obtain ⟨Sx, hSx⟩ : ∃ Sx, feedU [] wds ((cutF [] wds all a).1, [], false) ((all.drop a).take 1) = Sx := ⟨_, rfl⟩
                      obtain ⟨Sg, hSg⟩ : ∃ Sg, feedU (gs.map lst) wds ((cutF (gs.map lst) wds all a).1, [], (cutF (gs.map lst) wds all a).2.2) ((all.drop a).take 1) = Sg := ⟨_, rfl⟩
                      have SX := Lib.hid hSx
                      rw [hSx] at FA W2
                      rw [hSg] at FG W1
                      have hz : (cutF [] wds all a).2.1.length + Sx.2.1.length ≤ 70368744177664 := by
                        have := HL1.out (a + 1)
                        rw [FA] at this
                        simp only [sh, List.length_append] at this
                        omega
                      have hzg : Sg.2.1.length ≤ 140737488355328 := by
                        have := HL2.out (a + 1)
                        rw [FG] at this
                        simp only [sh, List.length_append] at this
                        omega
                      have hov : Sx.2.2 = false := by rw [FA] at NB; exact NB
                      have HO := Lib.hid (show (cutF [] wds all a).2.1 ++ Sx.2.1 = (cutF [] wds all (a + 1)).2.1 by rw [FA]; rfl)
                      have HTT := Lib.hid (show (cutF [] wds all (a + 1)).1 = Sx.1 by rw [FA]; rfl)
                      have HG1 := Lib.hid (show (cutF (gs.map lst) wds all (a + 1)).1 = Sg.1 ∧ (cutF (gs.map lst) wds all (a + 1)).2.2 = Sg.2.2 by rw [FG]; exact ⟨rfl, rfl⟩)
                      have HW1 := Lib.hid W1
                      have HW2 := Lib.hid W2
                      have hF1 := hT.feed2 (some ⟨g, a, none⟩) 1 (uc - a) ((all.drop a).take 1) (by rw [List.length_take, List.length_drop]; omega) (by omega) (rd_piece (own_rdv (hT.ints (by decide) OE.out)) a 1 (by omega)) (fun b o h _ => by cases h; obtain ⟨cs, hb⟩ := hT.b1; exact fun he => hb.not_row (by decide) OE.out (by rw [← he]; rfl)) (fun y hy => OK.out y (List.mem_of_mem_drop (List.mem_of_mem_take hy))) Sg hSg
                      clear FA FG NA NB hSx hSg W1 W2
                      go_wp2_with fail
                      refine hF1.mono ?_
                      clear hF1
                      rintro e wB ⟨uB, ub, rfl, ou2, _, hT3⟩
                      have hF2 := hT3.swap.feed2 (some ⟨g, a, none⟩) 1 (uc - a) ((all.drop a).take 1) (by rw [List.length_take, List.length_drop]; omega) (by omega) (rd_piece (own_rdv (hT3.ints (by decide) OE.out)) a 1 (by omega)) (fun b o h _ => by cases h; obtain ⟨cs, hb⟩ := hT3.b2; exact fun he => hb.not_row (by decide) OE.out (by rw [← he]; rfl)) (fun y hy => OK.out y (List.mem_of_mem_drop (List.mem_of_mem_take hy))) Sx SX.out
                      go_wp2_with fail
                      refine hF2.mono ?_
                      clear hF2
                      rintro e wC ⟨uC, ud, rfl, ou3, kp3, hT4⟩
                      have ou2' := kp3 _ _ _ _ _ _ hT.sz ou2
                      have ap3 := hT3.fresh ou3
                      clear hT hT3 kp3 ou2
                      replace hT4 := hT4.swap
                      go_wp2_with fail
                      refine (valid_any uB _ ub Sg.2.1 wC rfl (own_rdv ou2') (by omega)).mono ?_
                      rintro e wD ⟨b1, rfl, hb1, hbD⟩
                      obtain rfl : b1 = true := hb1.2 HW1.out
                      replace hT4 := hT4.below hbD
                      replace ou3 := own_below ou3 hbD
                      clear ou2' hb1 hbD
                      go_wp2_with fail
                      refine (valid_any uC _ ud Sx.2.1 wD rfl (own_rdv ou3) (by omega)).mono ?_
                      rintro e wE ⟨b2, rfl, hb2, hbE⟩
                      obtain rfl : b2 = true := hb2.2 HW2.out
                      replace hT4 := hT4.below hbE
                      replace ou3 := own_below ou3 hbE
                      clear hb2 hbE
                      go_wp2_with fail
                      refine (hT4.join2 _ uC _ ud Sx.2.1 _ ou3 rfl (fun q hq => ap3.1 q hq) hz HO.out).mono ?_
                      rintro e wF ⟨aB, ad, rfl, _, hT6⟩
                      rw [hov, ← HTT.out, ← HG1.out.1, ← HG1.out.2] at hT6
                      have HT := Lib.hid hT6
                      clear hT4 ou3 hT6 hz hzg hov ap3
                      go_wp2
                      go_roundw
                      case rel => exact ⟨a + 1, k + 1, (), by omega, by omega, by go_num, by go_num, HT.out⟩
                      case measure => simp [intOf]; omega
                    · obtain ⟨r, hr⟩ : ∃ r : Nat, z.tmod 3 = (r : Int) := ⟨(z.tmod 3).toNat, by omega⟩
                      have hr2 : (r : Int) ≤ 2 := by omega
                      obtain ⟨m, hm⟩ : ∃ m : Nat, 1 + (r : Int) = (m : Int) := ⟨1 + r, by omega⟩
                      have hm1 : ¬ (m : Int) < 1 := by omega
                      have hm1' : 1 ≤ m := by omega
                      have hm3 : (m : Int) ≤ 3 := by omega
                      by_cases hgt : nn < m
                      · have g4 : (nn : Int) < (m : Int) := by omega
                        clear rku hzm
                        have NA := (NV.out a).1
                        have NB := (NV.out (a + nn)).1
                        have FA := cutF_add ([] : List (List UInt8)) wds all a nn
                        have FG := cutF_add (gs.map lst) wds all a nn
                        rw [NA] at FA
                        have W1 := piece_run HWS.out RP.out HWT.out a nn
                        have W2 := piece_run (sts := ([] : List (List UInt8))) (fun s hs => by cases hs) RP.out HWT.out a nn
                        rw [NA] at W2
                        obtain ⟨Sx, hSx⟩ : ∃ Sx, feedU [] wds ((cutF [] wds all a).1, [], false) ((all.drop a).take nn) = Sx := ⟨_, rfl⟩
                        obtain ⟨Sg, hSg⟩ : ∃ Sg, feedU (gs.map lst) wds ((cutF (gs.map lst) wds all a).1, [], (cutF (gs.map lst) wds all a).2.2) ((all.drop a).take nn) = Sg := ⟨_, rfl⟩
                        have SX := Lib.hid hSx
                        rw [hSx] at FA W2
                        rw [hSg] at FG W1
                        have hz : (cutF [] wds all a).2.1.length + Sx.2.1.length ≤ 70368744177664 := by
                          have := HL1.out (a + nn)
                          rw [FA] at this
                          simp only [sh, List.length_append] at this
                          omega
                        have hzg : Sg.2.1.length ≤ 140737488355328 := by
                          have := HL2.out (a + nn)
                          rw [FG] at this
                          simp only [sh, List.length_append] at this
                          omega
                        have hov : Sx.2.2 = false := by rw [FA] at NB; exact NB
                        have HO := Lib.hid (show (cutF [] wds all a).2.1 ++ Sx.2.1 = (cutF [] wds all (a + nn)).2.1 by rw [FA]; rfl)
                        have HTT := Lib.hid (show (cutF [] wds all (a + nn)).1 = Sx.1 by rw [FA]; rfl)
                        have HG1 := Lib.hid (show (cutF (gs.map lst) wds all (a + nn)).1 = Sg.1 ∧ (cutF (gs.map lst) wds all (a + nn)).2.2 = Sg.2.2 by rw [FG]; exact ⟨rfl, rfl⟩)
                        have HW1 := Lib.hid W1
                        have HW2 := Lib.hid W2
                        have hF1 := hT.feed2 (some ⟨g, a, none⟩) nn (uc - a) ((all.drop a).take nn) (by rw [List.length_take, List.length_drop]; omega) (by omega) (rd_piece (own_rdv (hT.ints (by decide) OE.out)) a nn (by omega)) (fun b o h _ => by cases h; obtain ⟨cs, hb⟩ := hT.b1; exact fun he => hb.not_row (by decide) OE.out (by rw [← he]; rfl)) (fun y hy => OK.out y (List.mem_of_mem_drop (List.mem_of_mem_take hy))) Sg hSg
                        clear FA FG NA NB hSx hSg W1 W2
                        go_wp2_with fail
                        refine hF1.mono ?_
                        clear hF1
                        rintro e wB ⟨uB, ub, rfl, ou2, _, hT3⟩
                        have hF2 := hT3.swap.feed2 (some ⟨g, a, none⟩) nn (uc - a) ((all.drop a).take nn) (by rw [List.length_take, List.length_drop]; omega) (by omega) (rd_piece (own_rdv (hT3.ints (by decide) OE.out)) a nn (by omega)) (fun b o h _ => by cases h; obtain ⟨cs, hb⟩ := hT3.b2; exact fun he => hb.not_row (by decide) OE.out (by rw [← he]; rfl)) (fun y hy => OK.out y (List.mem_of_mem_drop (List.mem_of_mem_take hy))) Sx SX.out
                        go_wp2_with fail
                        refine hF2.mono ?_
                        clear hF2
                        rintro e wC ⟨uC, ud, rfl, ou3, kp3, hT4⟩
                        have ou2' := kp3 _ _ _ _ _ _ hT.sz ou2
                        have ap3 := hT3.fresh ou3
                        clear hT hT3 kp3 ou2
                        replace hT4 := hT4.swap
                        go_wp2_with fail
                        refine (valid_any uB _ ub Sg.2.1 wC rfl (own_rdv ou2') (by omega)).mono ?_
                        rintro e wD ⟨b1, rfl, hb1, hbD⟩
                        obtain rfl : b1 = true := hb1.2 HW1.out
                        replace hT4 := hT4.below hbD
                        replace ou3 := own_below ou3 hbD
                        clear ou2' hb1 hbD
                        go_wp2_with fail
                        refine (valid_any uC _ ud Sx.2.1 wD rfl (own_rdv ou3) (by omega)).mono ?_
                        rintro e wE ⟨b2, rfl, hb2, hbE⟩
                        obtain rfl : b2 = true := hb2.2 HW2.out
                        replace hT4 := hT4.below hbE
                        replace ou3 := own_below ou3 hbE
                        clear hb2 hbE
                        go_wp2_with fail
                        refine (hT4.join2 _ uC _ ud Sx.2.1 _ ou3 rfl (fun q hq => ap3.1 q hq) hz HO.out).mono ?_
                        rintro e wF ⟨aB, ad, rfl, _, hT6⟩
                        rw [hov, ← HTT.out, ← HG1.out.1, ← HG1.out.2] at hT6
                        have HT := Lib.hid hT6
                        clear hT4 ou3 hT6 hz hzg hov ap3
                        go_wp2
                        go_roundw
                        case rel => exact ⟨a + nn, k + 1, (), by omega, by omega, by go_num, by go_num, HT.out⟩
                        case measure => simp [intOf]; omega
                      · have g4 : ¬ (nn : Int) < (m : Int) := by omega
                        have hs9 : (a : Int) + (m : Int) ≤ 34359738400 := by omega
                        clear rku hzm
                        have NA := (NV.out a).1
                        have NB := (NV.out (a + m)).1
                        have FA := cutF_add ([] : List (List UInt8)) wds all a m
                        have FG := cutF_add (gs.map lst) wds all a m
                        rw [NA] at FA
                        have W1 := piece_run HWS.out RP.out HWT.out a m
                        have W2 := piece_run (sts := ([] : List (List UInt8))) (fun s hs => by cases hs) RP.out HWT.out a m
                        rw [NA] at W2
                        obtain ⟨Sx, hSx⟩ : ∃ Sx, feedU [] wds ((cutF [] wds all a).1, [], false) ((all.drop a).take m) = Sx := ⟨_, rfl⟩
                        obtain ⟨Sg, hSg⟩ : ∃ Sg, feedU (gs.map lst) wds ((cutF (gs.map lst) wds all a).1, [], (cutF (gs.map lst) wds all a).2.2) ((all.drop a).take m) = Sg := ⟨_, rfl⟩
                        have SX := Lib.hid hSx
                        rw [hSx] at FA W2
                        rw [hSg] at FG W1
                        have hz : (cutF [] wds all a).2.1.length + Sx.2.1.length ≤ 70368744177664 := by
                          have := HL1.out (a + m)
                          rw [FA] at this
                          simp only [sh, List.length_append] at this
                          omega
                        have hzg : Sg.2.1.length ≤ 140737488355328 := by
                          have := HL2.out (a + m)
                          rw [FG] at this
                          simp only [sh, List.length_append] at this
                          omega
                        have hov : Sx.2.2 = false := by rw [FA] at NB; exact NB
                        have HO := Lib.hid (show (cutF [] wds all a).2.1 ++ Sx.2.1 = (cutF [] wds all (a + m)).2.1 by rw [FA]; rfl)
                        have HTT := Lib.hid (show (cutF [] wds all (a + m)).1 = Sx.1 by rw [FA]; rfl)
                        have HG1 := Lib.hid (show (cutF (gs.map lst) wds all (a + m)).1 = Sg.1 ∧ (cutF (gs.map lst) wds all (a + m)).2.2 = Sg.2.2 by rw [FG]; exact ⟨rfl, rfl⟩)
                        have HW1 := Lib.hid W1
                        have HW2 := Lib.hid W2
                        have hF1 := hT.feed2 (some ⟨g, a, none⟩) m (uc - a) ((all.drop a).take m) (by rw [List.length_take, List.length_drop]; omega) (by omega) (rd_piece (own_rdv (hT.ints (by decide) OE.out)) a m (by omega)) (fun b o h _ => by cases h; obtain ⟨cs, hb⟩ := hT.b1; exact fun he => hb.not_row (by decide) OE.out (by rw [← he]; rfl)) (fun y hy => OK.out y (List.mem_of_mem_drop (List.mem_of_mem_take hy))) Sg hSg
                        clear FA FG NA NB hSx hSg W1 W2
                        go_wp2_with fail
                        refine hF1.mono ?_
                        clear hF1
                        rintro e wB ⟨uB, ub, rfl, ou2, _, hT3⟩
                        have hF2 := hT3.swap.feed2 (some ⟨g, a, none⟩) m (uc - a) ((all.drop a).take m) (by rw [List.length_take, List.length_drop]; omega) (by omega) (rd_piece (own_rdv (hT3.ints (by decide) OE.out)) a m (by omega)) (fun b o h _ => by cases h; obtain ⟨cs, hb⟩ := hT3.b2; exact fun he => hb.not_row (by decide) OE.out (by rw [← he]; rfl)) (fun y hy => OK.out y (List.mem_of_mem_drop (List.mem_of_mem_take hy))) Sx SX.out
                        go_wp2_with fail
                        refine hF2.mono ?_
                        clear hF2
                        rintro e wC ⟨uC, ud, rfl, ou3, kp3, hT4⟩
                        have ou2' := kp3 _ _ _ _ _ _ hT.sz ou2
                        have ap3 := hT3.fresh ou3
                        clear hT hT3 kp3 ou2
                        replace hT4 := hT4.swap
                        go_wp2_with fail
                        refine (valid_any uB _ ub Sg.2.1 wC rfl (own_rdv ou2') (by omega)).mono ?_
                        rintro e wD ⟨b1, rfl, hb1, hbD⟩
                        obtain rfl : b1 = true := hb1.2 HW1.out
                        replace hT4 := hT4.below hbD
                        replace ou3 := own_below ou3 hbD
                        clear ou2' hb1 hbD
                        go_wp2_with fail
                        refine (valid_any uC _ ud Sx.2.1 wD rfl (own_rdv ou3) (by omega)).mono ?_
                        rintro e wE ⟨b2, rfl, hb2, hbE⟩
                        obtain rfl : b2 = true := hb2.2 HW2.out
                        replace hT4 := hT4.below hbE
                        replace ou3 := own_below ou3 hbE
                        clear hb2 hbE
                        go_wp2_with fail
                        refine (hT4.join2 _ uC _ ud Sx.2.1 _ ou3 rfl (fun q hq => ap3.1 q hq) hz HO.out).mono ?_
                        rintro e wF ⟨aB, ad, rfl, _, hT6⟩
                        rw [hov, ← HTT.out, ← HG1.out.1, ← HG1.out.2] at hT6
                        have HT := Lib.hid hT6
                        clear hT4 ou3 hT6 hz hzg hov ap3
                        go_wp2
                        go_roundw
                        case rel => exact ⟨a + m, k + 1, (), by omega, by omega, by go_num, by go_num, HT.out⟩
                        case measure => simp [intOf]; omega
                  · have g3 : ¬ (k : Int) < (kn : Int) := by omega
                    have g4 : ¬ (nn : Int) < 1 := by omega
                    clear rku
                    have NA := (NV.out a).1
                    have NB := (NV.out (a + 1)).1
                    have FA := cutF_add ([] : List (List UInt8)) wds all a 1
                    have FG := cutF_add (gs.map lst) wds all a 1
                    rw [NA] at FA
                    have W1 := piece_run HWS.out RP.out HWT.out a 1
                    have W2 := piece_run (sts := ([] : List (List UInt8))) (fun s hs => by cases hs) RP.out HWT.out a 1
                    rw [NA] at W2
                    obtain ⟨Sx, hSx⟩ : ∃ Sx, feedU [] wds ((cutF [] wds all a).1, [], false) ((all.drop a).take 1) = Sx := ⟨_, rfl⟩
                    obtain ⟨Sg, hSg⟩ : ∃ Sg, feedU (gs.map lst) wds ((cutF (gs.map lst) wds all a).1, [], (cutF (gs.map lst) wds all a).2.2) ((all.drop a).take 1) = Sg := ⟨_, rfl⟩
                    have SX := Lib.hid hSx
                    rw [hSx] at FA W2
                    rw [hSg] at FG W1
                    have hz : (cutF [] wds all a).2.1.length + Sx.2.1.length ≤ 70368744177664 := by
                      have := HL1.out (a + 1)
                      rw [FA] at this
                      simp only [sh, List.length_append] at this
                      omega
                    have hzg : Sg.2.1.length ≤ 140737488355328 := by
                      have := HL2.out (a + 1)
                      rw [FG] at this
                      simp only [sh, List.length_append] at this
                      omega
                    have hov : Sx.2.2 = false := by rw [FA] at NB; exact NB
                    have HO := Lib.hid (show (cutF [] wds all a).2.1 ++ Sx.2.1 = (cutF [] wds all (a + 1)).2.1 by rw [FA]; rfl)
                    have HTT := Lib.hid (show (cutF [] wds all (a + 1)).1 = Sx.1 by rw [FA]; rfl)
                    have HG1 := Lib.hid (show (cutF (gs.map lst) wds all (a + 1)).1 = Sg.1 ∧ (cutF (gs.map lst) wds all (a + 1)).2.2 = Sg.2.2 by rw [FG]; exact ⟨rfl, rfl⟩)
                    have HW1 := Lib.hid W1
                    have HW2 := Lib.hid W2
                    have hF1 := hT.feed2 (some ⟨g, a, none⟩) 1 (uc - a) ((all.drop a).take 1) (by rw [List.length_take, List.length_drop]; omega) (by omega) (rd_piece (own_rdv (hT.ints (by decide) OE.out)) a 1 (by omega)) (fun b o h _ => by cases h; obtain ⟨cs, hb⟩ := hT.b1; exact fun he => hb.not_row (by decide) OE.out (by rw [← he]; rfl)) (fun y hy => OK.out y (List.mem_of_mem_drop (List.mem_of_mem_take hy))) Sg hSg
                    clear FA FG NA NB hSx hSg W1 W2
                    go_wp2_with fail
                    refine hF1.mono ?_
                    clear hF1
                    rintro e wB ⟨uB, ub, rfl, ou2, _, hT3⟩
                    have hF2 := hT3.swap.feed2 (some ⟨g, a, none⟩) 1 (uc - a) ((all.drop a).take 1) (by rw [List.length_take, List.length_drop]; omega) (by omega) (rd_piece (own_rdv (hT3.ints (by decide) OE.out)) a 1 (by omega)) (fun b o h _ => by cases h; obtain ⟨cs, hb⟩ := hT3.b2; exact fun he => hb.not_row (by decide) OE.out (by rw [← he]; rfl)) (fun y hy => OK.out y (List.mem_of_mem_drop (List.mem_of_mem_take hy))) Sx SX.out
                    go_wp2_with fail
                    refine hF2.mono ?_
                    clear hF2
                    rintro e wC ⟨uC, ud, rfl, ou3, kp3, hT4⟩
                    have ou2' := kp3 _ _ _ _ _ _ hT.sz ou2
                    have ap3 := hT3.fresh ou3
                    clear hT hT3 kp3 ou2
                    replace hT4 := hT4.swap
                    go_wp2_with fail
                    refine (valid_any uB _ ub Sg.2.1 wC rfl (own_rdv ou2') (by omega)).mono ?_
                    rintro e wD ⟨b1, rfl, hb1, hbD⟩
                    obtain rfl : b1 = true := hb1.2 HW1.out
                    replace hT4 := hT4.below hbD
                    replace ou3 := own_below ou3 hbD
                    clear ou2' hb1 hbD
                    go_wp2_with fail
                    refine (valid_any uC _ ud Sx.2.1 wD rfl (own_rdv ou3) (by omega)).mono ?_
                    rintro e wE ⟨b2, rfl, hb2, hbE⟩
                    obtain rfl : b2 = true := hb2.2 HW2.out
                    replace hT4 := hT4.below hbE
                    replace ou3 := own_below ou3 hbE
                    clear hb2 hbE
                    go_wp2_with fail
                    refine (hT4.join2 _ uC _ ud Sx.2.1 _ ou3 rfl (fun q hq => ap3.1 q hq) hz HO.out).mono ?_
                    rintro e wF ⟨aB, ad, rfl, _, hT6⟩
                    rw [hov, ← HTT.out, ← HG1.out.1, ← HG1.out.2] at hT6
                    have HT := Lib.hid hT6
                    clear hT4 ou3 hT6 hz hzg hov ap3
                    go_wp2
                    go_roundw
                    case rel => exact ⟨a + 1, k + 1, (), by omega, by omega, by go_num, by go_num, HT.out⟩
                    case measure => simp [intOf]; omega
                · obtain rfl : a = all.length := by omega
                  have hkp := KP.out all.length
                  have hcl := HC.out
                  rw [List.take_length] at hkp
                  rw [hcl] at hkp
                  have hkp2 : (cutF [] wds all all.length).2.1 ++ bI (cutF [] wds all all.length).1 = t := by unfold cutF; rw [List.take_length]; exact hkp
                  have hT3l := (NV.out all.length).2
                  have hER := end_run HWS.out RP.out HWT.out
                  have hg18 := hT.t1
                  obtain ⟨o, ho⟩ : ∃ o, (cutF [] wds all all.length).2.1 = o := ⟨_, rfl⟩
                  obtain ⟨tl, htl⟩ : ∃ tl, (cutF [] wds all all.length).1 = tl := ⟨_, rfl⟩
                  obtain ⟨gtl, hgtl⟩ : ∃ gtl, (cutF (gs.map lst) wds all all.length).1 = gtl := ⟨_, rfl⟩
                  obtain ⟨gov, hgov⟩ : ∃ gov, (cutF (gs.map lst) wds all all.length).2.2 = gov := ⟨_, rfl⟩
                  rw [ho, htl, hgtl, hgov] at hT
                  rw [ho, htl] at hkp2
                  rw [hgtl, hgov] at hER
                  rw [htl] at hT3l
                  rw [hgtl] at hg18
                  rw [ho]
                  obtain ⟨o2, ho2⟩ : ∃ o2, (if gov then [] else bI gtl) = o2 := ⟨_, rfl⟩
                  obtain ⟨t2, ht2⟩ : ∃ t2, (if gov then gtl else []) = t2 := ⟨_, rfl⟩
                  rw [ho2] at hER
                  have ho2l : o2.length ≤ 18 := by rw [← ho2]; split; simp; rw [bI_length]; exact hg18
                  clear ho htl hgtl hgov hkp hcl
                  have HKP := Lib.hid hkp2
                  have HER := Lib.hid hER
                  have hol : o.length + tl.length = t.length := by rw [← hkp2, List.length_append, bI_length]
                  have h00 : 0 < wds.length := by omega
                  have hF := hT.close2 h00 o2 t2 ho2 ht2
                  clear hkp2 hER ho2 ht2 hg18 hT3l
                  go_wp2_with fail
                  refine hF.mono ?_
                  clear hF
                  rintro e wB ⟨uB, ub, rfl, ou2, _, hT4⟩
                  clear hT
                  go_wp2_with fail
                  refine (valid_any uB _ ub o2 wB rfl (own_rdv ou2) (by omega)).mono ?_
                  rintro e wC ⟨b1, rfl, hb1, hbC⟩
                  obtain rfl : b1 = true := hb1.2 HER.out
                  replace hT4 := hT4.below hbC
                  clear ou2 hb1 hbC
                  go_wp2_with fail
                  refine (hT4.swap.close2 h00 (bI tl) [] rfl rfl).mono ?_
                  rintro e wD ⟨uC, ud, rfl, ou3, _, hT5⟩
                  have ap3 := hT4.swap.fresh ou3
                  replace hT5 := hT5.swap
                  clear hT4
                  have hol2 : o.length + (bI tl).length ≤ 70368744177664 := by rw [bI_length]; omega
                  go_wp2_with fail
                  refine (hT5.join2 _ uC _ ud (bI tl) t ou3 rfl (fun q hq => ap3.2 q hq) hol2 HKP.out).mono ?_
                  rintro e wE ⟨aB, ad, rfl, _, hT6⟩
                  clear hT5 ou3 ap3
                  have rx := own_rdv (hT6.ints (by decide) OT.out)
                  have ro := own_rdv hT6.ra
                  go_wp2_with fail
                  refine (eqBytes_any aB tA _ _ _ _ t t rfl rfl (by omega) wE ro rx).mono ?_
                  rintro e wF ⟨rfl, hbF⟩
                  rw [decide_eq_true (rfl : t = t)]
                  have HBL := Lib.hid (hT6.below hbF).bl
                  clear hT6 hbF rx ro
                  go_wp2
                  go_returns
                  exact ⟨rfl, HBL.out⟩
      clear aK
      go_loopw [14, 15, 16] (fun gv iv _ w4 => ∃ (i : Nat) (gs : List ByteArray), i ≤ sn ∧ iv = .int .i64 (i : Int) ∧ gs.length ≤ i ∧ i ≤ 4 ∧ (∀ s ∈ gs, 1 ≤ s.size ∧ s.size ≤ 16 ∧ Whole (lst s)) ∧ w4.ownsRow wb.heap.size 9 1 gv gs.length (gs.map Value.string) ∧ Below wb.heap.size wb w4) (fun _ iv _ _ => sn - (intOf iv).toNat)
      case atStart => exact ⟨0, [], by omega, rfl, by simp, by omega, by simp, World.ownsRow_nil _ _ _ _, Below.refl _ _⟩
      case round =>
        obtain ⟨i, gs, hi, rfl, hgl, hi4, hgs, og, hb4⟩ := hrel
        obtain ⟨gA, gc, rfl, _, _⟩ := own_rd og
        by_cases hgo : i < sn ∧ i < 4
        · obtain ⟨hlt, h4⟩ := hgo
          have g2 : (i : Int) < (sn : Int) := by omega
          have g3 : (i : Int) < 4 := by omega
          have hsz := HSS.out strs[i] (List.getElem_mem _)
          obtain ⟨sb, so, hSb, y0⟩ := (RS.out.below (bthen HB.out.bl hb4)).at i (by rw [List.length_map]; omega)
          rw [List.getElem_map] at y0
          subst hSb
          have ea := addr_add sb so i
          generalize strs[i] = st at *
          obtain ⟨C, w5, hcv, hrd, hb5, hsC⟩ := bytes_conv _ st
          have y5 : w5.cell? ⟨sb, so + i, none⟩ = some (.string st) := (World.cell?_of_block (hb5.block sb (World.block_lt_of_cell? _ _ y0))).trans y0
          go_wp2_with fail
          refine (valid_any _ _ _ (bI (lst st)) w5 (by rw [bI_length, lst_length]) hrd (by omega)).mono ?_
          rintro e w6 ⟨b, rfl, hb, hb6⟩
          have y6 : w6.cell? ⟨sb, so + i, none⟩ = some (.string st) := (World.cell?_of_block (hb6.block sb (World.block_lt_of_cell? _ _ y5))).trans y5
          have hwh : b = true → Whole (lst st) := fun h => by have := hb.1 h; unfold toU at this; rwa [u8_bI] at this
          have hb46 := bthen hb4 (bthen hb5 hb6)
          have og6 := own_below (own_below og hb5) hb6
          have HGS := Lib.hid hgs
          clear hb y5 hcv hrd hb5 hsC hb6 og hb4 hgs y0
          cases b with
          | false =>
            go_wp2
            go_roundw
            case rel => exact ⟨i + 1, gs, by omega, by go_num, by omega, by omega, HGS.out, og6, hb46⟩
            case measure => simp [intOf]; omega
          | true =>
            have HW := Lib.hid (hwh rfl)
            clear hwh
            by_cases h0 : 0 < st.size
            · have g4 : (0 : Int) < (st.size : Int) := by omega
              by_cases h16 : st.size ≤ 16
              · have g5 : (st.size : Int) ≤ 16 := by omega
                have hw0 := hb46.size
                go_wp2_with (at_builtin; refine app (w0 := wb) wb.heap.size rfl _ _ 38 9 (.string ⟨#[]⟩) 1 16 rfl Try.underlying38 info9 rfl (by decide) (by decide) (.slice gA gs.length gc) gs.length (gs.map Value.string) #[.string st] rfl rfl rfl (by simp [Value.oneCell']) og6 hb46 hw0 (by omega) ?_; intro g cap w7 ow hb7 hg7 hat)
                all_goals go_roundw
                case rel =>
                  refine ⟨i + 1, gs ++ [st], by omega, by go_num, by rw [List.length_append, List.length_singleton]; omega, by omega, ?_, ?_, hb7⟩
                  · intro s hs
                    rcases List.mem_append.1 hs with h | h
                    · exact HGS.out s h
                    · rw [List.mem_singleton.1 h]; exact ⟨h0, h16, HW.out⟩
                  · rw [List.length_append, List.length_singleton, List.map_append]
                    exact ow
                case measure => simp [intOf]; omega
              · have g5 : ¬ (st.size : Int) ≤ 16 := by omega
                go_wp2
                go_roundw
                case rel => exact ⟨i + 1, gs, by omega, by go_num, by omega, by omega, HGS.out, og6, hb46⟩
                case measure => simp [intOf]; omega
            · have g4 : ¬ (0 : Int) < (st.size : Int) := by omega
              go_wp2
              go_roundw
              case rel => exact ⟨i + 1, gs, by omega, by go_num, by omega, by omega, HGS.out, og6, hb46⟩
              case measure => simp [intOf]; omega
        · by_cases hlt : i < sn
          · have g2 : (i : Int) < (sn : Int) := by omega
            have g3 : ¬ (i : Int) < 4 := by omega
            go_wp2
            exact key _ _ gs _ (exists_frame rfl) (by omega) hgs og hb4
          · have g2 : ¬ (i : Int) < (sn : Int) := by omega
            go_wp2
            exact key _ _ gs _ (exists_frame rfl) (by omega) hgs og hb4
    clear aK
    go_loopw [8, 10, 11, 12, 13] (fun tv iv _ _ _ wr => ∃ (i : Nat) (t bs : List Int) (bv : Value), i ≤ rn ∧ iv = .int .i64 (i : Int) ∧ t.length ≤ 4 * i ∧ bs.length ≤ 43 ∧ BldP t bs ∧ Bld w wr q tv bv t bs) (fun _ iv _ _ _ _ => rn - (intOf iv).toNat)
    case atStart => exact ⟨0, [], [], _, by omega, rfl, by simp, by simp, hP0, hB0⟩
    case round =>
      clear hP0 hB0
      obtain ⟨i, t, bs, bv, hi, rfl, htl, hbs, hP, hB⟩ := hrel
      obtain ⟨tA, tc, rfl, _, _⟩ := own_rd hB.rt
      obtain ⟨bA, bc, rfl, _, _⟩ := own_rd hB.rb
      have z0 : wr.cell? ⟨q, 0, none⟩ = some (.slice bA bs.length bc) := hB.blk.cell _
      by_cases hgo : i < rn ∧ bs.length < 40
      · obtain ⟨hlt, h40⟩ := hgo
        have g2 : (i : Int) < (rn : Int) := by omega
        have g3 : (bs.length : Int) < 40 := by omega
        obtain ⟨rb, ro, hRb, y0⟩ := (RR.out.below hB.bl).at i (by rw [List.length_map]; omega)
        rw [List.getElem_map] at y0
        subst hRb
        have ea := addr_add rb ro i
        generalize rs[i]'(by omega) = r at *
        obtain ⟨c, hc, hec⟩ := encode_ok r
        obtain ⟨C, w4, hcv, hrd, hb4, hsC⟩ := bytes_conv wr (Utf8.encode r)
        have hel : (Utf8.encode r).size = (encN c).length := by rw [← hec, lst_length]
        have he4 := encN_len c
        rw [hec] at hrd
        obtain ⟨en, hen⟩ : ∃ en, Utf8.encode r = en := ⟨_, rfl⟩
        rw [hen] at hel hsC hcv
        have hes : en.size ≤ 4 := by omega
        have HEL := Lib.hid hel
        have HEC := Lib.hid hec
        have HE1 := Lib.hid he4.1
        clear hel hec he4
        have hrt := own_below hB.rt hb4
        have hqz := hB.blk.lt
        have hw4 := hb4.size
        go_wp2_with fail
        refine (join_any w4 (q + 1) _ t.length t (some ⟨wr.heap.size, 0, none⟩) en.size C (bI (encN c)) hrt (by omega) (by rw [bI_length, HEL.out]) hrd (fun b o h _ he => by cases h; have := (own_lt hB.rt _ he).2; omega) (by omega)).mono ?_
        rintro e w5 ⟨tv2, rfl, ho5, hg5, hor5⟩
        obtain ⟨t2, ht2⟩ : ∃ t2, t ++ bI (encN c) = t2 := ⟨_, rfl⟩
        have ht2l : t2.length = t.length + en.size := by rw [← ht2, List.length_append, bI_length, HEL.out]
        have hm2 : t2.take t.length = t := by rw [← ht2, List.take_left]
        rw [ht2, ← ht2l] at ho5
        have hB5 : Bld w w5 q tv2 (.slice bA bs.length bc) t2 bs := (hB.below hb4).text ho5 hg5 (hor5.imp id (fun h k hk => by have := h k hk; omega))
        have hr2 : ∀ b ∈ t2, 0 ≤ b ∧ b < 256 := by
          intro b hb
          rw [← ht2] at hb
          rcases List.mem_append.1 hb with h | h
          · exact hP.rt b h
          · obtain ⟨x, _, rfl⟩ := List.mem_map.1 h
            have := lt256 x
            omega
        have hwh : Whole (toU t2) := by
          rw [← ht2]
          unfold toU
          rw [List.map_append, u8_bI]
          exact hP.wh.append (whole_enc hc)
        have HP := Lib.hid (show t2 ≠ [] ∧ (∀ b ∈ t2, 0 ≤ b ∧ b < 256) ∧ Whole (toU t2) from ⟨fun h => by rw [h] at ht2l; simp only [List.length_nil] at ht2l; have := HEL.out; have := HE1.out; omega, hr2, hwh⟩)
        have hK0 : BldK t2 bs bs 0 t.length := ⟨hP.nd, hP.rb, by simp, fun b h => h, by omega, .inr HP.out.1⟩
        have OM := Lib.hid (show ∀ b ∈ t2.take t.length, b ∈ bs by rw [hm2]; exact hP.al)
        clear hP hB hrt hw4 ho5 hg5 hor5 hr2 hwh hm2 ht2 hrd hb4 hcv y0 z0 hsC hen
        have ht2b : t2.length ≤ 17179869184 := by omega
        have HT2 := Lib.hid ht2l
        clear ht2l
        obtain ⟨tA2, tc2, rfl, _, _⟩ := own_rd hB5.rt
        go_wp2
        go_loopw [11, 12, 13] (fun kv _ _ wr => ∃ (k : Nat) (bs' : List Int) (bv' : Value), k ≤ t2.length ∧ kv = .int .i64 (k : Int) ∧ BldK t2 bs' bs k t.length ∧ Bld w wr q (.slice tA2 t2.length tc2) bv' t2 bs') (fun kv _ _ _ => t2.length - (intOf kv).toNat)
        case atStart => exact ⟨0, bs, _, by omega, rfl, hK0, hB5⟩
        case round =>
          clear hK0 hB5
          obtain ⟨k, bs2, bv2, hk, rfl, hK, hB⟩ := hrel
          obtain ⟨bA2, bc2, rfl, _, _⟩ := own_rd hB.rb
          have z0 : wr.cell? ⟨q, 0, none⟩ = some (.slice bA2 bs2.length bc2) := hB.blk.cell _
          by_cases hkl : k < t2.length
          · have g4 : (k : Int) < (t2.length : Int) := by omega
            have hbs2 : bs2.length ≤ 43 := by have h1 := hK.2.2.2.2.1; have h2 := HT2.out; omega
            have HK := Lib.hid hK
            clear hK
            have BKN := Lib.hid (fun (h : t2[k] ∈ bs2) => bldK_known HK.out hkl h)
            have BNW := Lib.hid (fun (h : ¬ t2[k] ∈ bs2) => bldK_new HK.out hkl h (HP.out.2.1 _ (List.getElem_mem _)) OM.out)
            obtain ⟨tb, tof, rfl, y1⟩ := (own_rdv hB.rt).b8 k (by omega)
            have ea2 := addr_add tb tof k
            have TT := Lib.hid (fun (w' : World) (h : Below wr.heap.size wr w') => (World.cell?_of_block (h.block tb (World.block_lt_of_cell? wr _ y1))).trans y1)
            clear y1 HK
            generalize t2[k] = x at *
            go_wp2
            go_loopw [12, 13] (fun sv jv wj => ∃ j : Nat, j ≤ bs2.length ∧ jv = .int .i64 (j : Int) ∧ sv = .bool (decide (x ∈ bs2.take j)) ∧ Below wr.heap.size wr wj) (fun _ jv _ => bs2.length - (intOf jv).toNat)
            case atStart => exact ⟨0, by omega, rfl, by simp, Below.refl _ _⟩
            case round =>
              obtain ⟨j, hj, rfl, rfl, hbj⟩ := hrel
              have hBj := hB.below hbj
              have yx := TT.out _ hbj
              by_cases hjl : j < bs2.length
              · have g5 : (j : Int) < (bs2.length : Int) := by omega
                have z1 : wr.cell? ⟨q, 0, none⟩ = some (.slice bA2 bs2.length bc2) := hBj.blk.cell _
                obtain ⟨bb, bo, rfl, y2⟩ := (own_rdv hBj.rb).b8 j hjl
                have ea3 := addr_add bb bo j
                have TJ := Lib.hid (show bs2.take (j + 1) = bs2.take j ++ [bs2[j]] from List.take_succ_eq_append_getElem hjl)
                clear hBj
                generalize bs2[j] = y at *
                cases hkb : decide (x ∈ bs2.take j) with
                | true =>
                  have HN := Lib.hid (show Value.bool true = .bool (decide (x ∈ bs2.take (j + 1))) by
                    rw [TJ.out, decide_eq_true (List.mem_append_left _ (of_decide_eq_true hkb))])
                  clear hkb
                  go_wp2
                  go_quiet (fail)
                  all_goals go_wp2
                  go_roundw
                  case rel => exact ⟨j + 1, by omega, by go_num, HN.out, bdraw hbj _⟩
                  case measure => simp [intOf]; omega
                | false =>
                  by_cases hxy : y = x
                  · subst hxy
                    have HN := Lib.hid (show Value.bool true = .bool (decide (y ∈ bs2.take (j + 1))) by
                      rw [TJ.out, decide_eq_true (List.mem_append_right _ (by simp))])
                    clear hkb
                    go_wp2
                    go_quiet (fail)
                    all_goals go_wp2
                    go_roundw
                    case rel => exact ⟨j + 1, by omega, by go_num, HN.out, bdraw hbj _⟩
                    case measure => simp [intOf]; omega
                  · have HN := Lib.hid (show Value.bool false = .bool (decide (x ∈ bs2.take (j + 1))) by
                      rw [TJ.out, decide_eq_false (fun h => by
                        rcases List.mem_append.1 h with h | h
                        · exact of_decide_eq_false hkb h
                        · exact hxy (List.mem_singleton.1 h).symm)])
                    have hxy2 : (y == x) = false := by rw [beq_eq_false_iff_ne]; exact hxy
                    have hxy3 : decide (y = x) = false := decide_eq_false hxy
                    clear hkb
                    go_wp2
                    go_quiet (fail)
                    all_goals go_wp2
                    go_roundw
                    case rel => exact ⟨j + 1, by omega, by go_num, HN.out, bdraw hbj _⟩
                    case measure => simp [intOf]; omega
              · obtain rfl : j = bs2.length := by omega
                rw [List.take_length]
                by_cases hm : x ∈ bs2
                · rw [decide_eq_true hm]
                  have z1 : wr.cell? ⟨q, 0, none⟩ = some (.slice bA2 bs2.length bc2) := hBj.blk.cell _
                  have HK2 := Lib.hid (BKN.out hm)
                  have HB2 := Lib.hid hBj
                  clear hm hB hBj
                  go_wp2
                  go_roundw
                  case rel => exact ⟨k + 1, bs2, _, by omega, by go_num, HK2.out, HB2.out⟩
                  case measure => simp [intOf]; omega
                · rw [decide_eq_false hm]
                  have HK2 := Lib.hid (BNW.out hm)
                  have HB2 := Lib.hid hBj
                  have z1 : wr.cell? ⟨q, 0, none⟩ = some (.slice bA2 bs2.length bc2) := hBj.blk.cell _
                  have z1' : ((wr.alloc (.cells #[.int .u8 x] 5)).drew).cell? ⟨q, 0, none⟩ = some (.slice bA2 bs2.length bc2) := ((hBj.blk.alloc _).drew).cell _
                  have hns := hBj.blk.not_row (by decide) hBj.rb
                  have k1 := (hBj.blk.alloc (.cells #[.int .u8 x] 5)).drew
                  have orb := hBj.rb
                  have hqz := hBj.blk.lt
                  clear hm hB hBj
                  go_wp2
                  go_region_law ((refine appStep (w0 := (wr.alloc (.cells #[.int .u8 x] 5)).drew) (q + 1) rfl _ _ 34 5 (.int .u8 0) 1 1 rfl Try.underlying34 info5 rfl (by decide) (by decide) (.slice bA2 bs2.length bc2) bs2.length (B8 bs2) wr.heap.size #[.int .u8 x] rfl rfl rfl (by simp [Value.oneCell']) (Blk.new wr _ 5) (orb.alloc _) (Below.refl _ _) (by rw [World.size_drew, World.size_alloc]; omega) (by omega) ?_; intro g cap w4 os4 hb4 hg4 hat4; have k4 := k1.kept hg4 hns; have z2 := k4.frozen 0; have z3 : w4.cell? ⟨q, 0, none⟩ = some (.slice bA2 bs2.length bc2) := k4.cell _))
                  all_goals
                    have hB6 := Lib.hid (Bld.push HB2.out x g cap os4 hg4 hat4)
                    clear k1 k4 z2 z3 os4 hb4 hg4 hat4 orb z1 z1' hns
                    go_wp2
                    go_roundw
                    case rel => exact ⟨k + 1, bs2 ++ [x], _, by omega, by go_num, HK2.out, hB6.out⟩
                    case measure => simp [intOf]; omega
          · obtain rfl : k = t2.length := by omega
            have HB3 := Lib.hid hB
            have HP2 := Lib.hid (show BldP t2 bs2 from ⟨hK.1, hK.2.1, fun b hb => hK.2.2.1 b (by rw [List.take_length]; exact hb), HP.out.2.2, HP.out.2.1, fun h => absurd h HP.out.1⟩)
            have hbs2 : bs2.length ≤ 43 := by have h1 := hK.2.2.2.2.1; have h2 := HT2.out; omega
            have HL2 := Lib.hid (show t2.length ≤ 4 * (i + 1) by have h2 := HT2.out; omega)
            clear hK hB
            go_wp2
            go_roundw
            case rel => exact ⟨i + 1, t2, bs2, _, by omega, by go_num, HL2.out, hbs2, HP2.out, HB3.out⟩
            case measure => simp [intOf]; omega
      · have HB3 := Lib.hid hB
        clear hB
        by_cases hlt : i < rn
        · have g2 : (i : Int) < (rn : Int) := by omega
          have g3 : ¬ (bs.length : Int) < 40 := by omega
          go_wp2
          exact key _ _ t bs _ _ (exists_frame rfl) (by omega) hbs hP HB3.out
        · have g2 : ¬ (i : Int) < (rn : Int) := by omega
          go_wp2
          exact key _ _ t bs _ _ (exists_frame rfl) (by omega) hbs hP HB3.out
end Go.Proofs.Ytcambbnmeiolgaa
