import Derived.Test.YtcambbnmeiolgaaOne
import Derived.Test.YtcambbnmeiolgaaByt
namespace Go.Proofs.Ytcambbnmeiolgaa
open Go.RowKit
theorem byt_ok {bs : List Int} {ps : List (Int × Int)} {t : Int} (h : okTs (toks bs ps).length [t]) : errT bs ps t = 0 ∧ bytT bs ps t = (toks bs ps).getD t.toNat [] := by
  have ht := h t (by simp)
  unfold toks at ht ⊢
  unfold errT bytT
  cases hq : vocF bs ps with
  | none =>
    rw [hq] at ht
    simp at ht
    omega
  | some ls =>
    rw [hq] at ht
    have ht2 : 0 ≤ t ∧ t < (ls.length : Int) := ht
    have hn : ¬ (t < 0 ∨ (ls.length : Int) ≤ t) := by omega
    dsimp only
    rw [if_neg hn, if_neg hn]
    exact ⟨rfl, rfl⟩
theorem rgt_pos (n : Nat) (l : List Int) : ∀ x ∈ rgt n l false, 1 ≤ x := by
  intro x hx
  unfold rgt at hx
  split at hx
  · obtain ⟨y, _, rfl⟩ := List.mem_map.1 hx
    exact (rgt1_ok (by assumption) false y).2.2 rfl
  · cases hx
theorem cameU_len {wds : List (List Int)} (hw : ∀ l ∈ wds, l.length ≤ 16 ∧ ∀ x ∈ l, 0 ≤ x ∧ x < 256) (l : List Int) : (cameU wds l).length ≤ 16 * l.length := by
  induction l with
  | nil => simp [cameU]
  | cons k l ih =>
    have e : cameU wds (k :: l) = wds.getD k.toNat [] ++ cameU wds l := by simp [cameU]
    rw [e, List.length_append, List.length_cons]
    have : (wds.getD k.toNat []).length ≤ 16 := by
      rw [List.getD_eq_getElem?_getD]
      rcases Nat.lt_or_ge k.toNat wds.length with h | h
      · rw [List.getElem?_eq_getElem h]; exact (hw _ (List.getElem_mem h)).1
      · rw [List.getElem?_eq_none h]; simp
    omega
set_option maxRecDepth 100000 in
set_option maxHeartbeats 16000000 in
/-- TextWaits -/
theorem waits_law (A A' S L : Option Addr) (n m sn ln c c' sc lc : Nat) (bs : List Int) (ps : List (Int × Int)) (strs : List ByteArray) (l : List Int) (w : World) (hv : Voc w A A' n m bs ps) (hwf : Wf bs ps) (hS : strs.length = sn) (rS : Rd w S (strs.map Value.string)) (hsn : sn ≤ 140737488355328) (hl : l.length = ln) (rl : Rd w L (I64 l)) :
    Calls Try.prog 7 #[.agg #[.slice A n c, .slice A' m c'], .slice S sn sc, .slice L ln lc] w fun e w' => e = .returned (.bool true) ∧ Below w.heap.size w w' := by
  have h0 : Below w.heap.size w (w.alloc (.cells #[.slice A n c, .slice A' m c'] 37)) := by go_grown
  have q0 := Blk.new w #[.slice A n c, .slice A' m c'] 37
  go_enter Try.func7, Try.ntmps7
  go_wp2_with fail
  refine (long_any _ _).mono ?_
  rintro e w1 ⟨rfl, rfl⟩
  by_cases g1 : (2147483647 : Int) < ln
  · go_wp2
    go_returns
    exact ⟨rfl, h0⟩
  · go_wp2_with fail
    refine (fixed_any _).mono ?_
    rintro e w2 ⟨rfl, hb⟩
    replace q0 := q0.below hb
    replace hb := bthen h0 hb
    have hl2 := q0.lt
    have y0 : w2.cell? ⟨w.heap.size, 0, none⟩ = some (.slice A n c) := q0.cell _
    have y1 : w2.cell? ⟨w.heap.size, 1, none⟩ = some (.slice A' m c') := q0.cell _
    go_wp2_with fail
    refine (new_any A A' S n m sn c c' sc bs ps strs w2 (hv.below hb) hwf hS (rS.below hb) hsn).mono ?_
    rintro e w3 ⟨hb3, (⟨hne, rfl⟩ | ⟨he0, p, hp, rfl, hs⟩)⟩
    · have HB := Lib.hid (bthen hb hb3)
      generalize newE bs ps strs = k0 at *
      have hd : (k0 != 0) = true := by simpa using hne
      clear hb hb3 q0 y0 y1
      go_wp2
      go_returns
      exact ⟨rfl, HB.out⟩
    · replace q0 := q0.below hb3
      replace hb := bthen hb hb3
      have htk := newE_some he0
      have hwp : w.heap.size < p := by omega
      clear hb3 y0 y1 he0 hp hl2 h0
      have y0 : w3.cell? ⟨w.heap.size, 0, none⟩ = some (.slice A n c) := q0.cell _
      have y1 : w3.cell? ⟨w.heap.size, 1, none⟩ = some (.slice A' m c') := q0.cell _
      go_wp2_with fail
      refine (right_any A A' L n m ln c c' lc bs ps l false w3 (hv.below hb) hwf hl (rl.below hb) (by omega)).mono ?_
      rintro e w6 ⟨u, rfl, ou, hb6⟩
      replace hs := hs.below hb6
      replace q0 := q0.below hb6
      replace hb := bthen hb hb6
      obtain ⟨uA, uc, rfl, hcap, _⟩ := own_rd ou
      have hrl := rgt_len (toks bs ps).length l false
      have RK := Lib.hid (rgt_ok (toks bs ps).length l false)
      have RP := Lib.hid (rgt_pos (toks bs ps).length l)
      obtain ⟨v1, hT0⟩ := one_new hb hs (by omega)
      have HV := Lib.hid hv
      have Q0 := Lib.hid q0
      clear y0 y1 hb6 hs hb rl hv rS q0
      generalize rgt (toks bs ps).length l false = all at *
      have BO := Lib.hid (fun t (h : okTs (toks bs ps).length [t]) => byt_ok h)
      obtain ⟨wds, hwds⟩ : ∃ wds, toks bs ps = wds := ⟨_, rfl⟩
      rw [hwds] at hT0 htk RK BO
      clear hwds
      have HL1 := Lib.hid (fun j => cutF_len (strs.map lst) wds hT0.st1.lens (fun x hx => (hT0.st1.w16 x hx).1) all j)
      have KP := Lib.hid (fun j (h : (cutF (strs.map lst) wds all j).2.2 = false) => feedU_keep (strs.map lst) wds hT0.st1.w16 (all.take j) ([], [], false) (fun x hx => RP.out x (List.mem_of_mem_take hx)) rfl h)
      have OU := Lib.hid ou
      clear ou
      have MOST := Lib.hid (show strs = [] → ∀ j, (cutF (strs.map lst) wds all j).2.2 = false ∧ (cutF (strs.map lst) wds all j).1.length ≤ 3 from fun h j => by subst h; exact feedU_nil wds (all.take j) ([], [], false) (fun x hx => RP.out x (List.mem_of_mem_take hx)) rfl (by simp))
      by_cases hz : sn = 0
      · have gz : (sn : Int) = 0 := by omega
        go_wp2
        go_loopw [6, 12, 13, 14, 15, 16, 17, 18, 19] (fun _ cv ov i _ _ _ _ _ wr => ∃ a : Nat, a ≤ all.length ∧ i = .int .i64 (a : Int) ∧ (cutF (strs.map lst) wds all a).2.2 = false ∧ OneS w w6 p v1 wds strs wr cv ov (cameU wds (all.take a)) (cutF (strs.map lst) wds all a).2.1 ((cutF (strs.map lst) wds all a).1, false)) (fun _ _ _ i _ _ _ _ _ _ => all.length - (intOf i).toNat)
        case atStart => exact ⟨0, by omega, rfl, rfl, hT0⟩
        case round =>
          obtain ⟨a, ha, rfl, hno, hT⟩ := hrel
          obtain ⟨aA, ac, rfl, hac, _⟩ := own_rd hT.ra
          obtain ⟨bA, bc, rfl, _, _⟩ := own_rd hT.rb
          by_cases hlt : a < all.length
          · have g2 : (a : Int) < (all.length : Int) := by omega
            obtain ⟨g, rfl⟩ : ∃ g, uA = some ⟨g, 0, none⟩ := by
              rcases OU.out.2 with ⟨_, h⟩ | ⟨g, _, _, h, _⟩
              · omega
              · injection h with h1; exact ⟨g, h1⟩
            have hok1 : okTs wds.length [all[a]] := fun x hx => by rw [List.mem_singleton.1 hx]; exact RK.out _ (List.getElem_mem _)
            have y5 := (own_rdv (hT.ints (by decide) OU.out)).cell0 a (by simp [I64]; omega)
            rw [show (I64 all)[a]? = some (.int .i64 all[a]) by simp [I64, hlt]] at y5
            have ea := addr_add g 0 a
            rw [Nat.zero_add] at ea
            have hbx : Blk wr w.heap.size #[.slice A n c, .slice A' m c'] 37 := by
              refine Eq.trans (hT.kp _ Q0.out.lt (by omega)) Q0.out
            have y6 : wr.cell? ⟨w.heap.size, 0, none⟩ = some (.slice A n c) := hbx.cell _
            have y7 : wr.cell? ⟨w.heap.size, 1, none⟩ = some (.slice A' m c') := hbx.cell _
            have FJ0 := cutF_add (strs.map lst) wds all a 1
            rw [show (all.drop a).take 1 = [all[a]] by rw [List.drop_eq_getElem_cons hlt]; rfl] at FJ0
            rw [hno] at FJ0
            have hl8 := (feedU_len (strs.map lst) wds hT.st1.lens (fun x hx => (hT.st1.w16 x hx).1) [all[a]] ((cutF (strs.map lst) wds all a).1, [], false) hT.t1).1
            have hcl := cameU_len hT.st1.w16 (all.take (a + 1))
            rw [List.take_succ_eq_append_getElem hlt, cameU_snoc, List.length_append, List.length_append, List.length_take] at hcl
            have hol := HL1.out (a + 1)
            obtain ⟨Sx, hSx⟩ : ∃ Sx, feedU (strs.map lst) wds ((cutF (strs.map lst) wds all a).1, [], false) [all[a]] = Sx := ⟨_, rfl⟩
            rw [hSx] at FJ0 hl8
            rw [FJ0] at hol
            simp only [sh, List.length_append] at hol
            have SX := Lib.hid hSx
            have FJ := Lib.hid FJ0
            clear hSx
            have BB := BO.out _ hok1
            have CS := Lib.hid (show cameU wds (all.take (a + 1)) = cameU wds (all.take a) ++ wds.getD (all[a]).toNat [] by rw [List.take_succ_eq_append_getElem hlt, cameU_snoc])
            clear FJ0 hbx
            generalize all[a] = tk at *
            obtain ⟨wd, hwd⟩ : ∃ wd, wds.getD tk.toNat [] = wd := ⟨_, rfl⟩
            have CS2 := CS.out
            rw [hwd] at CS2 BB hcl
            simp only [List.length_cons, List.length_nil] at hcl
            have CW := Lib.hid CS2
            clear CS2 CS hwd
            have HT := Lib.hid hT
            clear hT
            go_wp2
            go_region_law ((try go_simp); go_at_call 24; refine (bytes_any A A' n m c c' bs ps tk _ (HV.out.below (Below.drew HT.out.bl)) hwf).mono ?_; rintro e w7 ⟨u7, rfl, ou7, hb7⟩; rw [BB.1, BB.2] at *)
            all_goals
              have hb8 : Below wr.heap.size wr w7 := ⟨hb7.os, hb7.tape, hb7.output, hb7.size, hb7.block⟩
              have hT7 := HT.out.below hb8
              have y8 : w7.cell? ⟨g, a, none⟩ = some (.int .i64 tk) := (World.cell?_of_block (hb8.block g (World.block_lt_of_cell? wr _ y5))).trans y5
              have o7 : w7.ownsRow wr.heap.size 5 1 u7 wd.length (B8 wd) := ou7
              clear y5 y6 y7 ou7 hb7
              obtain ⟨uE, ue, rfl, _, _⟩ := own_rd o7
              go_wp2_with fail
              have k3 := Blk.new w7 #[.int .i64 tk] 3
              have h3 : Below w7.heap.size w7 (w7.alloc (.cells #[.int .i64 tk] 3)) := by go_grown
              refine (feed_anyV (some ⟨w7.heap.size, 0, none⟩) 1 1 [tk] _ p v1.1 v1.2 wds strs (cutF (strs.map lst) wds all a).1 false (hT7.below h3).str hT7.t1 rfl (by omega) (blk_rd k3 rfl) (fun b o h _ => by cases h; have := hT7.lt1; have := hT7.sz; omega) hok1).mono ?_
              rintro e w8 ⟨u8', rfl, ou8, hs8, hg8⟩
              rw [SX.out] at ou8 hs8
              have o7' := (own_below o7 h3).kept hg8 (.inr (fun he => by have := (own_lt o7 _ he).1; have := HT.out.lt1; have := HT.out.sz; omega))
              have hT8 := (hT7.below h3).move (x := (Sx.1, Sx.2.2)) hs8 hl8 hg8
              obtain ⟨uG, ug, rfl, _, _⟩ := own_rd ou8
              clear k3 hg8 hs8 y8
              go_wp2_with fail
              refine hT8.over.mono ?_
              rintro e w9 ⟨rfl, rfl⟩
              obtain ⟨sx, hsx⟩ : ∃ sx, Sx.2.2 = sx := ⟨_, rfl⟩
              dsimp only
              simp only [hsx] at hT8
              rw [hsx]
              cases sx with
              | true =>
                exfalso
                have := (MOST.out (List.length_eq_zero_iff.1 (by omega)) (a + 1)).1
                rw [FJ.out] at this
                simp only [sh] at this
                rw [hsx] at this
                cases this
              | false =>
                have hne1 : ∀ b o', uE = some ⟨b, o', none⟩ → 0 < wd.length → (Value.slice aA (cameU wds (all.take a)).length ac).ownBlock ≠ some b := by
                  intro b o' h _ he
                  subst h
                  have := (own_lt o7 b rfl).1
                  have := (own_lt HT.out.ra b he).2
                  omega
                go_wp2_with fail
                refine (join_any _ w6.heap.size _ _ (cameU wds (all.take a)) uE _ ue wd hT8.ra hT8.sz rfl (own_rdv o7') hne1 (by omega)).mono ?_
                rintro e wA ⟨av', rfl, ho, hg, hor⟩
                have o8 := ou8.kept hg (by
                  rcases hq : (Value.slice uG Sx.2.1.length ug).ownBlock with _ | q
                  · exact .inl rfl
                  · exact .inr (fun he => by have h1 := (own_lt ou8 q hq).1; have h2 := (own_lt HT.out.ra q he.symm).2; have h4 := hb8.size; rw [World.size_alloc] at h1; omega))
                have hT9 := hT8.text ho (by rw [List.length_append]) hg hor
                rw [← CW.out] at hT9
                obtain ⟨aB, ad, rfl, _, _⟩ := own_rd hT9.ra
                clear ho hg hor o7' hne1 hT8
                go_wp2_with fail
                refine (hT9.swap.join uG _ ug _ (own_base o8 (by have := hT7.sz; rw [World.size_alloc]; omega)) rfl (fun q hq he => by have h1 := (own_lt o8 q hq).1; have h2 := (own_lt HT.out.rb q he).2; have h4 := hb8.size; rw [World.size_alloc] at h1; omega) (by omega)).mono ?_
                rintro e wB ⟨bv', rfl, hT10⟩
                have hT11 : OneS w w6 p v1 wds strs wB (.slice aB (cameU wds (all.take (a + 1))).length ad) bv' (cameU wds (all.take (a + 1))) (cutF (strs.map lst) wds all (a + 1)).2.1 ((cutF (strs.map lst) wds all (a + 1)).1, false) := by rw [FJ.out]; exact hT10.swap
                have hkp : (cutF (strs.map lst) wds all (a + 1)).2.1 ++ bI (cutF (strs.map lst) wds all (a + 1)).1 = [] ++ bI [] ++ cameU wds (all.take (a + 1)) := KP.out (a + 1) (by rw [FJ.out]; exact hsx)
                have hlen := congrArg List.length hkp
                rw [List.length_append, bI_length] at hlen
                simp only [List.nil_append, bI, List.map_nil] at hlen
                have ht18 : (cutF (strs.map lst) wds all (a + 1)).1.length ≤ 3 := (MOST.out (List.length_eq_zero_iff.1 (by omega)) (a + 1)).2
                have HT11 := Lib.hid hT11
                have HNO := Lib.hid (show (cutF (strs.map lst) wds all (a + 1)).2.2 = false by rw [FJ.out]; exact hsx)
                obtain ⟨bB, bd, rfl, _, _⟩ := own_rd hT11.rb
                have g6 : ¬ ((cameU wds (all.take (a + 1))).length : Int) < ((cutF (strs.map lst) wds all (a + 1)).2.1.length : Int) := by omega
                have g7 : ¬ (3 : Int) < ((cameU wds (all.take (a + 1))).length : Int) - ((cutF (strs.map lst) wds all (a + 1)).2.1.length : Int) := by omega
                clear hT9 hT10 hT11 hkp
                go_wp2
                go_roundw
                case rel => exact ⟨a + 1, by omega, by go_num, HNO.out, HT11.out⟩
                case measure => simp [intOf]; omega
          · obtain rfl : a = all.length := by omega
            have hkp : (cutF (strs.map lst) wds all all.length).2.1 ++ bI (cutF (strs.map lst) wds all all.length).1 = [] ++ bI [] ++ cameU wds (all.take all.length) := KP.out all.length hno
            have hcl := cameU_len hT.st1.w16 (all.take all.length)
            rw [List.length_take] at hcl
            have hlen := congrArg List.length hkp
            rw [List.length_append, bI_length] at hlen
            simp only [List.nil_append, bI, List.map_nil] at hlen hkp
            obtain ⟨came, hcame⟩ : ∃ came, cameU wds (all.take all.length) = came := ⟨_, rfl⟩
            obtain ⟨o, ho⟩ : ∃ o, (cutF (strs.map lst) wds all all.length).2.1 = o := ⟨_, rfl⟩
            obtain ⟨tl, htl⟩ : ∃ tl, (cutF (strs.map lst) wds all all.length).1 = tl := ⟨_, rfl⟩
            rw [hcame, ho, htl] at hT
            rw [hcame, ho, htl] at hlen hkp
            rw [hcame] at hcl hac ⊢
            rw [ho]
            clear hcame ho htl hno
            have HKP := Lib.hid hkp
            have g5 : (o.length : Int) ≤ (came.length : Int) := by omega
            have h00 : 0 < wds.length := by omega
            have g8 : o.length ≤ ac := by omega
            have hpre : Rd wr aA (B8 o) := by
              have := own_rdv hT.ra
              rw [← HKP.out, show B8 (o ++ List.map (fun b => (b.toNat : Int)) tl) = B8 o ++ B8 (List.map (fun b => (b.toNat : Int)) tl) by simp [B8]] at this
              exact this.left
            go_wp2_with fail
            refine (eqBytes_any bA aA _ _ _ _ o o rfl rfl (by omega) wr (own_rdv hT.rb) hpre).mono ?_
            rintro e wE ⟨rfl, hbE⟩
            rw [decide_eq_true (rfl : o = o)]
            have hT1 := hT.below hbE
            clear hT hbE hpre
            go_wp2_with fail
            refine (hT1.close' h00 (bI tl) [] rfl rfl).mono ?_
            rintro e wF ⟨u3, rfl, ou3, ap3, hT2⟩
            obtain ⟨uX, ux, rfl, _, _⟩ := own_rd ou3
            clear hT1
            go_wp2_with fail
            refine (hT2.swap.join uX _ ux _ ou3 rfl (fun q hq => (ap3 q hq).2) (by rw [bI_length]; omega)).mono ?_
            rintro e wG ⟨bv2, rfl, hT3⟩
            rw [show o ++ bI tl = came from HKP.out] at hT3
            obtain ⟨cB, cb, rfl, _, _⟩ := own_rd hT3.ra
            clear hT2 ou3 ap3
            go_wp2_with fail
            refine (eqBytes_any cB aA _ _ _ _ came came rfl rfl (by omega) wG (own_rdv hT3.ra) (own_rdv hT3.rb)).mono ?_
            rintro e wH ⟨rfl, hbH⟩
            rw [decide_eq_true (rfl : came = came)]
            have HB := Lib.hid (bthen hT3.bl hbH)
            clear hT3 hbH
            go_wp2
            go_returns
            exact ⟨rfl, HB.out⟩
      · have gz : ¬ (sn : Int) = 0 := by omega
        have gb : ((sn : Int) == 0) = false := by rw [beq_eq_false_iff_ne]; exact gz
        go_wp2
        go_loopw [6, 12, 13, 14, 15, 16, 17, 18, 19] (fun _ cv ov i _ _ _ _ _ wr => ∃ a : Nat, a ≤ all.length ∧ i = .int .i64 (a : Int) ∧ (cutF (strs.map lst) wds all a).2.2 = false ∧ OneS w w6 p v1 wds strs wr cv ov (cameU wds (all.take a)) (cutF (strs.map lst) wds all a).2.1 ((cutF (strs.map lst) wds all a).1, false)) (fun _ _ _ i _ _ _ _ _ _ => all.length - (intOf i).toNat)
        case atStart => exact ⟨0, by omega, rfl, rfl, hT0⟩
        case round =>
          obtain ⟨a, ha, rfl, hno, hT⟩ := hrel
          obtain ⟨aA, ac, rfl, hac, _⟩ := own_rd hT.ra
          obtain ⟨bA, bc, rfl, _, _⟩ := own_rd hT.rb
          by_cases hlt : a < all.length
          · have g2 : (a : Int) < (all.length : Int) := by omega
            obtain ⟨g, rfl⟩ : ∃ g, uA = some ⟨g, 0, none⟩ := by
              rcases OU.out.2 with ⟨_, h⟩ | ⟨g, _, _, h, _⟩
              · omega
              · injection h with h1; exact ⟨g, h1⟩
            have hok1 : okTs wds.length [all[a]] := fun x hx => by rw [List.mem_singleton.1 hx]; exact RK.out _ (List.getElem_mem _)
            have y5 := (own_rdv (hT.ints (by decide) OU.out)).cell0 a (by simp [I64]; omega)
            rw [show (I64 all)[a]? = some (.int .i64 all[a]) by simp [I64, hlt]] at y5
            have ea := addr_add g 0 a
            rw [Nat.zero_add] at ea
            have hbx : Blk wr w.heap.size #[.slice A n c, .slice A' m c'] 37 := by
              refine Eq.trans (hT.kp _ Q0.out.lt (by omega)) Q0.out
            have y6 : wr.cell? ⟨w.heap.size, 0, none⟩ = some (.slice A n c) := hbx.cell _
            have y7 : wr.cell? ⟨w.heap.size, 1, none⟩ = some (.slice A' m c') := hbx.cell _
            have FJ0 := cutF_add (strs.map lst) wds all a 1
            rw [show (all.drop a).take 1 = [all[a]] by rw [List.drop_eq_getElem_cons hlt]; rfl] at FJ0
            rw [hno] at FJ0
            have hl8 := (feedU_len (strs.map lst) wds hT.st1.lens (fun x hx => (hT.st1.w16 x hx).1) [all[a]] ((cutF (strs.map lst) wds all a).1, [], false) hT.t1).1
            have hcl := cameU_len hT.st1.w16 (all.take (a + 1))
            rw [List.take_succ_eq_append_getElem hlt, cameU_snoc, List.length_append, List.length_append, List.length_take] at hcl
            have hol := HL1.out (a + 1)
            obtain ⟨Sx, hSx⟩ : ∃ Sx, feedU (strs.map lst) wds ((cutF (strs.map lst) wds all a).1, [], false) [all[a]] = Sx := ⟨_, rfl⟩
            rw [hSx] at FJ0 hl8
            rw [FJ0] at hol
            simp only [sh, List.length_append] at hol
            have SX := Lib.hid hSx
            have FJ := Lib.hid FJ0
            clear hSx
            have BB := BO.out _ hok1
            have CS := Lib.hid (show cameU wds (all.take (a + 1)) = cameU wds (all.take a) ++ wds.getD (all[a]).toNat [] by rw [List.take_succ_eq_append_getElem hlt, cameU_snoc])
            clear FJ0 hbx
            generalize all[a] = tk at *
            obtain ⟨wd, hwd⟩ : ∃ wd, wds.getD tk.toNat [] = wd := ⟨_, rfl⟩
            have CS2 := CS.out
            rw [hwd] at CS2 BB hcl
            simp only [List.length_cons, List.length_nil] at hcl
            have CW := Lib.hid CS2
            clear CS2 CS hwd
            have HT := Lib.hid hT
            clear hT
            go_wp2
            go_region_law ((try go_simp); go_at_call 24; refine (bytes_any A A' n m c c' bs ps tk _ (HV.out.below (Below.drew HT.out.bl)) hwf).mono ?_; rintro e w7 ⟨u7, rfl, ou7, hb7⟩; rw [BB.1, BB.2] at *)
            all_goals
              have hb8 : Below wr.heap.size wr w7 := ⟨hb7.os, hb7.tape, hb7.output, hb7.size, hb7.block⟩
              have hT7 := HT.out.below hb8
              have y8 : w7.cell? ⟨g, a, none⟩ = some (.int .i64 tk) := (World.cell?_of_block (hb8.block g (World.block_lt_of_cell? wr _ y5))).trans y5
              have o7 : w7.ownsRow wr.heap.size 5 1 u7 wd.length (B8 wd) := ou7
              clear y5 y6 y7 ou7 hb7
              obtain ⟨uE, ue, rfl, _, _⟩ := own_rd o7
              go_wp2_with fail
              have k3 := Blk.new w7 #[.int .i64 tk] 3
              have h3 : Below w7.heap.size w7 (w7.alloc (.cells #[.int .i64 tk] 3)) := by go_grown
              refine (feed_anyV (some ⟨w7.heap.size, 0, none⟩) 1 1 [tk] _ p v1.1 v1.2 wds strs (cutF (strs.map lst) wds all a).1 false (hT7.below h3).str hT7.t1 rfl (by omega) (blk_rd k3 rfl) (fun b o h _ => by cases h; have := hT7.lt1; have := hT7.sz; omega) hok1).mono ?_
              rintro e w8 ⟨u8', rfl, ou8, hs8, hg8⟩
              rw [SX.out] at ou8 hs8
              have o7' := (own_below o7 h3).kept hg8 (.inr (fun he => by have := (own_lt o7 _ he).1; have := HT.out.lt1; have := HT.out.sz; omega))
              have hT8 := (hT7.below h3).move (x := (Sx.1, Sx.2.2)) hs8 hl8 hg8
              obtain ⟨uG, ug, rfl, _, _⟩ := own_rd ou8
              clear k3 hg8 hs8 y8
              go_wp2_with fail
              refine hT8.over.mono ?_
              rintro e w9 ⟨rfl, rfl⟩
              obtain ⟨sx, hsx⟩ : ∃ sx, Sx.2.2 = sx := ⟨_, rfl⟩
              dsimp only
              simp only [hsx] at hT8
              rw [hsx]
              cases sx with
              | true =>
                have g9 : (0 : Int) < (sn : Int) := by omega
                have HB := Lib.hid hT8.bl
                clear hT8 hT7 o7 o7' ou8
                have gd : decide (0 < sn) = true := decide_eq_true (by omega)
                go_wp2
                go_returns
                exact ⟨by first | rfl | rw [gd], HB.out⟩
              | false =>
                have hne1 : ∀ b o', uE = some ⟨b, o', none⟩ → 0 < wd.length → (Value.slice aA (cameU wds (all.take a)).length ac).ownBlock ≠ some b := by
                  intro b o' h _ he
                  subst h
                  have := (own_lt o7 b rfl).1
                  have := (own_lt HT.out.ra b he).2
                  omega
                go_wp2_with fail
                refine (join_any _ w6.heap.size _ _ (cameU wds (all.take a)) uE _ ue wd hT8.ra hT8.sz rfl (own_rdv o7') hne1 (by omega)).mono ?_
                rintro e wA ⟨av', rfl, ho, hg, hor⟩
                have o8 := ou8.kept hg (by
                  rcases hq : (Value.slice uG Sx.2.1.length ug).ownBlock with _ | q
                  · exact .inl rfl
                  · exact .inr (fun he => by have h1 := (own_lt ou8 q hq).1; have h2 := (own_lt HT.out.ra q he.symm).2; have h4 := hb8.size; rw [World.size_alloc] at h1; omega))
                have hT9 := hT8.text ho (by rw [List.length_append]) hg hor
                rw [← CW.out] at hT9
                obtain ⟨aB, ad, rfl, _, _⟩ := own_rd hT9.ra
                clear ho hg hor o7' hne1 hT8
                go_wp2_with fail
                refine (hT9.swap.join uG _ ug _ (own_base o8 (by have := hT7.sz; rw [World.size_alloc]; omega)) rfl (fun q hq he => by have h1 := (own_lt o8 q hq).1; have h2 := (own_lt HT.out.rb q he).2; have h4 := hb8.size; rw [World.size_alloc] at h1; omega) (by omega)).mono ?_
                rintro e wB ⟨bv', rfl, hT10⟩
                have hT11 : OneS w w6 p v1 wds strs wB (.slice aB (cameU wds (all.take (a + 1))).length ad) bv' (cameU wds (all.take (a + 1))) (cutF (strs.map lst) wds all (a + 1)).2.1 ((cutF (strs.map lst) wds all (a + 1)).1, false) := by rw [FJ.out]; exact hT10.swap
                have hkp : (cutF (strs.map lst) wds all (a + 1)).2.1 ++ bI (cutF (strs.map lst) wds all (a + 1)).1 = [] ++ bI [] ++ cameU wds (all.take (a + 1)) := KP.out (a + 1) (by rw [FJ.out]; exact hsx)
                have hlen := congrArg List.length hkp
                rw [List.length_append, bI_length] at hlen
                simp only [List.nil_append, bI, List.map_nil] at hlen
                have ht18 : (cutF (strs.map lst) wds all (a + 1)).1.length ≤ 18 := hT11.t1
                have HT11 := Lib.hid hT11
                have HNO := Lib.hid (show (cutF (strs.map lst) wds all (a + 1)).2.2 = false by rw [FJ.out]; exact hsx)
                obtain ⟨bB, bd, rfl, _, _⟩ := own_rd hT11.rb
                have g6 : ¬ ((cameU wds (all.take (a + 1))).length : Int) < ((cutF (strs.map lst) wds all (a + 1)).2.1.length : Int) := by omega
                have g7 : ¬ (18 : Int) < ((cameU wds (all.take (a + 1))).length : Int) - ((cutF (strs.map lst) wds all (a + 1)).2.1.length : Int) := by omega
                clear hT9 hT10 hT11 hkp
                go_wp2
                go_roundw
                case rel => exact ⟨a + 1, by omega, by go_num, HNO.out, HT11.out⟩
                case measure => simp [intOf]; omega
          · obtain rfl : a = all.length := by omega
            have hkp : (cutF (strs.map lst) wds all all.length).2.1 ++ bI (cutF (strs.map lst) wds all all.length).1 = [] ++ bI [] ++ cameU wds (all.take all.length) := KP.out all.length hno
            have hcl := cameU_len hT.st1.w16 (all.take all.length)
            rw [List.length_take] at hcl
            have hlen := congrArg List.length hkp
            rw [List.length_append, bI_length] at hlen
            simp only [List.nil_append, bI, List.map_nil] at hlen hkp
            obtain ⟨came, hcame⟩ : ∃ came, cameU wds (all.take all.length) = came := ⟨_, rfl⟩
            obtain ⟨o, ho⟩ : ∃ o, (cutF (strs.map lst) wds all all.length).2.1 = o := ⟨_, rfl⟩
            obtain ⟨tl, htl⟩ : ∃ tl, (cutF (strs.map lst) wds all all.length).1 = tl := ⟨_, rfl⟩
            rw [hcame, ho, htl] at hT
            rw [hcame, ho, htl] at hlen hkp
            rw [hcame] at hcl hac ⊢
            rw [ho]
            clear hcame ho htl hno
            have HKP := Lib.hid hkp
            have g5 : (o.length : Int) ≤ (came.length : Int) := by omega
            have h00 : 0 < wds.length := by omega
            have g8 : o.length ≤ ac := by omega
            have hpre : Rd wr aA (B8 o) := by
              have := own_rdv hT.ra
              rw [← HKP.out, show B8 (o ++ List.map (fun b => (b.toNat : Int)) tl) = B8 o ++ B8 (List.map (fun b => (b.toNat : Int)) tl) by simp [B8]] at this
              exact this.left
            go_wp2_with fail
            refine (eqBytes_any bA aA _ _ _ _ o o rfl rfl (by omega) wr (own_rdv hT.rb) hpre).mono ?_
            rintro e wE ⟨rfl, hbE⟩
            rw [decide_eq_true (rfl : o = o)]
            have hT1 := hT.below hbE
            clear hT hbE hpre
            go_wp2_with fail
            refine (hT1.close' h00 (bI tl) [] rfl rfl).mono ?_
            rintro e wF ⟨u3, rfl, ou3, ap3, hT2⟩
            obtain ⟨uX, ux, rfl, _, _⟩ := own_rd ou3
            clear hT1
            go_wp2_with fail
            refine (hT2.swap.join uX _ ux _ ou3 rfl (fun q hq => (ap3 q hq).2) (by rw [bI_length]; omega)).mono ?_
            rintro e wG ⟨bv2, rfl, hT3⟩
            rw [show o ++ bI tl = came from HKP.out] at hT3
            obtain ⟨cB, cb, rfl, _, _⟩ := own_rd hT3.ra
            clear hT2 ou3 ap3
            go_wp2_with fail
            refine (eqBytes_any cB aA _ _ _ _ came came rfl rfl (by omega) wG (own_rdv hT3.ra) (own_rdv hT3.rb)).mono ?_
            rintro e wH ⟨rfl, hbH⟩
            rw [decide_eq_true (rfl : came = came)]
            have HB := Lib.hid (bthen hT3.bl hbH)
            clear hT3 hbH
            go_wp2
            go_returns
            exact ⟨rfl, HB.out⟩
end Go.Proofs.Ytcambbnmeiolgaa
