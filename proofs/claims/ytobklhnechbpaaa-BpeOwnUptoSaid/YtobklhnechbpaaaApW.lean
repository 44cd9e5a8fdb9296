import Derived.Test.YtobklhnechbpaaaApP
namespace Go.Proofs.Ytobklhnechbpaaa
open Go.RowKit
set_option maxRecDepth 100000 in
set_option maxHeartbeats 8000000 in
/-- apart -/
theorem apart_any (w : World) (H q : Nat) (lsv sv : Value) (M : Nat) (vals wvals : List Value) (Ls : List (List Int)) (h : Bok H q w lsv sv M vals wvals Ls) (hn : M ≤ 1099511627776) :
    Calls Try.prog 35 #[.pointer (some ⟨q, 0, none⟩)] w fun e w' => e = .returned (.bool true) ∧ Kp (fun z => rowC q lsv vals M z ≠ M) w w' := by
  have a1 : (⟨q, 0, none⟩ : Addr).add 1 = ⟨q, 1, none⟩ := by simpa using addr_add q 0 1
  have P2 := h.ph2
  have hvl := h.len.1
  obtain ⟨lsA, lsc, rfl, _, _⟩ := own_rd h.t.rl
  generalize Ls.map List.length = lens at *
  generalize hcol : rowC q (Value.slice lsA M lsc) vals M = cl at *
  clear h hcol
  go_enter Try.func35, Try.ntmps35
  go_wp2
  go_loopw [3, 4] (fun iv _ wr => ∃ k : Nat, k ≤ M ∧ iv = .int .i64 (k : Int) ∧ Ph2 w wr cl q (.slice lsA M lsc) sv M vals lens k) (fun iv _ _ => M - (intOf iv).toNat)
  case atStart => exact ⟨0, by omega, rfl, P2⟩
  case round =>
    clear P2
    obtain ⟨k, hk, rfl, P2⟩ := hrel
    have x0 : wr.cell? ⟨q, 0, none⟩ = some (.slice lsA M lsc) := P2.bk.cell _
    by_cases hkl : k < M
    · have g1 : (k : Int) < (M : Int) := by omega
      clear x0
      obtain ⟨v, hv⟩ : ∃ v, vals[k]? = some v := ⟨_, List.getElem?_eq_getElem (by omega)⟩
      obtain ⟨len, hl⟩ : ∃ len, lens[k]? = some len := ⟨_, List.getElem?_eq_getElem (by rw [P2.nl]; exact hkl)⟩
      obtain ⟨hlen, hcl, l0, hl0, ho, _⟩ := P2.row k v len hv hl
      obtain ⟨A, a, rfl, _, _⟩ := own_rd ho
      have hvk : vals[k]'(by omega) = .slice A len a := by rw [List.getElem?_eq_getElem (by omega)] at hv; injection hv
      obtain ⟨lb, lo, rfl, y0⟩ := (own_rdv P2.ls).at k (by omega)
      rw [hvk] at y0
      have ea := addr_add lb lo k
      generalize wr = wO at *
      have x0 : wO.cell? ⟨q, 0, none⟩ = some (.slice (some ⟨lb, lo, none⟩) M lsc) := P2.bk.cell _
      have XL := Lib.hid (show ∀ w', Kp (fun z => (Value.slice A len a).ownBlock = some z) wO w' → w'.cell? ⟨q, 0, none⟩ = some (.slice (some ⟨lb, lo, none⟩) M lsc) from fun w' hk2 => (P2.bk.kp hk2 (fun e => P2.bk.not_row (by decide) ho e.symm)).cell _)
      have YL := Lib.hid (show ∀ w', Kp (fun z => (Value.slice A len a).ownBlock = some z) wO w' → w'.cell? ⟨lb, lo + k, none⟩ = some (.slice A len a) from fun w' hk2 => by
        obtain ⟨b2, o2, he, hy⟩ := (own_rdv (ownKp P2.ls hk2 (fun z hz e => row_ne P2.ls ho (by decide) z e hz))).at k (by omega)
        injection he with he
        injection he with e1 e2
        subst e1 e2
        rw [hy, hvk])
      have PP2 := Lib.hid P2
      clear P2 hcl hvk
      go_wp2
      clear y0 x0
      go_loopw [4] (fun jv wr2 => ∃ (j : Nat) (l : List Int), j ≤ len ∧ jv = .int .i64 (j : Int) ∧ l.length = len ∧ l.take j = mk1 k j ∧ wr2.ownsRow 0 5 1 (.slice A len a) len (B8 l) ∧ Kp (fun z => (Value.slice A len a).ownBlock = some z) wO wr2) (fun jv _ => len - (intOf jv).toNat)
      case atStart => exact ⟨0, l0, by omega, rfl, hl0, by simp [mk1], ho, Kp.refl _ _⟩
      case round =>
        clear ho
        obtain ⟨j, l, hj, rfl, hll, htk, ho, hk2⟩ := hrel
        have y0 := YL.out wr hk2
        have x0 := XL.out wr hk2
        have TK := Lib.hid htk
        have HLL := Lib.hid hll
        clear htk
        by_cases hlt : j < len
        · have g2 : (j : Int) < (len : Int) := by omega
          obtain ⟨g, hg⟩ : ∃ g, A = some ⟨g, 0, none⟩ := by
            rcases ho.2 with ⟨_, h0⟩ | ⟨g, _, _, he, _⟩
            · omega
            · injection he with he _ _
              exact ⟨g, he⟩
          subst hg
          have yj : wr.cell? ⟨g, j, none⟩ = some (.int .u8 (l[j]'(by omega))) := by
            obtain ⟨g2, o2, he, hy⟩ := (own_rdv ho).b8 j (by omega)
            injection he with he
            injection he with e1 e2
            subst e1 e2
            rwa [Nat.zero_add] at hy
          have z0 := World.ownsRow.frozenAt ho j
          have hst := World.ownsRow.stored ho j (.int .u8 (mb1 k))
          have eb : (⟨g, 0, none⟩ : Addr).add j = ⟨g, j, none⟩ := by simpa using addr_add g 0 j
          have hw : IntKind.u8.wrap (3 * (k : Int) + 1) = mb1 k := rfl
          have NX := Lib.hid (show (l.set j (mb1 k)).take (j + 1) = mk1 k (j + 1) by rw [take_set_succ _ _ _ (by omega), TK.out, mk1_succ])
          have B2 := Lib.hid (show (wr.setCell ⟨g, j, none⟩ (.int .u8 (mb1 k))).ownsRow 0 5 1 (.slice (some ⟨g, 0, none⟩) len a) len (B8 (l.set j (mb1 k))) by rw [B8_set]; exact hst.1)
          have K2 := Lib.hid (hk2.set g j (.int .u8 (mb1 k)) (fun _ => rfl))
          clear hst ho hk2
          generalize mb1 k = mb at *
          go_wp2
          go_roundw
          case rel => exact ⟨j + 1, l.set j mb, by omega, by go_num, by simpa using HLL.out, NX.out, B2.out, K2.out⟩
          case measure => simp [intOf]; omega
        · obtain rfl : j = len := by omega
          have g2 : ¬ (j : Int) < (j : Int) := by omega
          have hl1 : l = mk1 k j := by have := TK.out; rwa [List.take_of_length_le (by omega)] at this
          subst hl1
          have NP := Lib.hid (PP2.out.next hv hl ho hk2)
          clear ho hk2
          go_wp2
          go_roundw
          case rel => exact ⟨k + 1, by omega, by go_num, NP.out⟩
          case measure => simp [intOf]; omega
    · obtain rfl : M = k := by omega
      have g1 : ¬ (M : Int) < (M : Int) := by omega
      have P3 := P2.ph3
      have hwz := P2.bl.size
      clear P2
      go_wp2
      clear x0
      go_loopw [5, 6, 7] (fun iv _ _ wr => ∃ (k : Nat) (cl2 : Nat → Nat) (mv : Value) (mvals : List Value), k ≤ M ∧ iv = .int .i64 (k : Int) ∧ (∀ z, z < w.heap.size → cl2 z = cl z) ∧ Ph3 w wr cl2 q (.slice lsA M lsc) sv M vals lens mv mvals k) (fun iv _ _ _ => M - (intOf iv).toNat)
      case atStart => exact ⟨0, cl, _, [], by omega, rfl, fun _ _ => rfl, P3⟩
      case round =>
        clear P3 g1
        obtain ⟨k, cl2, mv, mvals, hk, rfl, hC0, P3⟩ := hrel
        have CL0 := Lib.hid hC0
        clear hC0
        obtain ⟨mA, mc, rfl, _, _⟩ := own_rd P3.mo
        have x0 : wr.cell? ⟨q, 0, none⟩ = some (.slice lsA M lsc) := P3.bk.cell _
        by_cases hkl : k < M
        · have g1 : (k : Int) < (M : Int) := by omega
          clear x0
          obtain ⟨v, hv⟩ : ∃ v, vals[k]? = some v := ⟨_, List.getElem?_eq_getElem (by omega)⟩
          obtain ⟨len, hl⟩ : ∃ len, lens[k]? = some len := ⟨_, List.getElem?_eq_getElem (by rw [P3.nl]; exact hkl)⟩
          obtain ⟨hlen, ⟨A, a, rfl, _⟩, hrow⟩ := P3.row k v len hv hl
          obtain ⟨ho, hcl⟩ := hrow (Nat.le_refl _)
          have hvk : vals[k]'(by omega) = .slice A len a := by rw [List.getElem?_eq_getElem (by omega)] at hv; injection hv
          obtain ⟨lb, lo, rfl, y0⟩ := (own_rdv P3.ls).at k (by omega)
          rw [hvk] at y0
          have ea := addr_add lb lo k
          have hAf : A = none ∨ ∃ u, A = some ⟨u, 0, none⟩ := by
            rcases ho.2 with ⟨he, _⟩ | ⟨g, _, _, he, _⟩
            · injection he with he _ _; exact .inl he
            · injection he with he _ _; exact .inr ⟨g, he⟩
          have HAF := Lib.hid hAf
          generalize wr = wO at *
          have x0 : wO.cell? ⟨q, 0, none⟩ = some (.slice (some ⟨lb, lo, none⟩) M lsc) := P3.bk.cell _
          have PP3 := Lib.hid P3
          clear P3 hcl hvk hrow hAf
          go_wp2
          clear y0 x0
          go_loopw [6, 7] (fun gv jv wr2 => ∃ t : Nat, t ≤ 70 ∧ jv = .int .i64 (t : Int) ∧ wr2.ownsRow 0 5 1 gv (len + t) (B8 (mk2 k len t)) ∧ (∀ z, gv.ownBlock = some z → (Value.slice A len a).ownBlock = some z ∨ wO.heap.size ≤ z) ∧ Rd wr2 A (B8 (mk1 k len)) ∧ Kp (fun z => (Value.slice A len a).ownBlock = some z) wO wr2) (fun _ jv _ => 70 - (intOf jv).toNat)
          case atStart => exact ⟨0, by omega, rfl, by rw [mk2_zero]; exact ho, fun z hz => .inl hz, own_rdv ho, Kp.refl _ _⟩
          case round =>
            clear ho
            obtain ⟨t, ht, rfl, og, gb, ra, hk2⟩ := hrel
            obtain ⟨gA, gc, rfl, _, _⟩ := own_rd og
            by_cases hlt : t < 70
            · have g2 : (t : Int) < 70 := by omega
              have NX := Lib.hid (show B8 (mk2 k len t) ++ [.int .u8 (mb2 k)] = B8 (mk2 k len (t + 1)) by rw [B8_snoc, mk2_succ])
              have hw : IntKind.u8.wrap (3 * (k : Int) + 2) = mb2 k := rfl
              have GB := Lib.hid gb
              have RA := Lib.hid ra
              have HK2 := Lib.hid hk2
              clear gb ra hk2
              generalize mb2 k = mb at *
              go_wp2_with (at_builtin; refine appK 0 rfl _ _ 22 5 (.int .u8 0) 1 rfl Try.underlying22 info5 rfl (by decide) (.slice gA (len + t) gc) (len + t) (B8 (mk2 k len t)) (.int .u8 mb) rfl rfl rfl og (Nat.zero_le _) (by omega) ?_; intro g9 cap9 w9 os9 hc9; rw [NX.out] at os9)
              have hz := HK2.out.size
              have ra9 := Lib.hid (rd_app HAF.out RA.out os9 hc9)
              have hk9 := Lib.hid (show Kp (fun z => (Value.slice A len a).ownBlock = some z) wO w9 from by
                rcases hc9 with ⟨e, hg⟩ | ⟨e, hg⟩
                · refine HK2.out.grown hg (fun z hz2 hzl => ?_)
                  injection hz2 with hz2
                  subst hz2
                  rcases GB.out _ e with h | h
                  · exact h
                  · omega
                · exact HK2.out.grown hg (fun z hz2 _ => by cases hz2))
              have gb9 := Lib.hid (show ∀ z, (Value.slice (some ⟨g9, 0, none⟩) (len + t + 1) cap9).ownBlock = some z → (Value.slice A len a).ownBlock = some z ∨ wO.heap.size ≤ z from fun z hz2 => by
                have hgz : g9 = z := by simpa [Value.ownBlock] using hz2
                subst hgz
                rcases hc9 with ⟨e, _⟩ | ⟨e, _⟩
                · exact GB.out _ e
                · exact .inr (by omega))
              have OS9 := Lib.hid os9
              clear os9 hc9 og
              go_roundw
              case rel => exact ⟨t + 1, by omega, by go_num, OS9.out, gb9.out, ra9.out, hk9.out⟩
              case measure => simp [intOf]; omega
            · obtain rfl : t = 70 := by omega
              have oM := ownKp PP3.out.mo hk2 (fun z hz e => by
                obtain ⟨_, _, h5⟩ := PP3.out.row k _ len hv hl
                have := (h5 (Nat.le_refl _)).2 z e
                have := PP3.out.mc z hz
                omega)
              have bM := PP3.out.bk.kp hk2 (fun e => PP3.out.bk.not_row (by decide) ((PP3.out.row k _ len hv hl).2.2 (Nat.le_refl _)).1 e.symm)
              have BM := Lib.hid bM
              have xm : wr.cell? ⟨q, 1, none⟩ = some (.slice mA k mc) := bM.cell _
              have OG := Lib.hid og
              have GB := Lib.hid gb
              have RA := Lib.hid ra
              have HK2 := Lib.hid hk2
              have OM := Lib.hid oM
              clear gb ra hk2 og bM
              go_wp2_with (at_builtin; refine app (w0 := wr) 0 rfl _ _ 55 22 (.slice none 0 0) 1 24 rfl Try.underlying55 info22 rfl (by decide) (by decide) (.slice mA k mc) k mvals #[.slice gA (len + 70) gc] rfl rfl rfl (by simp [Value.oneCell']) oM (Below.refl 0 wr) (by omega) (by omega) ?_; intro g5 cap5 w5 os5 hb5 hg5 hat5; have k6 := BM.out.kept hg5 (BM.out.not_row (by decide) OM.out); have k7 := k6.frozen 1; have k8 : w5.cell? ⟨q, 1, none⟩ = some (.slice mA k mc) := k6.cell _)
              have hat6 := ob_new (n := k + 1) (c := cap5) (v := .slice mA k mc) (z := wr.heap.size) (hat5.elim (fun e => Or.inl e.symm) (fun e => .inr (by omega)))
              have hOz := PP3.out.bl.size
              have NP := Lib.hid (PP3.out.next hv hl HK2.out OG.out GB.out RA.out os5 hg5 hat6)
              clear os5 hb5 hg5 hat5 hat6 oM k6 k7 k8 xm
              go_roundw
              case rel => exact ⟨k + 1, _, _, _, by omega, by go_num, fun z hz => (if_pos (by omega)).trans (CL0.out z hz), NP.out⟩
              case measure => simp [intOf]; omega
        · obtain rfl : M = k := by omega
          have g1 : ¬ (M : Int) < (M : Int) := by omega
          clear x0
          have hmn := P3.mo.1
          have BKW := Lib.hid P3.bk
          have RL := Lib.hid (fun w' (hb : Below wr.heap.size wr w') => (own_rdv P3.ls).below hb)
          have RM := Lib.hid (fun w' (hb : Below wr.heap.size wr w') => (own_rdv P3.mo).below hb)
          have BLW := Lib.hid (P3.bl.mono (fun z hz e => CL0.out z hz ▸ e))
          have ROW := Lib.hid P3.row
          have MROW := Lib.hid P3.mrow
          have HNL := Lib.hid P3.nl
          generalize wr = wP at *
          clear P3 CL0
          have x0 : wP.cell? ⟨q, 0, none⟩ = some (.slice lsA M lsc) := BKW.out.cell _
          go_wp2
          clear x0
          go_loopw [8, 9] (fun iv _ wr => ∃ k : Nat, k ≤ M ∧ iv = .int .i64 (k : Int) ∧ Below wP.heap.size wP wr) (fun iv _ _ => M - (intOf iv).toNat)
          case atStart => exact ⟨0, by omega, rfl, Below.refl _ _⟩
          case round =>
            clear g1
            obtain ⟨k, hk, rfl, hbl⟩ := hrel
            have hB := BKW.out.below hbl
            have x0 : wr.cell? ⟨q, 0, none⟩ = some (.slice lsA M lsc) := hB.cell _
            have x1 : wr.cell? ⟨q, 1, none⟩ = some (.slice mA M mc) := hB.cell _
            clear hB
            by_cases hkl : k < M
            · have g1 : (k : Int) < (M : Int) := by omega
              obtain ⟨v, hv⟩ : ∃ v, vals[k]? = some v := ⟨_, List.getElem?_eq_getElem (by omega)⟩
              obtain ⟨m, hm⟩ : ∃ m, mvals[k]? = some m := ⟨_, List.getElem?_eq_getElem (by omega)⟩
              obtain ⟨len, hl⟩ : ∃ len, lens[k]? = some len := ⟨_, List.getElem?_eq_getElem (by rw [HNL.out]; exact hkl)⟩
              obtain ⟨hlen, ⟨A, a, rfl, hr⟩, _⟩ := ROW.out k v len hv hl
              obtain ⟨A', a', rfl, hr'⟩ := MROW.out k m len hm hl
              have hvk : vals[k]'(by omega) = .slice A len a := by rw [List.getElem?_eq_getElem (by omega)] at hv; injection hv
              have hmk : mvals[k]'(by omega) = .slice A' (len + 70) a' := by rw [List.getElem?_eq_getElem (by omega)] at hm; injection hm
              obtain ⟨lb, lo, rfl, y0⟩ := (RL.out wr hbl).at k (by omega)
              rw [hvk] at y0
              have ea := addr_add lb lo k
              have YL := Lib.hid (show ∀ w', Below wP.heap.size wP w' → w'.cell? ⟨lb, lo + k, none⟩ = some (.slice A len a) from fun w' hb => by
                obtain ⟨b2, o2, he, hy⟩ := (RL.out w' hb).at k (by omega)
                injection he with he
                injection he with e1 e2
                subst e1 e2
                rw [hy, hvk])
              obtain ⟨mb, mo, rfl, ym⟩ := (RM.out wr hbl).at k (by omega)
              have eb := addr_add mb mo k
              have YM := Lib.hid (show ∀ w', Below wP.heap.size wP w' → w'.cell? ⟨mb, mo + k, none⟩ = some (.slice A' (len + 70) a') from fun w' hb => by
                obtain ⟨b2, o2, he, hy⟩ := (RM.out w' hb).at k (by omega)
                injection he with he
                injection he with e1 e2
                subst e1 e2
                rw [hy, hmk])
              have R1 := Lib.hid (fun w' (hb : Below wP.heap.size wP w') => hr.rd.below hb)
              have R2 := Lib.hid (fun w' (hb : Below wP.heap.size wP w') => hr'.rd.below hb)
              clear hv hm hl hr hr' hvk hmk ym
              go_wp2
              clear y0
              go_loopw [9] (fun jv wr2 => ∃ j : Nat, j ≤ len + 70 ∧ jv = .int .i64 (j : Int) ∧ Below wP.heap.size wP wr2) (fun jv _ => len + 70 - (intOf jv).toNat)
              case atStart => exact ⟨0, by omega, rfl, hbl⟩
              case round =>
                clear hbl
                obtain ⟨j, hj, rfl, hbl⟩ := hrel
                have y0 := YL.out wr hbl
                have y1 := YM.out wr hbl
                have hB := BKW.out.below hbl
                have x0 : wr.cell? ⟨q, 0, none⟩ = some (.slice (some ⟨lb, lo, none⟩) M lsc) := hB.cell _
                have x1 : wr.cell? ⟨q, 1, none⟩ = some (.slice (some ⟨mb, mo, none⟩) M mc) := hB.cell _
                clear hB
                by_cases hlt : j < len + 70
                · have g2 : (j : Int) < ((len + 70 : Nat) : Int) := by omega
                  have g3 : (j : Int) < (len : Int) + 70 := by omega
                  have hw1 : IntKind.u8.wrap (3 * (k : Int) + 1) = mb1 k := rfl
                  have hw2 : IntKind.u8.wrap (3 * (k : Int) + 2) = mb2 k := rfl
                  obtain ⟨g', o', rfl, z1⟩ := (R2.out wr hbl).b8 j (by rw [mk2_length]; omega)
                  have eg' := addr_add g' o' j
                  by_cases hjl : j < len
                  · have d1 : decide ((j : Int) < (len : Int)) = true := decide_eq_true (by omega)
                    have d2 : decide ((len : Int) ≤ (j : Int)) = false := decide_eq_false (by omega)
                    have d3 : (j : Int) < (len : Int) := by omega
                    have d4 : ¬ (len : Int) ≤ (j : Int) := by omega
                    have d5 : decide (len ≤ j) = false := decide_eq_false (by omega)
                    have d6 : decide (j < len) = true := decide_eq_true (by omega)
                    obtain ⟨g, og, rfl, z0⟩ := (R1.out wr hbl).b8 j (by rw [mk1_length]; omega)
                    have eg := addr_add g og j
                    rw [show (mk1 k len)[j]'(by rw [mk1_length]; omega) = mb1 k by simp [mk1]] at z0
                    rw [show (mk2 k len 70)[j]'(by rw [mk2_length]; omega) = mb1 k by
                      unfold mk2
                      rw [List.getElem_append_left (by rw [mk1_length]; omega)]
                      simp [mk1]] at z1
                    generalize mb1 k = b1 at *
                    generalize mb2 k = b2 at *
                    go_wp2
                    go_roundw
                    case rel => exact ⟨j + 1, by omega, by go_num, hbl⟩
                    case measure => simp [intOf]; omega
                  · have d1 : decide ((j : Int) < (len : Int)) = false := decide_eq_false (by omega)
                    have d2 : decide ((len : Int) ≤ (j : Int)) = true := decide_eq_true (by omega)
                    have d3 : ¬ (j : Int) < (len : Int) := by omega
                    have d4 : (len : Int) ≤ (j : Int) := by omega
                    have d5 : decide (len ≤ j) = true := decide_eq_true (by omega)
                    have d6 : decide (j < len) = false := decide_eq_false (by omega)
                    rw [show (mk2 k len 70)[j]'(by rw [mk2_length]; omega) = mb2 k by
                      unfold mk2
                      rw [List.getElem_append_right (by rw [mk1_length]; omega), List.getElem_replicate]] at z1
                    generalize mb1 k = b1 at *
                    generalize mb2 k = b2 at *
                    go_wp2
                    go_roundw
                    case rel => exact ⟨j + 1, by omega, by go_num, hbl⟩
                    case measure => simp [intOf]; omega
                · obtain rfl : j = len + 70 := by omega
                  have g2 : ¬ ((len + 70 : Nat) : Int) < ((len + 70 : Nat) : Int) := by omega
                  go_wp2
                  go_roundw
                  case rel => exact ⟨k + 1, by omega, by go_num, hbl⟩
                  case measure => simp [intOf]; omega
            · obtain rfl : M = k := by omega
              have g1 : ¬ (M : Int) < (M : Int) := by omega
              have FB := Lib.hid (BLW.out.below hbl)
              go_wp2
              go_returns
              exact ⟨rfl, FB.out⟩
end Go.Proofs.Ytobklhnechbpaaa
