import Derived.Test.YtobklhnechbpaaaSettleP
import Derived.Deep.DeepCutAuto
namespace Go.Proofs.Ytobklhnechbpaaa
open Go.RowKit

theorem fit_of {bs : List Int} {ps : List (Int × Int)} {x : List Int} (h : errE bs ps x = 0) : bs.length ≤ 48 ∧ ps.length ≤ 64 := by
  obtain ⟨⟨ls, hq⟩, _⟩ := errE_ok h
  have hT := toks_of hq
  have := hT.n48
  have := hT.n64
  omega
theorem voc_take {w : World} {A A' : Option Addr} {n m k : Nat} {bs : List Int} {ps : List (Int × Int)} (h : Voc w A A' n m bs ps) (hk : k ≤ m) : Voc w A A' n k bs (ps.take k) := by
  have hm := h.hm
  have b2 := h.b2
  refine ⟨h.hn, by rw [List.length_take]; omega, h.b1, by omega, h.hx, ?_⟩
  have hy := h.hy
  rw [← List.take_append_drop k ps, PR_append] at hy
  exact hy.left
set_option maxRecDepth 100000 in
set_option maxHeartbeats 4000000 in
/-- BpeSettles -/
theorem settleW_any (A A' T : Option Addr) (n m t c c' ct : Nat) (bs : List Int) (ps : List (Int × Int)) (x : List Int) (keep : Int) (w : World) (hv : Voc w A A' n m bs ps) (hmc : m ≤ c') (hwf : Wf bs ps) (hl : x.length = t) (ht : Rd w T (B8 x)) (hwx : ∀ b ∈ x, (Lit.int .u8 b).wf = true) (hs : t ≤ 8388600) :
    Calls Try.prog 9 #[.agg #[.slice A n c, .slice A' m c'], .slice T t ct, .int .i64 keep] w fun e w' => e = .returned (.bool true) ∧ Below w.heap.size w w' := by
  have hb : Below w.heap.size w (w.alloc (.cells #[.slice A n c, .slice A' m c'] 25)) := by go_grown
  have q0 := Blk.new w #[.slice A n c, .slice A' m c'] 25
  go_enter Try.func9, Try.ntmps9
  go_wp2_with fail
  generalize w.alloc (.cells #[.slice A n c, .slice A' m c'] 25) = w0 at *
  refine (lives_any w0).mono ?_
  rintro e w1 ⟨rfl, hb1⟩
  replace q0 := q0.below hb1
  replace hb := bthen hb hb1
  clear hb1
  have x0 : w1.cell? ⟨w.heap.size, 0, none⟩ = some (.slice A n c) := q0.cell _
  have x1 : w1.cell? ⟨w.heap.size, 1, none⟩ = some (.slice A' m c') := q0.cell _
  go_wp2_with fail
  have hv1 := hv.below hb
  refine (copyVocab_any A A' n m c c' bs ps hv.hn hv.hm hv.b1 hv.b2 w1 hv1.hx hv1.hy).mono ?_
  rintro e w2 ⟨v, u, rfl, ov, ou, hb1⟩
  obtain ⟨va, vc, rfl, _, _⟩ := own_rd ov
  obtain ⟨ua, uc, rfl, _, _⟩ := own_rd ou
  have hv2 := voc_of_rows hv ov ou
  replace q0 := q0.below hb1
  replace hb := bthen hb hb1
  clear hb1 x0 x1 hv1 ov ou
  go_wp2_with fail
  refine (copyBytes_any T t ct x hl (by omega) w2 (ht.below hb)).mono ?_
  rintro e w3 ⟨v, rfl, ov, hb1⟩
  obtain ⟨ya, yc, rfl, _, _⟩ := own_rd ov
  have ry := own_rdA ov
  replace hv2 := hv2.below hb1
  replace q0 := q0.below hb1
  replace hb := bthen hb hb1
  clear hb1 ov
  go_wp2_with fail
  refine (encode_any va ua ya n m t vc uc yc bs ps x w3 hv2 hwf hl ry hwx hs).mono ?_
  rintro e w4 ⟨v, rfl, ov, hb1⟩
  obtain ⟨la, lc, rfl, _, _⟩ := own_rd ov
  have rl := own_rdA ov
  replace q0 := q0.below hb1
  replace hb := bthen hb hb1
  clear hb1 ov hv2 ry
  have hle := encL_small bs ps x
  have hmb : m ≤ 140737488355328 := by have := hv.b2; omega
  by_cases hE : errE bs ps x = 0
  · have ST := Lib.hid (settle_stands hE)
    have SP := Lib.hid (settle_pos hE)
    have SL := Lib.hid (settle_less hE)
    have FT := Lib.hid (fit_of hE)
    rw [hE]
    clear hE
    generalize encL bs ps x = L at *
    generalize hN : L.length = N at *
    have HN := Lib.hid hN
    clear hN
    go_wp2
    go_loopw [10, 11] (fun i _ wr => ∃ k : Nat, k ≤ m ∧ i = .int .i64 (k : Int) ∧ Rd wr la (I64 L) ∧ Blk wr w.heap.size #[.slice A n c, .slice A' m c'] 25 ∧ Below w.heap.size w wr) (fun i _ _ => m - (intOf i).toNat)
    case atStart => exact ⟨0, by omega, rfl, rl, q0, hb⟩
    case round =>
      clear rl q0 hb
      obtain ⟨k, hk, rfl, rl, q0, hb⟩ := hrel
      have x1 : wr.cell? ⟨w.heap.size, 1, none⟩ = some (.slice A' m c') := q0.cell _
      by_cases hlt : k < m
      · obtain ⟨b, o, rfl, y1, y2⟩ := (hv.below hb).hy.pr k (by have := hv.hm; omega)
        have ea := addr_add b o (k * 2)
        have hst := ST.out _ (List.getElem_mem (show k < ps.length by have := hv.hm; omega))
        generalize ps[k]'(by have := hv.hm; omega) = p at *
        obtain ⟨pa, pb⟩ := p
        simp only at y1 y2
        have hki : (k : Int) < (m : Int) := by omega
        have HK1 : Hid (k + 1 ≤ m) := Lib.hid (by omega)
        go_wp2_with fail
        refine (stands_any la N lc L pa pb wr HN.out (by omega) rl).mono ?_
        rintro e w5 ⟨rfl, hb1⟩
        rw [hst]
        clear x1 y1 y2 hst
        have hk1 := HK1.out
        go_wp2
        go_roundw
        case rel => exact ⟨k + 1, HK1.out, by go_num, rl.below hb1, q0.below hb1, bthen hb hb1⟩
        case measure => have := HK1.out; simp [intOf]; omega
      · go_wp2
        go_loopw [12] (fun i wr => ∃ k : Nat, k ≤ N ∧ i = .int .i64 (k : Int) ∧ Rd wr la (I64 L) ∧ Blk wr w.heap.size #[.slice A n c, .slice A' m c'] 25 ∧ Below w.heap.size w wr) (fun i _ => N - (intOf i).toNat)
        case atStart => exact ⟨0, by omega, rfl, rl, q0, hb⟩
        case round =>
          clear rl q0 hb x1 hlt hk
          obtain ⟨k, hk, rfl, rl, q0, hb⟩ := hrel
          by_cases hlt : k < N
          · obtain ⟨b, o, rfl, y1⟩ := rl.i64 k (by have := HN.out; omega)
            have ea := addr_add b o k
            have hp := SP.out _ (List.getElem_mem (show k < L.length by have := HN.out; omega))
            generalize L[k]'(by have := HN.out; omega) = y at *
            have hne : (y == 0) = false := by rw [beq_eq_false_iff_ne]; omega
            have hki : (k : Int) < (N : Int) := by omega
            go_wp2
            go_roundw
            case rel => exact ⟨k + 1, by omega, by go_num, rl, q0, hb⟩
            case measure => simp [intOf]; omega
          · have x0 : wr.cell? ⟨w.heap.size, 0, none⟩ = some (.slice A n c) := q0.cell _
            have x1 : wr.cell? ⟨w.heap.size, 1, none⟩ = some (.slice A' m c') := q0.cell _
            have hv1 := hv.below hb
            go_upto_region 16 with fail
            go_cut [71] (fun s wx => s = .bool (decide (keep < 0) || decide ((m : Int) < keep)) ∧ wr = wx)
            case first =>
              by_cases hk0 : keep < 0
              · have d1 : decide (keep < 0) = true := decide_eq_true hk0
                go_wp2
                go_meet
                exact ⟨by rw [d1]; rfl, rfl⟩
              · have d1 : decide (keep < 0) = false := decide_eq_false hk0
                go_wp2
                go_meet
                exact ⟨by rw [d1]; rfl, rfl⟩
            case rest =>
            obtain ⟨rfl, rfl⟩ := hcut
            go_upto_if 71 with fail
            go_cut [2] (fun s wx => ∃ kk : Nat, kk ≤ m ∧ s = .int .i64 (kk : Int) ∧ wr = wx)
            case first =>
              by_cases hk0 : keep < 0 ∨ (m : Int) < keep
              · have d1 : (decide (keep < 0) || decide ((m : Int) < keep)) = true := by simpa using hk0
                rw [d1]
                go_wp2
                go_meet
                exact ⟨0, by omega, rfl, rfl⟩
              · have d1 : (decide (keep < 0) || decide ((m : Int) < keep)) = false := by simpa using hk0
                rw [d1]
                go_wp2
                go_meet
                exact ⟨keep.toNat, by omega, by rw [Int.toNat_of_nonneg (by omega)], rfl⟩
            case rest =>
              obtain ⟨kk, hkk, rfl, rfl⟩ := hcut
              have hvk : Voc wr A A' n kk bs (ps.take kk) := voc_take hv1 hkk
              have hkz : (0 : Int) ≤ (kk : Int) := by omega
              have hkc : (kk : Int) ≤ (c' : Int) := by omega
              have hkcn : kk ≤ c' := by omega
              have HA : Below wr.heap.size wr (wr.alloc (.cells #[.slice none 0 0, .slice none 0 0] 25)) := by go_grown
              have hHne : w.heap.size ≠ wr.heap.size := Nat.ne_of_lt q0.lt
              go_upto_region 18 with fail
              go_cut [13] (fun s wx => ∃ H va vc ua uc, s = .pointer (some ⟨H, 0, none⟩) ∧ Blk wx H #[.slice va n vc, .slice ua kk uc] 25 ∧ Voc wx va ua n kk bs (ps.take kk) ∧ Blk wx w.heap.size #[.slice A n c, .slice A' m c'] 25 ∧ Rd wx la (I64 L) ∧ Below w.heap.size w wx)
              case first =>
                go_region_held3 (fun w' => w'.cell? ⟨w.heap.size, 0, none⟩ = some (.slice A n c) ∧ w'.cell? ⟨w.heap.size, 1, none⟩ = some (.slice A' m c'))
                  (first | exact ⟨‹_›, ‹_›⟩ | exact ‹_› | exact ⟨Lib.cell?_alloc_marked _ ‹_›, Lib.cell?_alloc_marked _ ‹_›⟩)
                  (first
                    | (go_at_call 29; refine (copyVocab_any A A' n kk c c' bs (ps.take kk) hvk.hn hvk.hm hvk.b1 hvk.b2 _ (hvk.below (Below.drew (Below.refl _ _))).hx (hvk.below (Below.drew (Below.refl _ _))).hy).mono ?_; rintro e w5 ⟨v5, u5, rfl, ov5, ou5, hb5⟩; obtain ⟨va, vc, rfl, _, _⟩ := own_rd ov5; obtain ⟨ua, uc, rfl, _, _⟩ := own_rd ou5; have q5 := Blk.below (Blk.drew q0) hb5; have z0 : w5.cell? ⟨w.heap.size, 0, none⟩ = some (.slice A n c) := q5.cell _; have z1 : w5.cell? ⟨w.heap.size, 1, none⟩ = some (.slice A' m c') := q5.cell _)
                    | (go_at_call 29; refine (copyVocab_any A A' n kk c c' bs (ps.take kk) hvk.hn hvk.hm hvk.b1 hvk.b2 _ (hvk.below (Below.drew HA)).hx (hvk.below (Below.drew HA)).hy).mono ?_; rintro e w5 ⟨v5, u5, rfl, ov5, ou5, hb5⟩; obtain ⟨va, vc, rfl, _, _⟩ := own_rd ov5; obtain ⟨ua, uc, rfl, _, _⟩ := own_rd ou5; have q5 := Blk.below (Blk.drew (q0.alloc (.cells #[.slice none 0 0, .slice none 0 0] 25))) hb5; have z0 : w5.cell? ⟨w.heap.size, 0, none⟩ = some (.slice A n c) := q5.cell _; have z1 : w5.cell? ⟨w.heap.size, 1, none⟩ = some (.slice A' m c') := q5.cell _; have qn : Blk w5 wr.heap.size #[.slice none 0 0, .slice none 0 0] 25 := Blk.below (Blk.drew (Blk.new wr #[.slice none 0 0, .slice none 0 0] 25)) hb5; have n0 : w5.cell? ⟨wr.heap.size, 0, none⟩ = some (.slice none 0 0) := qn.cell _; have n1 : w5.cell? ⟨wr.heap.size, 1, none⟩ = some (.slice none 0 0) := qn.cell _; have n2 := qn.frozen 0; have n3 := qn.frozen 1; have sq := (q5.other ⟨wr.heap.size, 0, none⟩ (.slice va n vc) hHne).other ⟨wr.heap.size, 1, none⟩ (.slice ua kk uc) hHne; have s0 : ((w5.setCell ⟨wr.heap.size, 0, none⟩ (.slice va n vc)).setCell ⟨wr.heap.size, 1, none⟩ (.slice ua kk uc)).cell? ⟨w.heap.size, 0, none⟩ = some (.slice A n c) := sq.cell _; have s1 : ((w5.setCell ⟨wr.heap.size, 0, none⟩ (.slice va n vc)).setCell ⟨wr.heap.size, 1, none⟩ (.slice ua kk uc)).cell? ⟨w.heap.size, 1, none⟩ = some (.slice A' m c') := sq.cell _))
                all_goals (go_wp2_with fail; go_meet)
                · have hfin : Below wr.heap.size wr (w5.alloc (.cells #[.slice va n vc, .slice ua kk uc] 25)) := (bthen (Below.drew (Below.refl wr.heap.size wr)) hb5).alloc hb5.size _
                  exact ⟨w5.heap.size, va, vc, ua, uc, rfl, Blk.new w5 _ 25, (voc_of_rows hvk ov5 ou5).below (by go_grown), q5.alloc _, rl.below hfin, bthen hb hfin⟩
                · have hfin := ((bthen (Below.drew HA) hb5).setCell (p := ⟨wr.heap.size, 0, none⟩) (by simp) (.slice va n vc)).setCell (p := ⟨wr.heap.size, 1, none⟩) (by simp) (.slice ua kk uc)
                  have o1 := own_set_other (own_set_other ov5 wr.heap.size 0 (.slice va n vc) (qn.not_row (by decide) ov5)) wr.heap.size 1 (.slice ua kk uc) (qn.not_row (by decide) ov5)
                  have o2 := own_set_other (own_set_other ou5 wr.heap.size 0 (.slice va n vc) (qn.not_row (by decide) ou5)) wr.heap.size 1 (.slice ua kk uc) (qn.not_row (by decide) ou5)
                  exact ⟨wr.heap.size, va, vc, ua, uc, rfl, (qn.set 0 (.slice va n vc)).set 1 (.slice ua kk uc), voc_of_rows hvk o1 o2, sq, rl.below hfin, bthen hb hfin⟩
              case rest =>
                clear hb q0 rl hv1 hvk x0 x1 HA hHne
                obtain ⟨H, va, vc, ua, uc, rfl, qH, hvk, q0, rl, hb⟩ := hcut
                obtain ⟨w6, rfl⟩ : ∃ u : World, u = wc := ⟨_, rfl⟩
                obtain ⟨e1, e2, e3, e4, e5⟩ := SL.out kk
                have hwk : Wf bs (ps.take kk) := ⟨hwf.b, fun p hp => hwf.p p (List.mem_of_mem_take hp)⟩
                have z0 : w6.cell? ⟨H, 0, none⟩ = some (.slice va n vc) := qH.cell _
                have z1 : w6.cell? ⟨H, 1, none⟩ = some (.slice ua kk uc) := qH.cell _
                go_upto_region 19 with fail
                go_cut [14, 15] (fun s14 s15 wx => ∃ ma mc, s14 = .slice ma (encL bs (ps.take kk) x).length mc ∧ s15 = .int .i64 0 ∧ Rd wx ma (I64 (encL bs (ps.take kk) x)) ∧ Blk wx w.heap.size #[.slice A n c, .slice A' m c'] 25 ∧ Rd wx la (I64 L) ∧ Below w.heap.size w wx)
                case first =>
                  go_region_held3 (fun w' => w'.cell? ⟨H, 0, none⟩ = some (.slice va n vc) ∧ w'.cell? ⟨H, 1, none⟩ = some (.slice ua kk uc))
                    (first | exact ⟨‹_›, ‹_›⟩ | exact ‹_›)
                    (first
                      | (go_at_call 25; refine (copyBytes_any T t ct x hl (by omega) _ ((ht.below hb).below (Below.drew (Below.refl _ _)))).mono ?_; rintro e w7 ⟨v7, rfl, ov7, hb7⟩; obtain ⟨ya7, yc7, rfl, _, _⟩ := own_rd ov7; have q7 := Blk.below (Blk.drew qH) hb7; have z2 : w7.cell? ⟨H, 0, none⟩ = some (.slice va n vc) := q7.cell _; have z3 : w7.cell? ⟨H, 1, none⟩ = some (.slice ua kk uc) := q7.cell _)
                      | (go_at_call 26; refine (encode_any va ua ya7 n kk t vc uc yc7 bs (ps.take kk) x _ ((hvk.below (Below.drew (Below.refl _ _))).below hb7) hwk hl (own_rdA ov7) hwx hs).mono ?_; rintro e w8 ⟨v8, rfl, ov8, hb8⟩; obtain ⟨ma, mc, rfl, _, _⟩ := own_rd ov8; have q8 := q7.below hb8; have z4 : w8.cell? ⟨H, 0, none⟩ = some (.slice va n vc) := q8.cell _; have z5 : w8.cell? ⟨H, 1, none⟩ = some (.slice ua kk uc) := q8.cell _))
                  all_goals (go_wp2_with fail; go_meet)
                  all_goals
                    have hf : Below w6.heap.size w6 w8 := bthen (bthen (Below.drew (Below.refl _ w6)) hb7) hb8
                    exact ⟨ma, mc, rfl, rfl, own_rdA ov8, q0.below hf, rl.below hf, bthen hb hf⟩
                case rest =>
                  clear hb q0 rl
                  obtain ⟨ma, mc, rfl, rfl, rm, q0, rl, hb⟩ := hcut
                  obtain ⟨w9, rfl⟩ : ∃ u : World, u = wc := ⟨_, rfl⟩
                  rw [hv.hn] at e5
                  have EJ := Lib.hid e5
                  have JM := Lib.hid (fun h => e4 h)
                  clear e1 e5 e4
                  generalize hM : (encL bs (ps.take kk) x).length = M at *
                  have HM := Lib.hid hM
                  clear hM
                  have d1 : decide ((M : Int) < (N : Int)) = false := decide_eq_false (by have := HN.out; omega)
                  have d1' : decide (M < N) = false := decide_eq_false (by have := HN.out; omega)
                  have d2 : decide ((t : Int) < (M : Int)) = false := decide_eq_false (by omega)
                  have d2' : decide (t < M) = false := decide_eq_false (by omega)
                  have x0 : w9.cell? ⟨w.heap.size, 0, none⟩ = some (.slice A n c) := q0.cell _
                  have x1 : w9.cell? ⟨w.heap.size, 1, none⟩ = some (.slice A' m c') := q0.cell _
                  have hfit : n ≤ 48 ∧ m ≤ 64 := by have h := FT.out; rw [hv.hn, hv.hm] at h; exact h
                  have hkz : kk = 0 ∨ kk ≠ 0 := by omega
                  have hkf : ((kk : Int) == 0) = true ∧ ((M : Int) != (t : Int)) = false ∨ ((kk : Int) == 0) = false := by
                    rcases hkz with h | h
                    · have := JM.out h
                      exact .inl ⟨by rw [h]; rfl, by simp; omega⟩
                    · exact .inr (by simpa using h)
                  clear hkz
                  rcases hkf with ⟨k1, k2⟩ | k1
                  all_goals
                    go_wp2_with fail
                    refine (joinR_any A A' ma n m M c c' mc bs ps (encL bs (ps.take kk) x) w9 (hv.below hb) hfit.1 hfit.2 HM.out rm (by omega)).mono ?_
                    rintro e w10 ⟨A10, c10, rfl, r10, hb10⟩
                    rw [EJ.out] at r10
                    rw [EJ.out, HN.out]
                    go_wp2_with fail
                    refine (eqInts_any A10 la N N c10 lc L L HN.out HN.out (by omega) w10 r10 (rl.below hb10)).mono ?_
                    rintro e w11 ⟨rfl, hb11⟩
                    rw [decide_eq_true rfl]
                    go_wp2
                    go_returns
                    exact ⟨rfl, bthen (bthen hb hb10) hb11⟩
  · have hne : (errE bs ps x != 0) = true := by simpa using hE
    have h0 : (encL bs ps x).length = 0 := by rw [encL_bad hE]; rfl
    rw [h0]
    clear h0 hE rl
    generalize errE bs ps x = E at *
    go_wp2
    go_returns
    exact ⟨rfl, hb⟩
end Go.Proofs.Ytobklhnechbpaaa
