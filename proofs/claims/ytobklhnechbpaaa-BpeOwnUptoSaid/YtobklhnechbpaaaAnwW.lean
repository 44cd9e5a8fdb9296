import Derived.Test.YtobklhnechbpaaaAnwP
import Derived.StillTailTactics
namespace Go.Proofs.Ytobklhnechbpaaa
open Go.RowKit Go.Shelf
attribute [local go_sem] Oper.semAt_some
set_option maxRecDepth 100000 in
set_option maxHeartbeats 8000000 in
/-- vocabAnew -/
theorem vocabAnew_any (A A' T : Option Addr) (n m t c c' ct B : Nat) (bs : List Int) (ps : List (Int × Int)) (l : List Int) (w : World) (hB : B ≤ w.heap.size) (hv : Voc w A A' n m bs ps) (hwf : Wf bs ps) (hl : l.length = t) (hs : t ≤ 8388608) (oA : w.ownsRow B 5 1 (.slice A n c) n (B8 bs)) (oP : w.ownsRow B 51 2 (.slice A' m c') m (PR ps)) (oT : w.ownsRow B 3 1 (.slice T t ct) t (I64 l)) :
    Calls Try.prog 37 #[.agg #[.slice A n c, .slice A' m c'], .slice T t ct] w fun e w' => e = .returned (.bool true) ∧ Kp (fun z => (Value.slice A n c).ownBlock = some z ∨ (Value.slice T t ct).ownBlock = some z) w w' := by
  have h0 : Below w.heap.size w ((w.alloc (.cells #[.slice A n c, .slice A' m c'] 25)).alloc (.cells #[.bool false] 4)) := by go_grown
  have S : An B w.heap.size w ((w.alloc (.cells #[.slice A n c, .slice A' m c'] 25)).alloc (.cells #[.bool false] 4)) A A' T n m t c c' ct bs ps l := by
    refine ⟨hB, hB, hv.hn, hv.hm, hl, hv.b1, hv.b2, hwf, (Blk.new w _ _).alloc _, ?_, own_below oA h0, own_below oP h0, own_below oT h0, Kp.of_below h0⟩
    have := Blk.new (w.alloc (.cells #[.slice A n c, .slice A' m c'] 25)) #[.bool false] 4
    simpa using this
  have hn48 : n ≤ 140737488355328 := by have := hv.b1; omega
  clear oA oP oT hv hwf hl h0
  refine (callsIn_wide (n := 10)).1 ?_
  refine callsIn_of_wp_marks Try.func37 rfl trivial ?_ rfl
  simp only [Try.ntmps37, List.size_toArray, List.length_cons, List.length_nil, Nat.reduceAdd, Nat.reduceSub, Array.replicate_succ, Array.replicate_zero, List.push_toArray, List.append_toArray, List.nil_append, List.cons_append]
  refine wpIn_wide.2 ?_
  have x0 := S.x0
  have x1 := S.x1
  go_wp2_with fail
  generalize (w.alloc (.cells #[.slice A n c, .slice A' m c'] 25)).alloc (.cells #[.bool false] 4) = w1 at *
  refine (check_any A A' n m c c' bs ps w1 S.voc S.wf).mono ?_
  rintro e w2 ⟨rfl, hb⟩
  replace S := S.below hb
  clear hb x0 x1
  have x0 := S.x0
  have x1 := S.x1
  go_wp2_with fail
  refine (size_any A A' n m c c' bs ps w2 S.voc S.wf).mono ?_
  rintro e w3 ⟨rfl, hb⟩
  replace S := S.below hb
  clear hb x0 x1
  have x0 := S.x0
  have x1 := S.x1
  go_wp2_with fail
  refine (bytes_any A A' n m c c' bs ps 0 w3 S.voc S.wf).mono ?_
  rintro e w4 ⟨v, rfl, _, hb⟩
  replace S := S.below hb
  clear hb x0 x1
  have x0 := S.x0
  have x1 := S.x1
  go_wp2_with fail
  refine (decode_any A A' T n m t c c' ct bs ps l w4 S.voc S.wf S.lT S.rT hs).mono ?_
  rintro e w5 ⟨v2, rfl, _, hb⟩
  replace S := S.below hb
  clear hb x0 x1
  have x0 := S.x0
  have x1 := S.x1
  go_wp2_with fail
  refine (all_any _ w5 _ _ rfl).mono ?_
  rintro e w6 ⟨rfl, _, hb⟩
  replace S := S.below hb
  clear hb x0 x1
  have eF := eF33
  go_wp2
  clear eF
  go_loopw [6, 7] (fun iv _ wr => ∃ (k : Nat) (bs' : List Int), 2 * k ≤ n + 1 ∧ iv = .int .i64 (k : Int) ∧ An B w.heap.size w wr A A' T n m t c c' ct bs' ps l) (fun iv _ _ => n - (intOf iv).toNat)
  case atStart => exact ⟨0, bs, by omega, rfl, S⟩
  case round =>
    clear S
    obtain ⟨k, bs', hk, rfl, S⟩ := hrel
    have x0 := S.x0
    have hw1 : IntKind.i64.wrap (2 * (k : Int)) = 2 * (k : Int) := IntWalk.i64_in _ (by omega)
    have hw2 : IntKind.i64.wrap (2 * (k : Int) + 1) = 2 * (k : Int) + 1 := IntWalk.i64_in _ (by omega)
    by_cases hlt : 2 * k + 1 < n
    · obtain ⟨g, rfl⟩ := own_addr S.oA (by omega)
      obtain ⟨j, hj⟩ : ∃ j : Nat, n = k + 1 + j := ⟨n - 1 - k, by omega⟩
      have hlti : 2 * (k : Int) + 1 < (n : Int) := by omega
      have hw3 : IntKind.i64.wrap ((n : Int) - 1) = (n : Int) - 1 := IntWalk.i64_in _ (by omega)
      have hw4 : IntKind.i64.wrap ((n : Int) - 1 - (k : Int)) = (j : Int) := by rw [IntWalk.i64_in _ (by omega)]; omega
      have y0 := S.cA k (by rw [S.lA]; omega)
      have y1 := S.cA j (by rw [S.lA]; omega)
      have yd := S.drew.cA k (by rw [S.lA]; omega)
      have f0 := S.drew.fA k
      have wf0 := S.wf.b _ (List.getElem_mem (show k < bs'.length by rw [S.lA]; omega))
      have wf1 := S.wf.b _ (List.getElem_mem (show j < bs'.length by rw [S.lA]; omega))
      generalize bs'[k]'(by rw [S.lA]; omega) = bk at *
      generalize bs'[j]'(by rw [S.lA]; omega) = bj at *
      have S2 := S.drew.setA k bj wf1
      have S3 := S2.setA j bk wf0
      have z0 := S2.x0
      have z1 := S2.cA j (by rw [S2.lA]; omega)
      generalize (bs'.set k bj)[j]'(by rw [S2.lA]; omega) = bz at *
      have f1 := S2.fA j
      have SS := Lib.hid S3
      have ek : (⟨g, 0, none⟩ : Addr).add k = ⟨g, k, none⟩ := by simpa using addr_add g 0 k
      have ej : (⟨g, 0, none⟩ : Addr).add j = ⟨g, j, none⟩ := by simpa using addr_add g 0 j
      have hjn : (j : Int) < (n : Int) := by omega
      have hkn : (k : Int) < (n : Int) := by omega
      have HK := Lib.hid (show 2 * (k + 1) ≤ n + 1 by omega)
      clear S S2 S3 wf0 wf1 hj hlt hk
      go_wp2
      go_still_tail 14, (by kernel_rfl)
      change wpList _ _ _ _ _ wr.drew
      generalize wr.drew = wd at *
      clear x0 y0 y1
      go_wp2
      go_roundw
      case rel => exact ⟨k + 1, (bs'.set k bj).set j bk, HK.out, by go_num, SS.out⟩
      case measure => simp [intOf]; have := HK.out; omega
    · have hlti : ¬ 2 * (k : Int) + 1 < (n : Int) := by omega
      have x1 := S.x1
      clear hk hlt
      go_wp2_with fail
      refine (copyVocab_any A A' n m c c' bs' ps S.lA S.lP S.b1 S.b2 wr S.voc.hx S.voc.hy).mono ?_
      rintro e wa ⟨v, u, rfl, ov, ou, hb⟩
      obtain ⟨va, vc, rfl, _, _⟩ := own_rd ov
      obtain ⟨ua, uc, rfl, _, _⟩ := own_rd ou
      have hBr : B ≤ wr.heap.size := Nat.le_trans hB S.hb.size
      have hbo : Below wa.heap.size wa (wa.alloc (.cells #[.slice va n vc, .slice ua m uc] 25)) := by go_grown
      have O : Ow B wa.heap.size (wa.alloc (.cells #[.slice va n vc, .slice ua m uc] 25)) va ua n m vc uc bs' ps := ⟨Blk.new wa _ _, own_below (own_base ov hBr) hbo, own_below (own_base ou hBr) hbo⟩
      replace S := (S.below hb).below hbo
      clear x0 x1 hb hbo hBr ov ou hw1 hw2 hlti
      have x0 := S.x0
      have x1 := S.x1
      go_wp2_with fail
      generalize wa.alloc (.cells #[.slice va n vc, .slice ua m uc] 25) = wb at *
      generalize wa.heap.size = Y at *
      refine (check_any A A' n m c c' bs' ps wb S.voc S.wf).mono ?_
      rintro e wc ⟨rfl, hb⟩
      replace S := S.below hb
      replace O := O.below hb
      clear hb x0 x1
      have x0 := S.x0
      have x1 := S.x1
      go_wp2_with fail
      refine (size_any A A' n m c c' bs' ps wc S.voc S.wf).mono ?_
      rintro e wd ⟨rfl, hb⟩
      replace S := S.below hb
      replace O := O.below hb
      clear hb x0 x1
      have x0 := S.x0
      have x1 := S.x1
      go_wp2_with fail
      refine (bytes_any A A' n m c c' bs' ps 0 wd S.voc S.wf).mono ?_
      rintro e we ⟨v11, rfl, o11, hb⟩
      replace S := S.below hb
      replace O := O.below hb
      obtain ⟨a11, c11, rfl, _, _⟩ := own_rd o11
      have r11 := own_rdA o11
      clear o11
      clear hb x0 x1
      have x0 := S.x0
      have x1 := S.x1
      go_wp2_with fail
      refine (decode_any A A' T n m t c c' ct bs' ps l we S.voc S.wf S.lT S.rT hs).mono ?_
      rintro e wf ⟨v13, rfl, o13, hb⟩
      replace S := S.below hb
      replace O := O.below hb
      obtain ⟨a13, c13, rfl, _, _⟩ := own_rd o13
      have r13 := own_rdA o13
      replace r11 := r11.below hb
      clear o13
      clear hb x0 x1
      have y0 := O.x0
      have y1 := O.x1
      go_wp2_with fail
      refine (refBytes_any va ua n m vc uc bs' ps 0 wf (O.voc S.voc)).mono ?_
      rintro e wg ⟨v15, rfl, o15, hb⟩
      replace S := S.below hb
      replace O := O.below hb
      obtain ⟨a15, c15, rfl, _, _⟩ := own_rd o15
      have r15 := own_rdA o15
      replace r11 := r11.below hb
      replace r13 := r13.below hb
      clear o15
      clear hb y0 y1
      have y0 := O.x0
      have y1 := O.x1
      go_wp2_with fail
      refine (refDecode_any va ua T n m t vc uc ct bs' ps l wg (O.voc S.voc) S.lT S.rT hs).mono ?_
      rintro e wh ⟨v17, rfl, o17, hb⟩
      replace S := S.below hb
      replace O := O.below hb
      obtain ⟨a17, c17, rfl, _, _⟩ := own_rd o17
      have r17 := own_rdA o17
      replace r11 := r11.below hb
      replace r13 := r13.below hb
      replace r15 := r15.below hb
      clear o17
      clear hb y0 y1
      have y0 := O.x0
      have y1 := O.x1
      go_wp2_with fail
      refine (refCheck_any va ua n m vc uc bs' ps wh (O.voc S.voc)).mono ?_
      rintro e wi ⟨rfl, hb⟩
      replace S := S.below hb
      replace O := O.below hb
      replace r11 := r11.below hb
      replace r13 := r13.below hb
      replace r15 := r15.below hb
      replace r17 := r17.below hb
      clear hb y0 y1
      have y0 := O.x0
      have y1 := O.x1
      go_wp2_with fail
      refine (refSize_any va ua n m vc uc bs' ps wi (O.voc S.voc)).mono ?_
      rintro e wj ⟨rfl, hb⟩
      replace S := S.below hb
      replace O := O.below hb
      replace r11 := r11.below hb
      replace r13 := r13.below hb
      replace r15 := r15.below hb
      replace r17 := r17.below hb
      clear hb y0 y1
      have hD1 := bytD_small bs' ps l
      have hT1 := bytT_small bs' ps 0
      have hLT := S.lT
      go_wp2_with fail
      refine (eqBytes_any _ _ _ _ _ _ (bytT bs' ps 0) (bytT bs' ps 0) rfl rfl (by omega) wj r11 r15).mono ?_
      rintro e wk ⟨rfl, hb⟩
      replace S := S.below hb
      replace O := O.below hb
      replace r11 := r11.below hb
      replace r13 := r13.below hb
      replace r15 := r15.below hb
      replace r17 := r17.below hb
      rw [decide_eq_true rfl]
      clear hb 
      go_wp2_with fail
      refine (eqBytes_any _ _ _ _ _ _ (bytD bs' ps l) (bytD bs' ps l) rfl rfl (by omega) wk r13 r17).mono ?_
      rintro e wl ⟨rfl, hb⟩
      replace S := S.below hb
      replace O := O.below hb
      rw [decide_eq_true rfl]
      clear hb r11 r13 r15 r17 hD1 hT1 hLT
      have x0 := S.x0
      have x1 := S.x1
      go_wp2_with fail
      refine (all_any _ wl _ _ rfl).mono ?_
      rintro e wn ⟨rfl, qM, hb⟩
      replace S := S.below hb
      replace O := O.below hb
      clear hb x0 x1
      have eF := eF33
      have hwn : w.heap.size ≤ wn.heap.size := S.hb.size
      go_wp2_with fail
      clear eF
      refine (wpIn_wide (n := 10)).1 ?_
      refine range_it2 19 20 (gf := 41) (lb := #[.pointer (some ⟨wl.heap.size, 0, none⟩)]) (N := (toks bs' ps).length) (X := Gives wn.heap.size (toks bs' ps)) rfl (enters_of Try.func41 (by kernel_rfl) rfl) (all_iter A A' n m c c' bs' ps _ wl.heap.size 9 wn S.voc S.wf qM (by decide))
        ?ps ?X (fun _ V => An B w.heap.size w V A A' T n m t c c' ct bs' ps l ∧ Ow B Y V va ua n m vc uc bs' ps) (fun _ _ _ => False) ?I ?Ix ⟨S, O⟩ ?assign ?body ?done ?stop
      case ps =>
        rintro j args V ⟨v, rfl, _⟩
        rfl
      case X =>
        rintro j args V V' ⟨v, rfl, hv⟩ hs
        exact ⟨v, rfl, own_sm hv hs⟩
      case I =>
        rintro j V V' ⟨S, O⟩ hs
        exact ⟨S.sm hwn hs, O.sm hs⟩
      case Ix =>
        rintro cd j V V' h _
        exact h
      case assign =>
        rintro q j args V K ⟨v, rfl, ov⟩ hK
        obtain ⟨va, vcp, rfl, _, _⟩ := own_rd ov
        simp at hK
        gi_wp2
        exact hK
      case stop =>
        rintro D cd j V _ _ h _
        exact h.elim
      case body =>
        rintro q j args V ⟨S, O⟩ ⟨v, rfl, ov⟩ hj hsz
        obtain ⟨ga, gc, rfl, _, _⟩ := own_rd ov
        obtain ⟨er, eb⟩ := errT_toks bs' ps j hj
        have y0 := O.x0
        have y1 := O.x1
        have hsm := toks_small bs' ps j
        simp
        gi_wp2_with fail
        refine ⟨trivial, ?_⟩
        refine (CallsIn.inRound q (callsIn_wide.2 (refBytes_any va ua n m vc uc bs' ps (j : Int) V (O.voc S.voc)))).mono ?_
        rintro e V2 ⟨u, rfl, ou, hb2⟩
        rw [er]
        rw [eb] at ou
        obtain ⟨ua2, ucp, rfl, _, _⟩ := own_rd ou
        have ov2 := own_below ov hb2
        have S2 := S.below hb2
        have O2 := O.below hb2
        clear y0 y1 er eb
        generalize htk : tok (toks bs' ps) j = tk at *
        gi_wp2_with fail
        refine ⟨trivial, ?_⟩
        refine (CallsIn.inRound q (callsIn_wide.2 (eqBytes_any _ _ _ _ _ _ tk tk rfl rfl (by omega) V2 (own_rdA ov2) (own_rdA ou)))).mono ?_
        rintro e V3 ⟨rfl, hb3⟩
        rw [decide_eq_true rfl]
        gi_wp2
        exact ⟨Up.of_below (bthen hb2 hb3), S2.below hb3, O2.below hb3⟩
      case done =>
        rintro D W hD ⟨S, O⟩ hDd
        have x0 := S.x0
        have x1 := S.x1
        have hDl := (Array.getElem?_eq_some_iff.1 hDd).1
        go_wp2_with fail
        refine (decode_any A A' T n m t c c' ct bs' ps l W S.voc S.wf S.lT S.rT hs).mono ?_
        rintro e wo ⟨v3, rfl, _, hb⟩
        replace S := S.below hb
        replace O := O.below hb
        replace hDd := (hb.block _ hDl).trans hDd
        clear hb x0 x1 hDl
        go_wp2
        go_loopw [23, 24] (fun iv _ wr => ∃ (k : Nat) (l' : List Int), 2 * k ≤ t + 1 ∧ iv = .int .i64 (k : Int) ∧ An B w.heap.size w wr A A' T n m t c c' ct bs' ps l' ∧ Ow B Y wr va ua n m vc uc bs' ps ∧ wr.heap[D]? = some (.deferred (some []))) (fun iv _ _ => t - (intOf iv).toNat)
        case atStart => exact ⟨0, l, by omega, rfl, S, O, hDd⟩
        case round =>
          clear S O hDd
          obtain ⟨k, l', hk, rfl, S, O, hDd⟩ := hrel
          have hw1 : IntKind.i64.wrap (2 * (k : Int)) = 2 * (k : Int) := IntWalk.i64_in _ (by omega)
          have hw2 : IntKind.i64.wrap (2 * (k : Int) + 1) = 2 * (k : Int) + 1 := IntWalk.i64_in _ (by omega)
          by_cases hlt : 2 * k + 1 < t
          · obtain ⟨g, rfl⟩ := own_addr S.oT (by omega)
            obtain ⟨j, hj⟩ : ∃ j : Nat, t = k + 1 + j := ⟨t - 1 - k, by omega⟩
            have hlti : 2 * (k : Int) + 1 < (t : Int) := by omega
            have hw3 : IntKind.i64.wrap ((t : Int) - 1) = (t : Int) - 1 := IntWalk.i64_in _ (by omega)
            have hw4 : IntKind.i64.wrap ((t : Int) - 1 - (k : Int)) = (j : Int) := by rw [IntWalk.i64_in _ (by omega)]; omega
            have y0 := S.cT k (by rw [S.lT]; omega)
            have y1 := S.cT j (by rw [S.lT]; omega)
            have f0 := S.fT k
            generalize l'[k]'(by rw [S.lT]; omega) = bk at *
            generalize l'[j]'(by rw [S.lT]; omega) = bj at *
            have S2 := S.setT k bj
            have O2 := O.setT (i := k) (x := bj) S.oT
            have z1 := S2.cT j (by rw [S2.lT]; omega)
            generalize (l'.set k bj)[j]'(by rw [S2.lT]; omega) = bz at *
            have f1 := S2.fT j
            have SS := Lib.hid (S2.setT j bk)
            have OO := Lib.hid (O2.setT (i := j) (x := bk) S2.oT)
            have hDg : ∀ (i : Nat) (u : Value) (V : World), V.heap[D]? = some (.deferred (some [])) → (V.setCell ⟨g, i, none⟩ u).heap[D]? = some (.deferred (some [])) := fun i u V h => (Below.heap_setCell V _ _ D (fun e => by
              have h1 := own_lt S.oT g rfl
              obtain ⟨g2, cap, cur, he, _, hh, _⟩ := S.oT.2.resolve_left (fun h => by cases h.1)
              injection he with he _ _
              injection he with he
              injection he with he _ _
              subst he
              have e2 : D = g := e
              rw [e2, hh] at hDd
              cases hDd)).trans h
            have DD := Lib.hid (hDg j (.int .i64 bk) _ (hDg k (.int .i64 bj) _ hDd))
            have ek : (⟨g, 0, none⟩ : Addr).add k = ⟨g, k, none⟩ := by simpa using addr_add g 0 k
            have ej : (⟨g, 0, none⟩ : Addr).add j = ⟨g, j, none⟩ := by simpa using addr_add g 0 j
            have hjn : (j : Int) < (t : Int) := by omega
            have hkn : (k : Int) < (t : Int) := by omega
            have HK := Lib.hid (show 2 * (k + 1) ≤ t + 1 by omega)
            clear S S2 O O2 hDg hDd hj hlt hk
            go_wp2
            go_roundw
            case rel => exact ⟨k + 1, (l'.set k bj).set j bk, HK.out, by go_num, SS.out, OO.out, DD.out⟩
            case measure => simp [intOf]; have := HK.out; omega
          · have hlti : ¬ 2 * (k : Int) + 1 < (t : Int) := by omega
            have hDl := (Array.getElem?_eq_some_iff.1 hDd).1
            clear hk hlt
            go_wp2_with fail
            refine (copyInts_any T t ct l' S.lT (by omega) wr S.rT).mono ?_
            rintro e wa ⟨v25, rfl, o25, hb⟩
            obtain ⟨ma, mc, rfl, _, _⟩ := own_rd o25
            have rm := own_rdA o25
            replace S := S.below hb
            replace O := O.below hb
            replace hDd := (hb.block _ hDl).trans hDd
            clear hb hDl hlti hw1 hw2 o25
            have x0 := S.x0
            have x1 := S.x1
            go_wp2_with fail
            refine (decode_any A A' T n m t c c' ct bs' ps l' wa S.voc S.wf S.lT S.rT hs).mono ?_
            rintro e wb ⟨v13, rfl, o13, hb⟩
            obtain ⟨a13, c13, rfl, _, _⟩ := own_rd o13
            have r13 := own_rdA o13
            have hDl := (Array.getElem?_eq_some_iff.1 hDd).1
            replace S := S.below hb
            replace O := O.below hb
            replace rm := rm.below hb
            replace hDd := (hb.block _ hDl).trans hDd
            clear hb hDl x0 x1 o13
            have y0 := O.x0
            have y1 := O.x1
            go_wp2_with fail
            refine (refDecode_any va ua ma n m t vc uc mc bs' ps l' wb (O.voc S.voc) S.lT rm hs).mono ?_
            rintro e wc ⟨v17, rfl, o17, hb⟩
            obtain ⟨a17, c17, rfl, _, _⟩ := own_rd o17
            have r17 := own_rdA o17
            have hDl := (Array.getElem?_eq_some_iff.1 hDd).1
            replace S := S.below hb
            replace O := O.below hb
            replace r13 := r13.below hb
            replace hDd := (hb.block _ hDl).trans hDd
            clear hb hDl y0 y1 o17 rm
            have hD1 := bytD_small bs' ps l'
            have hLT := S.lT
            go_wp2_with fail
            refine (eqBytes_any _ _ _ _ _ _ (bytD bs' ps l') (bytD bs' ps l') rfl rfl (by omega) wc r13 r17).mono ?_
            rintro e wd ⟨rfl, hb⟩
            rw [decide_eq_true rfl]
            have hDl := (Array.getElem?_eq_some_iff.1 hDd).1
            replace S := S.below hb
            replace O := O.below hb
            replace hDd := (hb.block _ hDl).trans hDd
            clear hb hDl r13 r17
            have x0 := S.x0
            have x1 := S.x1
            have y0 := O.x0
            have y1 := O.x1
            go_wp2_with fail
            refine (eqVocab_any A A' va ua n m n m c c' vc uc bs' bs' ps ps wd S.voc (O.voc S.voc)).mono ?_
            rintro e we ⟨rfl, hb⟩
            have hDl := (Array.getElem?_eq_some_iff.1 hDd).1
            replace S := S.below hb
            replace hDd := (hb.block _ hDl).trans hDd
            clear hb hDl x0 x1 y0 y1 O
            rw [decide_eq_true (show bs' = bs' ∧ ps = ps from ⟨rfl, rfl⟩)]
            have z4 : we.cell? ⟨w.heap.size + 1, 0, none⟩ = some (.bool false) := S.q4.cell 0
            have f4 := S.q4.frozen 0
            go_wp2
            have hb3 := S.hb.set (w.heap.size + 1) 0 (.bool true) (fun h => absurd h (by omega))
            have q4' := S.q4.set 0 (.bool true)
            have hne : D ≠ w.heap.size + 1 := fun e => by
              have h1 : we.heap[w.heap.size + 1]? = some (.cells #[.bool false] 4 (0, 0)) := S.q4
              rw [e, h1] at hDd
              cases hDd
            refine leaves_marks wn.heap.size [D] _ (by simp) (fun D' h => by simp at h; subst h; exact ⟨hD, (Below.heap_setCell we _ _ D' hne).trans hDd⟩) ?_
            intro W4 hs4
            exact ⟨.bool true, results_cell1 rfl _ _ _ _ rfl ((q4'.sm hs4).cell 0), rfl, hb3.sm hwn hs4⟩
end Go.Proofs.Ytobklhnechbpaaa
