import Derived.Test.YtlcgkdhcdldlfaaAnew
namespace Go.Proofs.Ytlcgkdhcdldlfaa
open Go.RowKit

theorem own_set_in {w : World} {base : Nat} {e : TypeId} {size g n c : Nat} {xs : List Value} (h : w.ownsRow base e size (.slice (some ⟨g, 0, none⟩) n c) n xs) (i : Nat) (v : Value) : (w.setCell ⟨g, i, none⟩ v).ownsRow base e size (.slice (some ⟨g, 0, none⟩) n c) n (xs.set i v) := by
  refine ⟨by simpa using h.1, .inr ?_⟩
  rcases h.2 with ⟨h1, _⟩ | ⟨g', cap, cur, h1, h2, h3, h4, h5, h6, h7⟩
  · cases h1
  · injection h1 with h1 _ h8
    injection h1 with h1
    injection h1 with h1
    subst h1 h8
    refine ⟨g, c, _, rfl, h2, Blk.set (w := w) (cs := cur) (t := e) h3 i v, h4, h5, by simpa using h6, ?_⟩
    rw [Array.toList_setIfInBounds, List.take_set, h7]
theorem own_frozen {w : World} {base : Nat} {e : TypeId} {size g n c : Nat} {xs : List Value} (h : w.ownsRow base e size (.slice (some ⟨g, 0, none⟩) n c) n xs) (i : Nat) : w.frozen? ⟨g, i, none⟩ = false := by
  rcases h.2 with ⟨h1, _⟩ | ⟨g', cap, cur, h1, h2, h3, _⟩
  · cases h1
  · injection h1 with h1
    injection h1 with h1
    injection h1 with h1
    subst h1
    exact Blk.frozen (w := w) (cs := cur) (t := e) h3 i
theorem PR_set (ps : List (Int × Int)) (i : Nat) (a b : Int) (h : i < ps.length) : ((PR ps).set (i * 2) (.int .i64 a)).set (i * 2 + 1) (.int .i64 b) = PR (ps.set i (a, b)) := by
  induction ps generalizing i with
  | nil => simp at h
  | cons p r ih =>
    have e : ∀ (q : Int × Int) (s : List (Int × Int)), PR (q :: s) = Value.int .i64 q.1 :: Value.int .i64 q.2 :: PR s := fun q s => by simp [PR]
    cases i with
    | zero => simp [e]
    | succ i =>
      rw [e, show (i + 1) * 2 + 1 = (i * 2 + 1) + 1 + 1 by omega, show (i + 1) * 2 = i * 2 + 1 + 1 by omega, List.set_cons_succ, List.set_cons_succ, List.set_cons_succ, List.set_cons_succ, ih i (by simpa using h), List.set_cons_succ, e]

theorem walkL_small (t : List Nd) (ch : List Int) : (walkL t ch).length ≤ 33 := by
  by_cases h : isT t
  · have := walkL_len t ch
    have := h.2.1
    omega
  · rw [(walk_bad h).1]
    simp
set_option maxRecDepth 100000 in
set_option maxHeartbeats 8000000 in
/-- JudgeLists -/
theorem judgeLists_any (A B C D : Option Addr) (n c m d q c3 p c4 : Nat) (t : List Nd) (ch sl go : List Int) (most : Int) (w : World) (hl : t.length = n) (hm : n * 24 ≤ 140737488351232) (hx : Rd w A (NC t)) (hwf : WfN t)
    (hl2 : ch.length = m) (hm2 : m * 8 ≤ 140737488351232) (hy : Rd w B (I64 ch)) (hl3 : sl.length = q) (hm3 : q * 8 ≤ 140737488351232) (hs : Rd w C (I64 sl)) (hl4 : go.length = p) (hm4 : p * 8 ≤ 140737488351232) (hg : Rd w D (I64 go)) (hwg : WfI go) :
    Calls Try.prog 6 #[.slice A n c, .slice B m d, .slice C q c3, .slice D p c4, .int .i64 most] w fun e w' => e = .returned (.bool true) ∧ Below w.heap.size w w' := by
  go_enter Try.func6, Try.ntmps6
  go_wp2_with fail
  refine (works_any w).mono ?_
  rintro e w1 ⟨rfl, hb⟩
  go_wp2_with fail
  refine (copyNodes_any A n c t w1 hl (by omega) (hx.below hb)).mono ?_
  rintro e w2 ⟨v, rfl, ov, hb1⟩
  obtain ⟨xA, xc, rfl, _, _⟩ := own_rd ov
  have LV := Live.cons (Live.nil w2) (x := (xA, NC t, w1.heap.size, w2.heap.size)) (own_rb ov)
  have z1 := hb1.size
  replace hb := bthen hb hb1
  clear ov hb1
  go_wp2_with fail
  refine (refWalk_any A B n c m d t ch w2 hl hm (hx.below hb) hl2 hm2 (hy.below hb)).mono ?_
  rintro e w3 ⟨v, rfl, ov, hb1⟩
  obtain ⟨aA, ac, rfl, _, _⟩ := own_rd ov
  replace LV := Live.cons (LV.below hb1) (x := (aA, I64 (walkL t ch), w2.heap.size, w3.heap.size)) (own_rb ov)
  have z2 := hb1.size
  replace hb := bthen hb hb1
  clear ov hb1
  have t3 : w.heap.size ≤ w3.heap.size := hb.size
  go_wp2_with fail
  refine (walk_any xA B n xc m d t ch w3 hl hm (LV.at 1 rfl) hwf hl2 hm2 (hy.below hb)).mono ?_
  rintro e w4 ⟨v, rfl, ov, hb1⟩
  obtain ⟨bA, bc, rfl, _, _⟩ := own_rd ov
  have ow := OwnI.of_row ov
  replace LV := LV.below hb1
  have z3 := hb1.size
  have wl := ow.lt
  replace hb := bthen hb hb1
  clear ov hb1
  go_wp2_with fail
  refine (walk_any xA B n xc m d t ch w4 hl hm (LV.at 1 rfl) hwf hl2 hm2 (hy.below hb)).mono ?_
  rintro e w5 ⟨v, rfl, ov, hb1⟩
  obtain ⟨dA, dc, rfl, _, _⟩ := own_rd ov
  replace LV := Live.cons (LV.below hb1) (x := (dA, I64 (walkL t ch), w4.heap.size, w5.heap.size)) (own_rb ov)
  replace ow := ow.below hb1
  have z4 := hb1.size
  replace hb := bthen hb hb1
  have hlen := walkL_small t ch
  clear ov hb1
  generalize hWL : walkL t ch = L at *
  generalize hWN : walkN t ch = N at *
  generalize hWE : walkE t ch = E at *
  have HWL := Lib.hid hWL
  have HWN := Lib.hid hWN
  have HWE := Lib.hid hWE
  clear hWL hWN hWE
  go_wp2_with fail
  refine (copyInts_any bA L.length bc L rfl (by omega) w5 ow.rd).mono ?_
  rintro e w6 ⟨v, rfl, ov, hb1⟩
  obtain ⟨eA, ec, rfl, hec, _⟩ := own_rd ov
  replace LV := Live.cons (LV.below hb1) (x := (eA, I64 L, w5.heap.size, w6.heap.size)) (own_rb ov)
  replace ow := ow.below hb1
  have z5 := hb1.size
  replace hb := bthen hb hb1
  clear ov hb1
  have t6 : w.heap.size ≤ w6.heap.size := hb.size
  go_wp2_with fail
  refine (take_any xA eA n xc L.length ec t L N most w6 hl hm (LV.at 3 rfl) hwf rfl (by omega) hec (LV.at 0 rfl)).mono ?_
  rintro e w7 ⟨fA, fc, rfl, ol, hb1⟩
  replace LV := LV.below hb1
  replace ow := ow.below hb1
  have ll := ol.lt
  have z6 := hb1.size
  replace hb := bthen hb hb1
  clear hb1
  have t7 : w.heap.size ≤ w7.heap.size := hb.size
  go_wp2_with fail
  refine (plan_any eA C D L.length ec q c3 p c4 L sl go w7 rfl (by omega) (LV.at 0 rfl) hl3 (hs.below hb) hl4 hm4 (hg.below hb) hwg).mono ?_
  rintro e w8 ⟨mA, mc, rfl, om, hb1⟩
  replace LV := LV.below hb1
  replace ow := ow.below hb1
  replace ol := ol.below hb1
  have ml := own_lt om
  rw [own_blk] at ml
  have z7 := hb1.size
  replace hb := bthen hb hb1
  clear hb1
  go_wp2_with fail
  refine (take_any xA eA n xc L.length ec t L N most w8 hl hm (LV.at 3 rfl) hwf rfl (by omega) hec (LV.at 0 rfl)).mono ?_
  rintro e w9 ⟨gA, gc, rfl, ov, hb1⟩
  replace LV := Live.cons (LV.below hb1) (x := (gA, I64 (takeL t L N most), w8.heap.size, w9.heap.size)) ov.rb
  replace ow := ow.below hb1
  replace ol := ol.below hb1
  replace om := own_below om hb1
  have z8 := hb1.size
  replace hb := bthen hb hb1
  clear ov hb1
  go_wp2_with fail
  refine (plan_any eA C D L.length ec q c3 p c4 L sl go w9 rfl (by omega) (LV.at 1 rfl) hl3 (hs.below hb) hl4 hm4 (hg.below hb) hwg).mono ?_
  rintro e w10 ⟨hA, hc, rfl, ov, hb1⟩
  replace LV := Live.cons (LV.below hb1) (x := (hA, PR (planL L sl go), w9.heap.size, w10.heap.size)) (own_rb ov)
  replace ow := ow.below hb1
  replace ol := ol.below hb1
  replace om := own_below om hb1
  have z9 := hb1.size
  replace hb := bthen hb hb1
  clear ov hb1
  go_wp2_with fail
  refine (refTake_any A aA n c L.length ac t L N most w10 hl hm (hx.below hb) rfl (by omega) (LV.at 4 rfl)).mono ?_
  rintro e w11 ⟨iA, ic, rfl, ov, hb1⟩
  replace LV := Live.cons (LV.below hb1) (x := (iA, I64 (takeL t L N most), w10.heap.size, w11.heap.size)) ov.rb
  replace ow := ow.below hb1
  replace ol := ol.below hb1
  replace om := own_below om hb1
  have z10 := hb1.size
  replace hb := bthen hb hb1
  clear ov hb1
  go_wp2_with fail
  refine (refPlan_any aA C D L.length ac q c3 p c4 L sl go w11 rfl (by omega) (LV.at 5 rfl) hl3 (hs.below hb) hl4 hm4 (hg.below hb)).mono ?_
  rintro e w12 ⟨jA, jc, rfl, ov, hb1⟩
  replace LV := Live.cons (LV.below hb1) (x := (jA, PR (planL L sl go), w11.heap.size, w12.heap.size)) (own_rb ov)
  replace ow := ow.below hb1
  replace ol := ol.below hb1
  replace om := own_below om hb1
  have z11 := hb1.size
  replace hb := bthen hb hb1
  have kl := takeL_len t L N most
  have pl := planL_len L sl go
  clear ov hb1
  go_wp2_with fail
  refine (eqInts_any bA aA L.length L.length bc ac L L rfl rfl (by omega) w12 ow.rd (LV.at 6 rfl)).mono ?_
  rintro e w13 ⟨rfl, hb1⟩
  rw [decide_eq_true rfl]
  replace LV := LV.below hb1
  replace ow := ow.below hb1
  replace ol := ol.below hb1
  replace om := own_below om hb1
  have z12 := hb1.size
  replace hb := bthen hb hb1
  clear hb1
  go_wp2_with fail
  refine (eqInts_any fA iA (takeL t L N most).length (takeL t L N most).length fc ic (takeL t L N most) (takeL t L N most) rfl rfl (by omega) w13 ol.rd (LV.at 1 rfl)).mono ?_
  rintro e w14 ⟨rfl, hb1⟩
  rw [decide_eq_true rfl]
  replace LV := LV.below hb1
  replace ow := ow.below hb1
  replace ol := ol.below hb1
  replace om := own_below om hb1
  have z13 := hb1.size
  replace hb := bthen hb hb1
  clear hb1
  go_wp2_with fail
  refine (eqMoves_any mA jA (planL L sl go).length mc jc (planL L sl go) w14 rfl (by omega) (own_rdA om) (LV.at 0 rfl)).mono ?_
  rintro e w15 ⟨rfl, hb1⟩
  replace LV := LV.below hb1
  replace ow := ow.below hb1
  replace ol := ol.below hb1
  replace om := own_below om hb1
  have z14 := hb1.size
  replace hb := bthen hb hb1
  clear hb1
  go_wp2_with fail
  refine (over_any bA L.length bc w3.heap.size L (-5) w15 ow (by omega) (by omega) (by omega)).mono ?_
  rintro e w16 ⟨rfl, hg1⟩
  replace LV := LV.grown hg1 (by
    intro x hx g hg
    have := wl g hg
    simp only [List.mem_cons, List.not_mem_nil, or_false] at hx
    rcases hx with rfl | rfl | rfl | rfl | rfl | rfl | rfl | rfl <;> (simp only; omega))
  replace ol := ol.grown hg1 (fun g hg he => by have := wl g he; have := ll g hg; omega)
  replace om := World.ownsRow.kept om hg1 (by
    rw [own_blk]
    cases hq : blk mA with
    | none => exact .inl rfl
    | some g => exact .inr fun he => by have := wl g he.symm; have := ml g hq; omega)
  replace hb : Below w.heap.size w w16 := hb.grown hg1 hb.size (fun j hj => by have := wl j hj; have := hb.size; omega)
  have z15 := hg1.size
  clear ow hg1
  go_wp2_with fail
  refine (over_any fA (takeL t L N most).length fc w6.heap.size (takeL t L N most) (-6) w16 ol (by omega) (by omega) (by omega)).mono ?_
  rintro e w17 ⟨rfl, hg1⟩
  replace LV := LV.grown hg1 (by
    intro x hx g hg
    have := ll g hg
    simp only [List.mem_cons, List.not_mem_nil, or_false] at hx
    rcases hx with rfl | rfl | rfl | rfl | rfl | rfl | rfl | rfl <;> (simp only; omega))
  replace om := World.ownsRow.kept om hg1 (by
    rw [own_blk]
    cases hq : blk mA with
    | none => exact .inl rfl
    | some g => exact .inr fun he => by have := ll g he.symm; have := ml g hq; omega)
  have hb17 : Below w.heap.size w w17 := hb.grown hg1 hb.size (fun j hj => by have := ll j hj; have := hb.size; omega)
  have z16 := hg1.size
  clear ol hg1 hb
  generalize hM : (planL L sl go).length = M at *
  have HM := Lib.hid hM
  clear hM
  go_wp2
  go_loopw [39] (fun i wr => ∃ (k : Nat) (ys : List Value), k ≤ M ∧ i = .int .i64 (k : Int) ∧ wr.ownsRow w7.heap.size 43 2 (.slice mA M mc) M ys ∧ w17.grownBy wr (blk mA)) (fun i _ => M - (intOf i).toNat)
  case atStart => exact ⟨0, _, by omega, rfl, om, grown_refl _ _⟩
  case round =>
    clear om
    obtain ⟨k, ys, hk, rfl, om, hg1⟩ := hrel
    by_cases hlt : k < M
    · obtain ⟨g, cap, he⟩ := own_some om (by omega)
      injection he with he
      subst he
      have hyl : ys.length = M * 2 := om.1
      obtain ⟨v0, hv0⟩ : ∃ v, ys[k * 2]? = some v := ⟨_, List.getElem?_eq_getElem (show k * 2 < ys.length by omega)⟩
      obtain ⟨v1, hv1⟩ : ∃ v, ys[k * 2 + 1]? = some v := ⟨_, List.getElem?_eq_getElem (show k * 2 + 1 < ys.length by omega)⟩
      have c0 := own_cell om (k * 2) v0 hv0
      have c1 := own_cell om (k * 2 + 1) v1 hv1
      have f0 := own_frozen om (k * 2)
      have f1 := own_frozen om (k * 2 + 1)
      have ea : (⟨g, 0, none⟩ : Addr).add (k * 2) = ⟨g, k * 2, none⟩ := by simpa using addr_add g 0 (k * 2)
      have hki : (k : Int) < (M : Int) := by omega
      clear hv0 hv1
      go_wp2
      go_roundw
      case rel => exact ⟨k + 1, _, by omega, by go_num, own_set_in (own_set_in om (k * 2) (.int .i64 (-7))) (k * 2 + 1) (.int .i64 0), grown_step (grown_step hg1 (grown_set _ _ _ _) (.inl rfl)) (grown_set _ _ _ _) (.inl rfl)⟩
      case measure => simp [intOf]; omega
    · go_wp2
      go_loopw [40, 41] (fun v i wr => ∃ (k : Nat) (A' : Option Addr) (c' : Nat) (ys : List Value), k ≤ 64 ∧ i = .int .i64 (k : Int) ∧ v = .slice A' (M + k) c' ∧ wr.ownsRow w7.heap.size 43 2 (.slice A' (M + k) c') (M + k) ys ∧ w17.grownBy wr (blk mA) ∧ (blk A' = blk mA ∨ ∀ g, blk A' = some g → w17.heap.size ≤ g)) (fun _ i _ => 64 - (intOf i).toNat)
      case atStart => exact ⟨0, mA, mc, ys, by omega, rfl, rfl, om, hg1, .inl rfl⟩
      case round =>
        clear om hg1
        obtain ⟨k, A', c', ys, hk, rfl, rfl, om, hg1, hf⟩ := hrel
        have hsz := hg1.size
        by_cases hlt : k < 64
        · go_wp2_with (at_builtin; refine app (w0 := wr) w7.heap.size rfl _ _ 36 43 (.agg #[.int .i64 0, .int .i64 0]) 2 16 rfl Try.underlying36 info43 rfl (by decide) (by decide) (.slice A' (M + k) c') (M + k) ys #[.int .i64 0, .int .i64 (-8)] rfl rfl rfl (by simp [Value.oneCell']) om (Below.refl _ _) (by omega) (by omega) ?_; intro g2 cap2 w18 om2 _ hg2 hat2; rw [own_blk] at hg2 hat2)
          go_roundw
          case rel =>
            refine ⟨k + 1, some ⟨g2, 0, none⟩, cap2, _, by omega, by go_num, rfl, om2, grown_step hg1 hg2 hf, ?_⟩
            rcases hat2 with h | h
            · rw [show blk (some ⟨g2, 0, none⟩) = some g2 from rfl, h]
              exact hf
            · refine .inr fun g hg => ?_
              have : g2 = g := by simpa [blk] using hg
              omega
          case measure => simp [intOf]; omega
        · obtain rfl : k = 64 := by omega
          replace LV := LV.grown hg1 (by
            intro x hx g hg
            have := ml g hg
            simp only [List.mem_cons, List.not_mem_nil, or_false] at hx
            rcases hx with rfl | rfl | rfl | rfl | rfl | rfl | rfl | rfl <;> (simp only; omega))
          have hb : Below w.heap.size w wr := hb17.grown hg1 hb17.size (fun j hj => by have := ml j hj; have := hb17.size; omega)
          clear om hg1 hb17 hf ml ll wl z1 z2 z3 z4 z5 z6 z7 z8 z9 z10 z11 z12 z13 z14 z15 z16 t3 t6 t7
          go_wp2_with fail
          refine (eqInts_any dA aA L.length L.length dc ac L L rfl rfl (by omega) wr (LV.at 5 rfl) (LV.at 6 rfl)).mono ?_
          rintro e w20 ⟨rfl, hb1⟩
          rw [decide_eq_true rfl]
          replace LV := LV.below hb1
          replace hb := bthen hb hb1
          clear hb1
          go_wp2_with fail
          refine (eqInts_any gA iA (takeL t L N most).length (takeL t L N most).length gc ic (takeL t L N most) (takeL t L N most) rfl rfl (by omega) w20 (LV.at 3 rfl) (LV.at 1 rfl)).mono ?_
          rintro e w21 ⟨rfl, hb1⟩
          rw [decide_eq_true rfl]
          replace LV := LV.below hb1
          replace hb := bthen hb hb1
          clear hb1
          go_wp2_with fail
          have plb : (planL L sl go).length ≤ L.length := by rw [HM.out]; exact pl
          rw [← HM.out]
          refine (eqMoves_any hA jA (planL L sl go).length hc jc (planL L sl go) w21 rfl (by omega) (LV.at 2 rfl) (LV.at 0 rfl)).mono ?_
          rintro e w22 ⟨rfl, hb1⟩
          replace LV := LV.below hb1
          replace hb := bthen hb hb1
          clear hb1
          go_wp2_with fail
          refine (walk_any xA B n xc m d t ch w22 hl hm (LV.at 7 rfl) hwf hl2 hm2 (hy.below hb)).mono ?_
          rintro e w23 ⟨v, rfl, ov, hb1⟩
          rw [HWN.out, HWE.out]
          rw [HWL.out] at ov
          obtain ⟨kA, kc, rfl, _, _⟩ := own_rd ov
          replace LV := Live.cons (LV.below hb1) (x := (kA, I64 L, w22.heap.size, w23.heap.size)) (own_rb ov)
          replace hb := bthen hb hb1
          clear ov hb1
          go_wp2_with fail
          refine (take_any xA eA n xc L.length ec t L N most w23 hl hm (LV.at 8 rfl) hwf rfl (by omega) hec (LV.at 5 rfl)).mono ?_
          rintro e w24 ⟨lA, lc, rfl, ov, hb1⟩
          replace LV := Live.cons (LV.below hb1) (x := (lA, I64 (takeL t L N most), w23.heap.size, w24.heap.size)) ov.rb
          replace hb := bthen hb hb1
          clear ov hb1
          go_wp2_with fail
          refine (plan_any eA C D L.length ec q c3 p c4 L sl go w24 rfl (by omega) (LV.at 6 rfl) hl3 (hs.below hb) hl4 hm4 (hg.below hb) hwg).mono ?_
          rintro e w25 ⟨nA, nc, rfl, ov, hb1⟩
          replace LV := Live.cons (LV.below hb1) (x := (nA, PR (planL L sl go), w24.heap.size, w25.heap.size)) (own_rb ov)
          replace hb := bthen hb hb1
          clear ov hb1
          go_wp2_with fail
          refine (eqInts_any kA aA L.length L.length kc ac L L rfl rfl (by omega) w25 (LV.at 2 rfl) (LV.at 9 rfl)).mono ?_
          rintro e w26 ⟨rfl, hb1⟩
          rw [decide_eq_true rfl]
          replace LV := LV.below hb1
          replace hb := bthen hb hb1
          clear hb1
          go_wp2_with fail
          refine (eqInts_any lA iA (takeL t L N most).length (takeL t L N most).length lc ic (takeL t L N most) (takeL t L N most) rfl rfl (by omega) w26 (LV.at 1 rfl) (LV.at 4 rfl)).mono ?_
          rintro e w27 ⟨rfl, hb1⟩
          rw [decide_eq_true rfl]
          replace LV := LV.below hb1
          replace hb := bthen hb hb1
          clear hb1
          go_wp2_with fail
          refine (eqMoves_any nA jA (planL L sl go).length nc jc (planL L sl go) w27 rfl (by omega) (LV.at 0 rfl) (LV.at 3 rfl)).mono ?_
          rintro e w28 ⟨rfl, hb1⟩
          replace LV := LV.below hb1
          replace hb := bthen hb hb1
          clear hb1
          go_wp2_with fail
          refine (eqNodes_any xA A n xc c t w28 hl (by omega) (LV.at 10 rfl) (hx.below hb)).mono ?_
          rintro e w29 ⟨rfl, hb1⟩
          replace hb := bthen hb hb1
          clear hb1 LV
          go_wp2_with fail
          refine (book_any w29).mono ?_
          rintro e w30 ⟨rfl, hb1⟩
          replace hb := bthen hb hb1
          clear hb1
          go_wp2_with fail
          refine (anew_any A B C D n c m d q c3 p c4 t ch sl go most w30 hl hm (hx.below hb) hwf hl2 hm2 (hy.below hb) hl3 hm3 (hs.below hb) hl4 hm4 (hg.below hb) hwg).mono ?_
          rintro e w31 ⟨rfl, hb1⟩
          replace hb := bthen hb hb1
          have hw64 : IntKind.i64.wrap (((planL L sl go).length : Int) + 64) = ((planL L sl go).length : Int) + 64 := IntWalk.i64_in _ (by omega)
          clear hb1
          generalize takeE t L most = E3 at *
          generalize planE L sl go = E4 at *
          go_wp2
          go_returns
          exact ⟨rfl, hb⟩
end Go.Proofs.Ytlcgkdhcdldlfaa
