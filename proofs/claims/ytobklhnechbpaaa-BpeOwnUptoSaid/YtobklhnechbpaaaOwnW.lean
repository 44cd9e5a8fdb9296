import Derived.Test.YtobklhnechbpaaaOwnP
import Derived.Test.YtobklhnechbpaaaAnwW
import Derived.Test.YtobklhnechbpaaaSettleP
import Derived.StillTailTactics
import Derived.Deep.DeepCutAuto
import Derived.Deep.CutRange
namespace Go.Proofs.Ytobklhnechbpaaa
open Go.RowKit Go.Shelf
attribute [local go_sem] Oper.semAt_some
/-- range_its, the two variables in slots d and d2 -/
theorem range_its2 (d d2 : Nat) {P : Program} {n : Nat} {g : Operand} {ps : Array Tmp} {assign body : Code} {Q : Exit → Act → World → Prop} {a : Act} {w : World}
    {gf : Nat} {lb : Array Value} (hg : a.eval g = .func (.func gf) #[] lb) (eg : ∀ args w, (callFunc gf args).run P w = .ok (.enter gf args) w)
    {G : List Value → World → Prop} {X : GS → Nat → Array Value → World → Prop} {N : Nat} (hit : IterS P w.heap.size gf lb G X N (n - 1) w)
    (hps : ∀ S k args W, X S k args W → args.size = ps.size) (hX : ∀ S k args A A', X S k args A → Sm w.heap.size A A' → X S k args A')
    (I0 : World → Prop) (I : GS → Nat → World → Prop) (Ix : Code → GS → Nat → World → Prop) (hI0 : ∀ A A', I0 A → Sm w.heap.size A A' → I0 A') (hIs : ∀ A vs, G vs A → I0 A → w.heap.size + 2 ≤ A.heap.size → I (A.heap.size, vs) 0 A) (hI : ∀ S k A A', I S k A → Sm w.heap.size A A' → I S k A') (hIx : ∀ c S k A A', Ix c S k A → Sm w.heap.size A A' → Ix c S k A') (h0 : I0 w)
    (hassign : ∀ (l : Nat) (S : GS) (k : Nat) (args : Array Value) (W : World) (K : Act → World → Prop), X S k args W → K ({ tmps := (((ps.zip args).foldl (fun t (p, v) => t.setIfInBounds p v) a.tmps).setIfInBounds d (args.getD 0 undef)).setIfInBounds d2 (args.getD 1 undef), defers := [] } : Act) W →
      assign.wpIn (Fence.wide.inRound l) (n - 1 - 1) P (Exit.then K (fun _ _ _ => False)) { tmps := (ps.zip args).foldl (fun t (p, v) => t.setIfInBounds p v) a.tmps, defers := [] } W)
    (hbody : ∀ (l : Nat) (S : GS) (k : Nat) (args : Array Value) (W : World), I S k W → X S k args W → k < N → w.heap.size + 2 ≤ S.1 → S.1 ≤ W.heap.size → body.wpIn (Fence.wide.inRound l) (n - 1 - 1) P (leftByS w.heap.size S I Ix k W) ({ tmps := (((ps.zip args).foldl (fun t (p, v) => t.setIfInBounds p v) a.tmps).setIfInBounds d (args.getD 0 undef)).setIfInBounds d2 (args.getD 1 undef), defers := [] } : Act) W)
    (hdone : ∀ (D : Nat) (S : GS) (W : World), w.heap.size ≤ D → D < S.1 → I S N W → W.heap[D]? = some (.deferred (some [])) → Q .normal { a with defers := { target := .collected D, args := #[] } :: a.defers } W)
    (hstop : ∀ (D : Nat) (c : Code) (S : GS) (k : Nat) (W : World), w.heap.size ≤ D → D < S.1 → k ≤ N → Ix c S k W → W.heap[D]? = some (.deferred (some [])) → c.wpIn Fence.wide n P Q { a with defers := { target := .collected D, args := #[] } :: a.defers } W) :
    (Code.rangeFunc g ps assign body).wpIn Fence.wide n P Q a w :=
  range_its hg eg hit hps hX I0 I Ix hI0 hIs hI hIx h0 (fun args => ({ tmps := (((ps.zip args).foldl (fun t (p, v) => t.setIfInBounds p v) a.tmps).setIfInBounds d (args.getD 0 undef)).setIfInBounds d2 (args.getD 1 undef), defers := [] } : Act)) hassign hbody hdone hstop

/-- a part that does not panic: what a panic would owe is of no matter (a region that draws is walked so behind deferred marks) -/
theorem wp_norm {P : Program} {c : Code} {K : Act → World → Prop} {Q' : Exit → Act → World → Prop} {a : Act} {w : World} (h : c.wp P (Exit.then K (fun _ _ _ => False)) a w) : c.wp P (Exit.then K Q') a w :=
  wp_mono h (fun e _ _ h => by cases e <;> first | exact h | exact h.elim)
set_option maxRecDepth 100000 in
set_option maxHeartbeats 16000000 in
/-- BpeOwn -/
theorem ownW_any (A A' T : Option Addr) (n m t c c' ct : Nat) (bs : List Int) (ps : List (Int × Int)) (x : List Int) (w : World) (hv : Voc w A A' n m bs ps) (hwf : Wf bs ps) (hl : x.length = t) (htc : t ≤ ct) (ht : Rd w T (B8 x)) (hwx : ∀ b ∈ x, (Lit.int .u8 b).wf = true) (hs : t ≤ 8388600) :
    Calls Try.prog 10 #[.agg #[.slice A n c, .slice A' m c'], .slice T t ct] w fun e w' => e = .returned (.bool true) ∧ Below w.heap.size w w' := by
  have h0 : Below w.heap.size w ((w.alloc (.cells #[.slice A n c, .slice A' m c'] 25)).alloc (.cells #[.bool false] 4)) := by go_grown
  have q0 := (Blk.new w #[.slice A n c, .slice A' m c'] 25).alloc (.cells #[.bool false] 4)
  have q4 := Blk.new (w.alloc (.cells #[.slice A n c, .slice A' m c'] 25)) #[.bool false] 4
  simp only [World.size_alloc] at q4
  refine (callsIn_wide (n := 10)).1 ?_
  refine callsIn_of_wp_marks Try.func10 rfl trivial ?_ rfl
  simp only [Try.ntmps10, List.size_toArray, List.length_cons, List.length_nil, Nat.reduceAdd, Nat.reduceSub, Array.replicate_succ, Array.replicate_zero, List.push_toArray, List.append_toArray, List.nil_append, List.cons_append]
  refine wpIn_wide.2 ?_
  go_wp2_with fail
  generalize (w.alloc (.cells #[.slice A n c, .slice A' m c'] 25)).alloc (.cells #[.bool false] 4) = w1 at *
  refine (lives_any w1).mono ?_
  rintro e w2 ⟨rfl, hb⟩
  replace q0 := q0.below hb
  replace q4 := q4.below hb
  replace h0 := bthen h0 hb
  clear hb
  have x0 : w2.cell? ⟨w.heap.size, 0, none⟩ = some (.slice A n c) := q0.cell _
  have x1 : w2.cell? ⟨w.heap.size, 1, none⟩ = some (.slice A' m c') := q0.cell _
  go_wp2_with fail
  refine (copyVocab_any A A' n m c c' bs ps hv.hn hv.hm hv.b1 hv.b2 w2 (hv.below h0).hx (hv.below h0).hy).mono ?_
  rintro e w3 ⟨v, u, rfl, ov, ou, hb⟩
  obtain ⟨va, vc, rfl, _, _⟩ := own_rd ov
  obtain ⟨ua, uc, rfl, _, _⟩ := own_rd ou
  have hv3 := voc_of_rows hv ov ou
  replace q0 := q0.below hb
  replace q4 := q4.below hb
  replace h0 := bthen h0 hb
  clear hb x0 x1 ov ou
  go_wp2_with fail
  refine (copyBytes_any T t ct x hl (by omega) w3 (ht.below h0)).mono ?_
  rintro e w4 ⟨v, rfl, ov, hb⟩
  obtain ⟨ya, yc, rfl, _, _⟩ := own_rd ov
  have ry := own_rdA ov
  replace hv3 := hv3.below hb
  replace q0 := q0.below hb
  replace q4 := q4.below hb
  replace h0 := bthen h0 hb
  clear hb ov
  go_wp2_with fail
  refine (encode_any va ua ya n m t vc uc yc bs ps x w4 hv3 hwf hl ry hwx hs).mono ?_
  rintro e w5 ⟨v, rfl, oL, hb⟩
  obtain ⟨la, lc, rfl, hlc, _⟩ := own_rd oL
  have hH4 := h0.size
  replace q0 := q0.below hb
  replace q4 := q4.below hb
  replace h0 := bthen h0 hb
  replace oL := own_base oL hH4
  clear hb hv3 ry hH4
  have hle := encL_small bs ps x
  by_cases hE : errE bs ps x = 0
  · have RND : Hid (errD bs ps (encL bs ps x) = 0 ∧ bytD bs ps (encL bs ps x) = x) := by
      obtain ⟨⟨ls, hq⟩, hxa⟩ := errE_ok hE
      exact Lib.hid (round_ok hq hxa)
    have EE := Lib.hid hE
    rw [hE]
    obtain ⟨L, hL⟩ : ∃ L, L = encL bs ps x := ⟨_, rfl⟩
    rw [← hL] at RND oL hle hlc ⊢
    have HLE := Lib.hid hL
    obtain ⟨N, hN⟩ : ∃ N, N = L.length := ⟨_, rfl⟩
    rw [← hN] at oL hle hlc ⊢
    have HN := Lib.hid hN
    clear hE hL hN
    have x0 : w5.cell? ⟨w.heap.size, 0, none⟩ = some (.slice A n c) := q0.cell _
    have x1 : w5.cell? ⟨w.heap.size, 1, none⟩ = some (.slice A' m c') := q0.cell _
    go_wp2_with fail
    refine (copyVocab_any A A' n m c c' bs ps hv.hn hv.hm hv.b1 hv.b2 w5 (hv.below h0).hx (hv.below h0).hy).mono ?_
    rintro e w6 ⟨v, u, rfl, oC, oQ, hb⟩
    obtain ⟨C, dc, rfl, _, _⟩ := own_rd oC
    obtain ⟨C', dc', rfl, _, _⟩ := own_rd oQ
    have h5 := h0.size
    replace q0 := q0.below hb
    replace q4 := q4.below hb
    replace oL := own_below oL hb
    replace h0 := bthen h0 hb
    replace oC := own_base oC h5
    replace oQ := own_base oQ h5
    clear hb x0 x1 h5
    have hbk : Below w6.heap.size w6 (((w6.alloc (.cells #[.slice C n dc, .slice C' m dc'] 25)).alloc (.cells #[.slice none 0 0, .slice none 0 0, .slice none 0 0] 57)).alloc (.cells #[.pointer (some ⟨w6.heap.size + 1, 0, none⟩)] 54)) := by go_grown
    have q8 := ((Blk.new w6 #[.slice C n dc, .slice C' m dc'] 25).alloc (.cells #[.slice none 0 0, .slice none 0 0, .slice none 0 0] 57)).alloc (.cells #[.pointer (some ⟨w6.heap.size + 1, 0, none⟩)] 54)
    have q7 := (Blk.new (w6.alloc (.cells #[.slice C n dc, .slice C' m dc'] 25)) #[.slice none 0 0, .slice none 0 0, .slice none 0 0] 57).alloc (.cells #[.pointer (some ⟨w6.heap.size + 1, 0, none⟩)] 54)
    have q9 := Blk.new ((w6.alloc (.cells #[.slice C n dc, .slice C' m dc'] 25)).alloc (.cells #[.slice none 0 0, .slice none 0 0, .slice none 0 0] 57)) #[.pointer (some ⟨w6.heap.size + 1, 0, none⟩)] 54
    simp only [World.size_alloc] at q7 q9
    have hX6 : w.heap.size + 1 < w6.heap.size := q4.lt
    have BF : Bf w (((w6.alloc (.cells #[.slice C n dc, .slice C' m dc'] 25)).alloc (.cells #[.slice none 0 0, .slice none 0 0, .slice none 0 0] 57)).alloc (.cells #[.pointer (some ⟨w6.heap.size + 1, 0, none⟩)] 54)) (w6.heap.size + 1) w.heap.size w6.heap.size A A' C C' la n m c c' dc dc' N lc bs ps L :=
      ⟨Nat.le_refl _, by omega, by omega, q0.below hbk, q4.below hbk, q8, own_below oC hbk, own_below oQ hbk, own_below oL hbk, fun z hz => by have := (own_lt oC z hz).2; omega, fun z hz => by have := (own_lt oQ z hz).2; omega, fun z hz => by have := (own_lt oL z hz).2; omega, bthen h0 hbk, by simp⟩
    have BO : Bo w (((w6.alloc (.cells #[.slice C n dc, .slice C' m dc'] 25)).alloc (.cells #[.slice none 0 0, .slice none 0 0, .slice none 0 0] 57)).alloc (.cells #[.pointer (some ⟨w6.heap.size + 1, 0, none⟩)] 54)) (w6.heap.size + 1) (w6.heap.size + 1) w.heap.size w6.heap.size A A' C C' la n m c c' dc dc' N lc bs ps L (.slice none 0 0) (.slice none 0 0) 0 [] [] [] := ⟨BF, q9, Bok.nil q7 (Nat.le_refl _)⟩
    have y0 := BF.c0
    have y1 := BF.c1
    clear q0 q4 q7 q8 q9 oL oC oQ hbk h0 BF hX6
    go_wp2_with fail
    generalize (((w6.alloc (.cells #[.slice C n dc, .slice C' m dc'] 25)).alloc (.cells #[.slice none 0 0, .slice none 0 0, .slice none 0 0] 57)).alloc (.cells #[.pointer (some ⟨w6.heap.size + 1, 0, none⟩)] 54)) = w7 at *
    generalize hq' : w6.heap.size + 1 = q at *
    generalize w6.heap.size = Y at *
    refine (all_any _ w7 _ _ rfl).mono ?_
    rintro e w8 ⟨rfl, qM, hb⟩
    have hq7 := BO.q9.lt
    replace BO := BO.below hb
    have hMlt := qM.lt
    clear hb y0 y1
    have eF := eF33
    go_wp2_with fail
    clear eF
    have hqB : q < w8.heap.size := by omega
    have hwB : w.heap.size ≤ w8.heap.size := BO.f.hb.size
    refine (wpIn_wide (n := 10)).1 ?_
    refine range_its2 11 12 (gf := 41) (lb := #[.pointer (some ⟨w7.heap.size, 0, none⟩)]) (N := (toks bs ps).length) (G := Unlike) (X := GivesS w8.heap.size (toks bs ps)) rfl (enters_of Try.func41 (by kernel_rfl) rfl) (all_iters C C' n m dc dc' bs ps w8.heap.size w7.heap.size 9 w8 (BO.f.vc hv) hwf qM (by decide))
      ?hps ?X (fun V => Bo w V q q w.heap.size Y A A' C C' la n m c c' dc dc' N lc bs ps L (.slice none 0 0) (.slice none 0 0) 0 [] [] []) (fun S j V => (∃ Z, RgE w q q w.heap.size Y A A' C C' la n m c c' dc dc' N lc bs ps L S j (4 * j) Z V) ∧ Unlike S.2 V) (fun _ _ _ _ => False) ?I0 ?Is ?I ?Ix BO ?assign ?body ?done ?stop
    case hps =>
      rintro S j args V ⟨v, rfl, _⟩
      rfl
    case X =>
      rintro S j args V V' ⟨v, rfl, hg, hv, hq⟩ hs
      exact ⟨v, rfl, hg, own_sm hv hs, hq⟩
    case I0 =>
      rintro V V' h hs
      exact h.sm hwB hs
    case Is =>
      rintro V vs hun bo hsz
      exact ⟨⟨V.heap.size, _, _, _, _, _, bo, fun z hz => by simp [Value.ownBlock] at hz, fun z hz => by simp [Value.ownBlock] at hz, fun i u z hu => by simp at hu, fun i u z hu => by simp at hu, Nat.le_refl _⟩, hun⟩
    case I =>
      rintro S j V V' ⟨⟨Z, R⟩, hun⟩ hs
      exact ⟨⟨Z, R.sm hwB hs⟩, hun⟩
    case Ix =>
      rintro cd S j V V' h _
      exact h
    case assign =>
      rintro r S j args V K ⟨v, rfl, _, ov, _⟩ hK
      obtain ⟨ga, gc, rfl, _, _⟩ := own_rd ov
      simp at hK
      gi_wp2
      exact hK
    case stop =>
      rintro D cd S j V _ _ _ h _
      exact h.elim
    case body =>
        rintro r S j args V ⟨⟨Z, R0⟩, hun⟩ ⟨v, rfl, hg, ov, hvq⟩ hj hS hSV
        obtain ⟨ga, gc, rfl, _, _⟩ := own_rd ov
        obtain ⟨er, eb⟩ := errT_toks bs ps j hj
        have hsm := toks_small bs ps j
        have hl64 := toks_len bs ps
        have hb0 := bytT_small bs ps 0
        have R := R0.top
        have hqV := R.f.hH
        clear R0
        have y0 := R.f.c0
        have y1 := R.f.c1
        simp
        gi_wp2_with fail
        refine ⟨trivial, ?_⟩
        refine (CallsIn.inRound r (callsIn_wide.2 (bytes_any C C' n m dc dc' bs ps (j : Int) V (R.f.vc hv) hwf))).mono ?_
        rintro e V2 ⟨v13, rfl, o13, hb⟩
        rw [er]
        rw [eb] at o13
        obtain ⟨a13, c13, rfl, _, _⟩ := own_rd o13
        have l13 := own_lt o13
        have p1 := hb.size
        replace R := R.below hb
        replace ov := own_below ov hb
        have U := UpS.of_below (B := w8.heap.size) (S := S.1) hb
        clear hb y0 y1
        have y0 := R.f.c0
        have y1 := R.f.c1
        gi_wp2_with fail
        refine ⟨trivial, ?_⟩
        refine (CallsIn.inRound r (callsIn_wide.2 (bytes_any C C' n m dc dc' bs ps (j : Int) V2 (R.f.vc hv) hwf))).mono ?_
        rintro e V3 ⟨v15, rfl, o15, hb⟩
        rw [er]
        rw [eb] at o15
        obtain ⟨a15, c15, rfl, _, _⟩ := own_rd o15
        have l15 := own_lt o15
        have p2 := hb.size
        replace R := R.below hb
        replace ov := own_below ov hb
        replace o13 := own_below o13 hb
        replace U := U.trans (UpS.of_below hb)
        clear hb y0 y1 er eb
        have y0 := R.f.c0
        have y1 := R.f.c1
        gi_wp2_with fail
        refine ⟨trivial, ?_⟩
        refine (CallsIn.inRound r (callsIn_wide.2 (bytes_any C C' n m dc dc' bs ps 0 V3 (R.f.vc hv) hwf))).mono ?_
        rintro e V4 ⟨v17, rfl, o17, hb⟩
        obtain ⟨a17, c17, rfl, _, _⟩ := own_rd o17
        have l17 := own_lt o17
        have p3 := hb.size
        replace R := R.below hb
        replace ov := own_below ov hb
        replace o13 := own_below o13 hb
        replace o15 := own_below o15 hb
        replace U := U.trans (UpS.of_below hb)
        clear hb y0 y1
        generalize bytT bs ps 0 = b0 at *
        generalize tok (toks bs ps) j = tk at *
        have p0 := R.p
        gi_wp2_with fail
        refine ⟨trivial, ?_⟩
        refine (CallsIn.inRound r (callsIn_wide.2 (noteR_any (B := w8.heap.size) (j' := j + 1) (Z' := V.heap.size) R hun hqB rfl (own_base ov (by omega)) (by omega) (by omega) (by omega) (by omega) (fun z hz => by have := hvq z hz; omega) (.inr ⟨by omega, hg, hvq⟩)))).mono ?_
        rintro e V5 ⟨rfl, R', kb, U'⟩
        replace R := R'
        replace U := U.trans U'
        have s1 := kb.1
        replace o13 := kb.2 _ _ _ _ o13
        replace o15 := kb.2 _ _ _ _ o15
        replace o17 := kb.2 _ _ _ _ o17
        clear kb U' R' p0
        have p0 := R.p
        gi_wp2_with fail
        refine ⟨trivial, ?_⟩
        refine (CallsIn.inRound r (callsIn_wide.2 (noteR_any (B := w8.heap.size) (j' := j + 1) (Z' := V2.heap.size) R hun hqB rfl (own_base o13 (by omega)) (by omega) (by omega) (by omega) (by omega) (fun z hz => (l13 z hz).2) (.inl fun z hz => by have := l13 z hz; exact ⟨this.1, by omega⟩)))).mono ?_
        rintro e V6 ⟨rfl, R', kb, U'⟩
        replace R := R'
        replace U := U.trans U'
        have s2 := kb.1
        replace o15 := kb.2 _ _ _ _ o15
        replace o17 := kb.2 _ _ _ _ o17
        clear kb U' R' p0
        have p0 := R.p
        gi_wp2_with fail
        refine ⟨trivial, ?_⟩
        refine (CallsIn.inRound r (callsIn_wide.2 (noteR_any (B := w8.heap.size) (j' := j + 1) (Z' := V3.heap.size) R hun hqB rfl (own_base o15 (by omega)) (by omega) (by omega) (by omega) (by omega) (fun z hz => (l15 z hz).2) (.inl fun z hz => by have := l15 z hz; exact ⟨this.1, by omega⟩)))).mono ?_
        rintro e V7 ⟨rfl, R', kb, U'⟩
        replace R := R'
        replace U := U.trans U'
        have s3 := kb.1
        replace o17 := kb.2 _ _ _ _ o17
        clear kb U' R' p0
        have p0 := R.p
        gi_wp2_with fail
        refine ⟨trivial, ?_⟩
        refine (CallsIn.inRound r (callsIn_wide.2 (noteR_any (B := w8.heap.size) (j' := j + 1) (Z' := V4.heap.size) R hun hqB rfl (own_base o17 (by omega)) (by omega) (by omega) (by omega) (by omega) (fun z hz => (l17 z hz).2) (.inl fun z hz => by have := l17 z hz; exact ⟨this.1, by omega⟩)))).mono ?_
        rintro e V8 ⟨rfl, R', kb, U'⟩
        replace R := R'
        replace U := U.trans U'
        have s4 := kb.1
        gi_wp2
        exact ⟨U, ⟨_, R⟩, hun⟩
    case done =>
      rintro D S V hD hDS ⟨⟨Z, R⟩, hun⟩ hDd
      have BE := R.boE hDd
      have hl64 := toks_len bs ps
      clear R hun hDd hDS
      have hNL : L.length = N := HN.out.symm
      have hK : 4 * (toks bs ps).length ≤ 256 := by omega
      generalize 4 * (toks bs ps).length = K at *
      clear hl64
      have y0 := BE.f.c0
      have y1 := BE.f.c1
      go_wp2_with fail
      refine (decode_any C C' la n m N dc dc' lc bs ps L V (BE.f.vc hv) hwf hNL BE.f.rL (by omega)).mono ?_
      rintro e V1 ⟨v, rfl, o19, hb⟩
      rw [RND.out.1]
      rw [RND.out.2, hl] at o19
      obtain ⟨a19, c19, rfl, _, _⟩ := own_rd o19
      have p0 := (BE.below hb).p
      clear y0 y1
      go_wp2_with fail
      refine (noteB_any BE hb hl o19 (by omega) (by omega)).mono ?_
      rintro e V2 ⟨rfl, BE2⟩
      clear BE hb o19 p0
      have y0 := BE2.f.c0
      have y1 := BE2.f.c1
      go_wp2_with fail
      refine (decode_any C C' la n m N dc dc' lc bs ps L V2 (BE2.f.vc hv) hwf hNL BE2.f.rL (by omega)).mono ?_
      rintro e V3 ⟨v, rfl, o21, hb⟩
      rw [RND.out.1]
      rw [RND.out.2, hl] at o21
      obtain ⟨a21, c21, rfl, _, _⟩ := own_rd o21
      have p0 := (BE2.below hb).p
      clear y0 y1
      go_wp2_with fail
      refine (noteB_any BE2 hb hl o21 (by omega) (by omega)).mono ?_
      rintro e V4 ⟨rfl, BE4⟩
      clear BE2 hb o21 p0
      have y0 := BE4.f.c0
      have y1 := BE4.f.c1
      go_wp2_with fail
      obtain ⟨N2, hN2⟩ : ∃ N2, N2 = N / 2 := ⟨_, rfl⟩
      have htd : (N : Int).tdiv 2 = (N2 : Int) := by rw [Int.tdiv_eq_ediv_of_nonneg (by omega)]; omega
      have hk0 : (0 : Int) ≤ (N2 : Int) := by omega
      have hkc : (N2 : Int) ≤ (lc : Int) := by omega
      have hkcn : N2 ≤ lc := by omega
      have hkw : IntKind.i64.wrap (N2 : Int) = (N2 : Int) := IntWalk.i64_in _ (by omega)
      have hN2' : N2 ≤ N := by omega
      clear hN2
      have DC := Lib.hid (fun W' (hb : Below V4.heap.size V4 W') => decode_any C C' la n m N2 dc dc' lc bs ps (L.take N2) W' ((BE4.below hb).f.vc hv) hwf (by rw [List.length_take]; omega) (Rd.pre (ys := I64 (L.drop N2)) (by rw [show I64 (L.take N2) ++ I64 (L.drop N2) = I64 L by simp only [I64]; rw [← List.map_append, List.take_append_drop]]; exact (BE4.below hb).f.rL)) (by omega))
      have B4 := Lib.hid BE4
      clear BE4
      refine wp_norm ?_
      go_region_law ((try go_simp); go_at_call 22; refine (DC.out _ (Below.drew (Below.refl _ _))).mono ?_; rintro e W5 ⟨v, rfl, o23, hb⟩)
      have BE4 := B4.out
      have HB4 := bthen (Below.drew (Below.refl V4.heap.size V4)) hb
      obtain ⟨a23, c23, rfl, _, _⟩ := own_rd o23
      have p0 := (BE4.below HB4).p
      have hD3 := bytD_small bs ps (L.take N2)
      have hD4 : (L.take N2).length ≤ N := by rw [List.length_take]; omega
      clear y0 y1 DC B4 htd hk0 hkc hkcn hkw hb
      go_wp2_with fail
      refine (noteB_any BE4 HB4 rfl o23 (by omega) (by omega)).mono ?_
      rintro e V6 ⟨rfl, BE6⟩
      clear BE4 HB4 o23 p0 hD3 hD4
      have htV6 := ht.below BE6.f.hb
      go_wp2_with fail
      refine (copyBytes_any T t ct x hl (by omega) V6 htV6).mono ?_
      rintro e V7 ⟨v, rfl, oE, H6⟩
      obtain ⟨ea, ec, rfl, _, _⟩ := own_rd oE
      have lE : ∀ z, (Value.slice ea t ec).ownBlock = some z → V6.heap.size ≤ z ∧ z < V7.heap.size := own_lt oE
      have z67 := H6.size
      have B6 := Lib.hid BE6
      clear BE6 htV6
      have y0 := (B6.out.below H6).f.c0
      have y1 := (B6.out.below H6).f.c1
      go_wp2_with fail
      refine (encode_any C C' ea n m t dc dc' ec bs ps x V7 ((B6.out.below H6).f.vc hv) hwf hl (own_rdA oE) hwx hs).mono ?_
      rintro e V8 ⟨v, rfl, oM, hb⟩
      rw [← HLE.out, ← HN.out] at oM
      rw [EE.out]
      obtain ⟨ma, mc, rfl, _, _⟩ := own_rd oM
      have lM : ∀ z, (Value.slice ma N mc).ownBlock = some z → V7.heap.size ≤ z ∧ z < V8.heap.size := own_lt oM
      have z78 := hb.size
      replace H6 := bthen H6 hb
      replace oE := own_below oE hb
      clear y0 y1 hb
      have y0 := (B6.out.below H6).f.c0
      have y1 := (B6.out.below H6).f.c1
      have VC := Lib.hid (fun W' (hb : Below V8.heap.size V8 W') => (B6.out.below (bthen H6 hb)).f.vc hv)
      have YC := Lib.hid (fun W' (hb : Below V8.heap.size V8 W') => (B6.out.below (bthen H6 hb)).f.q8)
      have TR := Lib.hid (fun W' (hb : Below V8.heap.size V8 W') => ht.below (B6.out.below (bthen H6 hb)).f.hb)
      go_upto_region 30 with fail
      go_cut [28, 29] from 144 to 150 (fun s28 s29 wx => ∃ na nc, s28 = .slice na N nc ∧ s29 = .int .i64 0 ∧ wx.ownsRow V8.heap.size 3 1 (.slice na N nc) N (I64 L) ∧ Below V8.heap.size V8 wx)
      case first =>
        refine wp_norm ?_
        go_region_law (first
          | ((try go_simp); go_at_call 25; refine (copyBytes_any T t ct x hl (by omega) _ (TR.out _ (Below.drew (Below.refl _ _)))).mono ?_; rintro e wq ⟨u, rfl, ou, hbq⟩; obtain ⟨ua2, uc2, rfl, _, _⟩ := own_rd ou; have HQ := bthen (Below.drew (Below.refl V8.heap.size V8)) hbq; have z0 : wq.cell? ⟨Y, 0, none⟩ = some (.slice C n dc) := (YC.out wq HQ).cell _; have z1 : wq.cell? ⟨Y, 1, none⟩ = some (.slice C' m dc') := (YC.out wq HQ).cell _)
          | ((try go_simp); go_at_call 26; refine (encode_any C C' _ n m t dc dc' _ bs ps x wq (VC.out wq HQ) hwf hl (own_rdA ou) hwx hs).mono ?_; rintro e wr ⟨v, rfl, oN, hbr⟩; rw [← HLE.out, ← HN.out] at oN; rw [EE.out]; obtain ⟨na, nc, rfl, _, _⟩ := own_rd oN))
        all_goals
          go_wp2_with fail
          go_meet
          exact ⟨na, nc, rfl, rfl, own_base oN HQ.size, bthen HQ hbr⟩
      case rest =>
      obtain ⟨na, nc, rfl, rfl, oN, hb⟩ := hcut
      obtain ⟨V9, rfl⟩ : ∃ u : World, u = wc := ⟨_, rfl⟩
      have lN : ∀ z, (Value.slice na N nc).ownBlock = some z → V8.heap.size ≤ z ∧ z < V9.heap.size := own_lt oN
      have z89 := hb.size
      replace H6 := bthen H6 hb
      replace oE := own_below oE hb
      replace oM := own_below oM hb
      clear hb VC YC TR y0 y1
      obtain ⟨t2, ht2⟩ : ∃ t2, t2 = t / 2 := ⟨_, rfl⟩
      have htd : (t : Int).tdiv 2 = (t2 : Int) := by rw [Int.tdiv_eq_ediv_of_nonneg (by omega)]; omega
      have hk0 : (0 : Int) ≤ (t2 : Int) := by omega
      have hkc : (t2 : Int) ≤ (ct : Int) := by omega
      have hkcn : t2 ≤ ct := by omega
      have hkw : IntKind.i64.wrap (t2 : Int) = (t2 : Int) := IntWalk.i64_in _ (by omega)
      have ht2' : t2 ≤ t := by omega
      obtain ⟨x2, hx2⟩ : ∃ x2, x2 = x.take t2 := ⟨_, rfl⟩
      have hl2 : x2.length = t2 := by rw [hx2, List.length_take]; omega
      have hwx2 : ∀ b ∈ x2, (Lit.int .u8 b).wf = true := fun b hb => hwx b (List.mem_of_mem_take (hx2 ▸ hb))
      have htx2 : Rd w T (B8 x2) := by
        have h1 : B8 x = B8 x2 ++ B8 (x.drop t2) := by rw [← B8_append, hx2, List.take_append_drop]
        rw [h1] at ht
        exact ht.pre
      have hM2 := encL_small bs ps x2
      clear hx2 ht2
      have y0 := (B6.out.below H6).f.c0
      have y1 := (B6.out.below H6).f.c1
      have VC := Lib.hid (fun W' (hb : Below V9.heap.size V9 W') => (B6.out.below (bthen H6 hb)).f.vc hv)
      have YC := Lib.hid (fun W' (hb : Below V9.heap.size V9 W') => (B6.out.below (bthen H6 hb)).f.q8)
      have TR := Lib.hid (fun W' (hb : Below V9.heap.size V9 W') => htx2.below (B6.out.below (bthen H6 hb)).f.hb)
      go_upto_region 31 with fail
      go_cut [30, 31] from 151 to 161 (fun s30 s31 wx => ∃ na nc, s30 = .slice na (encL bs ps x2).length nc ∧ s31 = .int .i64 (errE bs ps x2) ∧ wx.ownsRow V9.heap.size 3 1 (.slice na (encL bs ps x2).length nc) (encL bs ps x2).length (I64 (encL bs ps x2)) ∧ Below V9.heap.size V9 wx)
      case first =>
        refine wp_norm ?_
        go_region_law (first
          | ((try go_simp); go_at_call 25; refine (copyBytes_any T t2 ct x2 hl2 (by omega) _ (TR.out _ (Below.drew (Below.refl _ _)))).mono ?_; rintro e wq ⟨u, rfl, ou, hbq⟩; obtain ⟨ua2, uc2, rfl, _, _⟩ := own_rd ou; have HQ := bthen (Below.drew (Below.refl V9.heap.size V9)) hbq; have z0 : wq.cell? ⟨Y, 0, none⟩ = some (.slice C n dc) := (YC.out wq HQ).cell _; have z1 : wq.cell? ⟨Y, 1, none⟩ = some (.slice C' m dc') := (YC.out wq HQ).cell _)
          | ((try go_simp); go_at_call 26; refine (encode_any C C' _ n m t2 dc dc' _ bs ps x2 wq (VC.out wq HQ) hwf hl2 (own_rdA ou) hwx2 (by omega)).mono ?_; rintro e wr ⟨v, rfl, oN, hbr⟩; obtain ⟨na, nc, rfl, _, _⟩ := own_rd oN))
        all_goals
          go_wp2_with fail
          go_meet
          exact ⟨na, nc, rfl, rfl, own_base oN HQ.size, bthen HQ hbr⟩
      case rest =>
      obtain ⟨fa, fc, rfl, rfl, oF, hb⟩ := hcut
      obtain ⟨V10, rfl⟩ : ∃ u : World, u = wc := ⟨_, rfl⟩
      have lF : ∀ z, (Value.slice fa (encL bs ps x2).length fc).ownBlock = some z → V9.heap.size ≤ z ∧ z < V10.heap.size := own_lt oF
      have z90 := hb.size
      replace H6 := bthen H6 hb
      replace oE := own_below oE hb
      replace oM := own_below oM hb
      replace oN := own_below oN hb
      clear hb VC YC TR y0 y1
      have y0 := (B6.out.below H6).f.v0
      have y1 := (B6.out.below H6).f.v1
      have VV := Lib.hid (fun W' (hb : Below V10.heap.size V10 W') => hv.below (B6.out.below (bthen H6 hb)).f.hb)
      have TR := Lib.hid (fun W' (hb : Below V10.heap.size V10 W') => htx2.below (B6.out.below (bthen H6 hb)).f.hb)
      go_upto_region 32 with fail
      go_cut [32, 33] from 162 to 171 (fun s32 s33 wx => ∃ ga gc, s32 = .slice ga (encL bs ps x2).length gc ∧ s33 = .int .i64 (errE bs ps x2) ∧ Rp (fun b => V10.heap.size ≤ b) wx ga (I64 (encL bs ps x2)) ∧ Below V10.heap.size V10 wx)
      case first =>
        refine wp_norm ?_
        go_region_law ((try go_simp); go_at_call 27; refine (refEncode_rp A A' T n m t2 c c' ct bs ps x2 _ (VV.out _ (Below.drew (Below.refl _ _))) hl2 (TR.out _ (Below.drew (Below.refl _ _))) (by omega)).mono ?_; rintro e wr ⟨ga, gc, rfl, rg, hbr⟩)
        all_goals
          go_wp2_with fail
          go_meet
          exact ⟨ga, gc, rfl, rfl, rg, bthen (Below.drew (Below.refl V10.heap.size V10)) hbr⟩
      case rest =>
      obtain ⟨ga, gc, rfl, rfl, rG, hb⟩ := hcut
      obtain ⟨V11, rfl⟩ : ∃ u : World, u = wc := ⟨_, rfl⟩
      have zz : V7.heap.size ≤ V11.heap.size := by have := hb.size; omega
      replace H6 := bthen H6 hb
      replace oE := own_below oE hb
      replace oM := own_below oM hb
      replace oN := own_below oN hb
      replace oF := own_below oF hb
      clear hb VV TR y0 y1 htd hk0 hkc hkcn hkw htx2
      go_wp2_with fail
      refine (eqInts_any ma la N N mc lc L L hNL hNL (by omega) V11 (own_rdA oM) (B6.out.below H6).f.rL).mono ?_
      rintro e V12 ⟨rfl, hb⟩
      replace zz := Nat.le_trans zz hb.size
      rw [decide_eq_true rfl]
      replace H6 := bthen H6 hb
      replace oE := own_below oE hb
      replace oM := own_below oM hb
      replace oN := own_below oN hb
      replace oF := own_below oF hb
      replace rG := rG.below hb
      clear hb
      go_wp2_with fail
      refine (eqInts_any na la N N nc lc L L hNL hNL (by omega) V12 (own_rdA oN) (B6.out.below H6).f.rL).mono ?_
      rintro e V13 ⟨rfl, hb⟩
      replace zz := Nat.le_trans zz hb.size
      rw [decide_eq_true rfl]
      replace H6 := bthen H6 hb
      replace oE := own_below oE hb
      replace oM := own_below oM hb
      replace oN := own_below oN hb
      replace oF := own_below oF hb
      replace rG := rG.below hb
      clear hb
      go_wp2_with fail
      refine (eqInts_any fa ga _ _ fc gc (encL bs ps x2) (encL bs ps x2) rfl rfl (by omega) V13 (own_rdA oF) rG.rd).mono ?_
      rintro e V14 ⟨rfl, hb⟩
      replace zz := Nat.le_trans zz hb.size
      rw [decide_eq_true rfl]
      replace H6 := bthen H6 hb
      replace oE := own_below oE hb
      replace oM := own_below oM hb
      replace oN := own_below oN hb
      replace oF := own_below oF hb
      replace rG := rG.below hb
      clear hb
      go_upto_if 190 with fail
      go_cut [34, 35, 36, 37, 38] from 188 to 227 (fun _ _ _ _ _ wx => Below V6.heap.size V6 wx ∧ Kp (fun z => V6.heap.size ≤ z ∧ z < V7.heap.size) V14 wx)
      case first =>
        by_cases ht0 : 0 < t
        · have htp : (0 : Int) < (t : Int) := by omega
          obtain ⟨g, rfl⟩ := own_addr oE ht0
          have y0 := (B6.out.below H6).f.c0
          have y1 := (B6.out.below H6).f.c1
          go_wp2_with fail
          refine (encode_any C C' (some ⟨g, 0, none⟩) n m t dc dc' ec bs ps x V14 ((B6.out.below H6).f.vc hv) hwf hl (own_rdA oE) hwx hs).mono ?_
          rintro e Va ⟨v, rfl, _, hb⟩
          have H7 := bthen H6 hb
          have K7 : Kp (fun z => V6.heap.size ≤ z ∧ z < V7.heap.size) V14 Va := .of_below hb
          have oE2 := own_below oE hb
          clear hb y0 y1
          obtain ⟨tb, tof, rfl, yT⟩ := (ht.below (B6.out.below H7).f.hb).b8 (t - 1) (by omega)
          have wL := hwx _ (List.getElem_mem (show t - 1 < x.length by omega))
          generalize x[t - 1]'(by omega) = last at *
          obtain ⟨t1, ht1⟩ : ∃ t1 : Nat, (t : Int) - 1 = (t1 : Int) := ⟨t - 1, by omega⟩
          have et1 : t - 1 = t1 := by omega
          rw [et1] at yT
          have hw1 : IntKind.i64.wrap ((t : Int) - 1) = (t1 : Int) := by rw [IntWalk.i64_in _ (by omega)]; exact ht1
          have ht1l : (t1 : Int) < (t : Int) := by omega
          have eT := addr_add tb tof t1
          have eg : (⟨g, 0, none⟩ : Addr).add 0 = ⟨g, 0, none⟩ := by simpa using addr_add g 0 0
          have yg : Va.cell? ⟨g, 0, none⟩ = some (.int .u8 (x[0]'(by omega))) := by
            obtain ⟨g2, o2, he, hy⟩ := (own_rdA oE2).b8 0 (by omega)
            injection he with he
            injection he with e1 e2
            subst e1 e2
            rwa [Nat.zero_add] at hy
          generalize x[0]'(by omega) = x00 at *
          have fg := World.ownsRow.frozenAt oE2 0
          have st := (World.ownsRow.stored oE2 0 (.int .u8 last)).1
          rw [← B8_set] at st
          have hg := lE g rfl
          have H8 := H7.setCell (p := ⟨g, 0, none⟩) hg.1 (.int .u8 last)
          have K8 := K7.set g 0 (.int .u8 last) (fun _ => hg)
          have hlx : (x.set 0 last).length = t := by simpa using hl
          have hwx' : ∀ b ∈ x.set 0 last, (Lit.int .u8 b).wf = true := fun b hb => by
            rcases List.mem_or_eq_of_mem_set hb with h1 | rfl
            · exact hwx b h1
            · exact wL
          generalize x.set 0 last = x3 at *
          have P8 := Lib.hid (And.intro st (And.intro H8 K8))
          have HT1 := Lib.hid ht1
          clear H7 K7 oE2 wL ht1 et1 st H8 K8
          go_wp2_with fail
          generalize Va.setCell ⟨g, 0, none⟩ (.int .u8 last) = Vb at *
          obtain ⟨oE2, H8, K8⟩ := P8.out
          clear yT yg fg eT eg hw1 ht1l P8
          refine (copyBytes_any (some ⟨g, 0, none⟩) t ec x3 hlx (by omega) Vb (own_rdA oE2)).mono ?_
          rintro e Vc ⟨v, rfl, o34, hb⟩
          obtain ⟨oa, oc, rfl, _, _⟩ := own_rd o34
          have r34 := own_rdA o34
          replace H8 := H8.trans (hb.mono H8.size)
          replace K8 := K8.below hb
          replace oE2 := own_below oE2 hb
          clear hb o34
          have y0 := (B6.out.below H8).f.c0
          have y1 := (B6.out.below H8).f.c1
          go_wp2_with fail
          refine (encode_any C C' (some ⟨g, 0, none⟩) n m t dc dc' ec bs ps x3 Vc ((B6.out.below H8).f.vc hv) hwf hlx (own_rdA oE2) hwx' hs).mono ?_
          rintro e Vd ⟨v, rfl, o35, hb⟩
          obtain ⟨pa, pc, rfl, _, _⟩ := own_rd o35
          have r35 := own_rdA o35
          replace H8 := H8.trans (hb.mono H8.size)
          replace K8 := K8.below hb
          replace r34 := r34.below hb
          clear hb o35 y0 y1 oE2
          have y0 := (B6.out.below H8).f.v0
          have y1 := (B6.out.below H8).f.v1
          go_wp2_with fail
          refine (refEncode_any A A' oa n m t c c' oc bs ps x3 Vd (hv.below (B6.out.below H8).f.hb) hlx r34 hs).mono ?_
          rintro e Ve ⟨ra, rc, rfl, r37, hb⟩
          replace H8 := H8.trans (hb.mono H8.size)
          replace K8 := K8.below hb
          replace r35 := r35.below hb
          clear hb y0 y1 r34
          have hM3 := encL_small bs ps x3
          go_wp2_with fail
          refine (eqInts_any pa ra _ _ pc rc (encL bs ps x3) (encL bs ps x3) rfl rfl (by omega) Ve r35 r37).mono ?_
          rintro e Vf ⟨rfl, hb⟩
          rw [decide_eq_true rfl]
          replace H8 := H8.trans (hb.mono H8.size)
          replace K8 := K8.below hb
          go_wp2_with fail
          go_meet
          exact ⟨H8, K8⟩
        · have htp : ¬ (0 : Int) < (t : Int) := by omega
          go_wp2_with fail
          go_meet
          exact ⟨H6, Kp.refl _ _⟩
      case rest =>
      obtain ⟨H7, hk⟩ := hcut
      obtain ⟨V15, rfl⟩ : ∃ u : World, u = wc := ⟨_, rfl⟩
      replace zz := Nat.le_trans zz hk.size
      replace oM := ownKp oM hk (fun z e h => by have := lM z e; omega)
      replace oN := ownKp oN hk (fun z e h => by have := lN z e; omega)
      replace oF := ownKp oF hk (fun z e h => by have := lF z e; omega)
      replace rG := rG.kp hk (fun b _ h1 h => by omega)
      clear hk H6 oE lE
      have p0 := (B6.out.below H7).p
      go_wp2_with fail
      refine (stillB_any (B6.out.below H7) (by omega)).mono ?_
      rintro e V16 ⟨rfl, hb⟩
      replace zz := Nat.le_trans zz hb.size
      replace H7 := bthen H7 hb
      replace oM := own_below oM hb
      replace oN := own_below oN hb
      replace oF := own_below oF hb
      replace rG := rG.below hb
      clear hb p0
      have p0 := (B6.out.below H7).p
      go_wp2_with fail
      refine (apartB_any B6.out H7 (by omega)).mono ?_
      rintro e V17 ⟨rfl, hk, hDd⟩
      replace zz := Nat.le_trans zz hk.size
      have hDl : D < V6.heap.size := (Array.getElem?_eq_some_iff.1 B6.out.dd).1
      have F := (B6.out.below H7).f.kp hk (fun z hz h => by omega)
      have hH6 := B6.out.f.hH
      replace oM := ownKp oM hk (fun z e h => by have := lM z e; omega)
      replace oN := ownKp oN hk (fun z e h => by have := lN z e; omega)
      replace oF := ownKp oF hk (fun z e h => by have := lF z e; omega)
      replace rG := rG.kp hk (fun b _ h1 h => by omega)
      clear hk p0 H7 B6
      have y0 := F.v0
      have y1 := F.v1
      have y2 := F.c0
      have y3 := F.c1
      go_wp2_with fail
      refine (eqVocab_any C C' A A' n m n m dc dc' c c' bs bs ps ps V17 (F.vc hv) (hv.below F.hb)).mono ?_
      rintro e V18 ⟨rfl, hb⟩
      replace zz := Nat.le_trans zz hb.size
      rw [decide_eq_true (show bs = bs ∧ ps = ps from ⟨rfl, rfl⟩)]
      replace hDd := def_below hDd hb
      replace F := F.below hb
      replace oM := own_below oM hb
      replace oN := own_below oN hb
      replace oF := own_below oF hb
      replace rG := rG.below hb
      clear hb y0 y1 y2 y3
      go_wp2_with fail
      go_loopw [40] (fun iv wr => ∃ (k : Nat) (l' : List Int), k ≤ N ∧ iv = .int .i64 (k : Int) ∧ l'.length = N ∧ wr.ownsRow V7.heap.size 3 1 (.slice ma N mc) N (I64 l') ∧ Kp (fun z => V7.heap.size ≤ z ∧ z < V8.heap.size) V18 wr) (fun iv _ => N - (intOf iv).toNat)
      case atStart => exact ⟨0, L, by omega, rfl, hNL, oM, Kp.refl _ _⟩
      case round =>
        clear oM
        obtain ⟨k, l', hk, rfl, hl', oM, hk2⟩ := hrel
        by_cases hlt : k < N
        · obtain ⟨g, rfl⟩ := own_addr oM (by omega)
          have hki : (k : Int) < (N : Int) := by omega
          have hg := lM g rfl
          have yg : wr.cell? ⟨g, k, none⟩ = some (.int .i64 (l'[k]'(by omega))) := by
            obtain ⟨g2, o2, he, hy⟩ := (own_rdA oM).i64 k (by omega)
            injection he with he
            injection he with e1 e2
            subst e1 e2
            rwa [Nat.zero_add] at hy
          generalize l'[k]'(by omega) = lk at *
          have fg := World.ownsRow.frozenAt oM k
          have st := (World.ownsRow.stored oM k (.int .i64 (-5))).1
          rw [← I64_set] at st
          have K3 := hk2.set g k (.int .i64 (-5)) (fun _ => hg)
          have P3 := Lib.hid (And.intro st K3)
          have HK := Lib.hid (show k + 1 ≤ N by omega)
          have HL := Lib.hid (show (l'.set k (-5)).length = N by simpa using hl')
          have eg : (⟨g, 0, none⟩ : Addr).add k = ⟨g, k, none⟩ := by simpa using addr_add g 0 k
          clear st K3 oM hk2 hl'
          go_wp2
          go_roundw
          case rel => exact ⟨k + 1, l'.set k (-5), HK.out, by go_num, HL.out, P3.out.1, P3.out.2⟩
          case measure => simp [intOf]; have := HK.out; omega
        · have hki : ¬ (k : Int) < (N : Int) := by omega
          clear hlt hk
          go_wp2_with fail
          go_loopw [41, 42] (fun wv iv wr => ∃ (k : Nat) (l' : List Int), k ≤ 64 ∧ iv = .int .i64 (k : Int) ∧ wr.ownsRow V7.heap.size 3 1 wv (N + k) (I64 l') ∧ (∀ z, wv.ownBlock = some z → z < V8.heap.size ∨ V18.heap.size ≤ z) ∧ Kp (fun z => V7.heap.size ≤ z ∧ z < V8.heap.size) V18 wr) (fun _ iv _ => 64 - (intOf iv).toNat)
          case atStart => exact ⟨0, l', by omega, rfl, oM, fun z h => .inl (lM z h).2, hk2⟩
          case round =>
            clear oM hk2 hki
            obtain ⟨k, l3, hk, rfl, oW, hz, hk2⟩ := hrel
            obtain ⟨wa, wcap, rfl, _, _⟩ := own_rd oW
            by_cases hlt : k < 64
            · have hki : (k : Int) < 64 := by omega
              have hVr : V7.heap.size ≤ wr.heap.size := by have := hk2.size; omega
              have NX : Hid (∀ (g9 cap9 : Nat) (w9 : World), w9.ownsRow V7.heap.size 3 1 (.slice (some ⟨g9, 0, none⟩) (N + k + 1) cap9) (N + k + 1) (I64 l3 ++ [.int .i64 (-7)]) → (((Value.slice wa (N + k) wcap).ownBlock = some g9 ∧ wr.grownBy w9 (some g9)) ∨ (wr.heap.size ≤ g9 ∧ wr.grownBy w9 none)) →
                  ∃ (k' : Nat) (l' : List Int), k' ≤ 64 ∧ Value.int .i64 ((k : Int) + 1) = .int .i64 (k' : Int) ∧ w9.ownsRow V7.heap.size 3 1 (.slice (some ⟨g9, 0, none⟩) (N + k + 1) cap9) (N + k') (I64 l') ∧ (∀ z, (Value.slice (some ⟨g9, 0, none⟩) (N + k + 1) cap9).ownBlock = some z → z < V8.heap.size ∨ V18.heap.size ≤ z) ∧ Kp (fun z => V7.heap.size ≤ z ∧ z < V8.heap.size) V18 w9) := Lib.hid (by
                intro g9 cap9 w9 os9 hc9
                have hsz := hk2.size
                refine ⟨k + 1, l3 ++ [-7], by omega, by rw [show ((k + 1 : Nat) : Int) = (k : Int) + 1 by omega], by rw [← I64_snoc]; exact os9, fun z hz9 => ?_, ?_⟩
                · have e9 : g9 = z := by simpa [Value.ownBlock] using hz9
                  subst e9
                  rcases hc9 with ⟨h1, _⟩ | ⟨h1, _⟩
                  · exact hz g9 h1
                  · exact .inr (by omega)
                · rcases hc9 with ⟨h1, h2⟩ | ⟨h1, h2⟩
                  · refine hk2.grown h2 (fun j e hl => ?_)
                    injection e with e
                    subst e
                    rcases hz g9 h1 with h3 | h3
                    · exact ⟨(own_lt oW g9 h1).1, h3⟩
                    · omega
                  · exact hk2.grown h2 (fun j e => by cases e))
              have HK := Lib.hid (show k + 1 ≤ 64 by omega)
              clear hz hk2
              go_wp2_with (at_builtin; refine appK V7.heap.size rfl _ _ 39 3 (.int .i64 0) 8 rfl Try.underlying39 info3 rfl (by decide) (.slice wa (N + k) wcap) (N + k) (I64 l3) (.int .i64 (-7)) rfl rfl rfl oW hVr (by omega) ?_; intro g9 cap9 w9 os9 hc9)
              go_roundw
              case rel => exact NX.out _ _ _ os9 hc9
              case measure => simp [intOf]; have := HK.out; omega
            · have hki : ¬ (k : Int) < 64 := by omega
              replace F := F.kp hk2 (fun z hz h => by omega)
              replace oN := ownKp oN hk2 (fun z e h => by have := lN z e; omega)
              replace oF := ownKp oF hk2 (fun z e h => by have := lF z e; omega)
              replace rG := rG.kp hk2 (fun b _ h1 h => by omega)
              replace hDd := (hk2.block D (Array.getElem?_eq_some_iff.1 hDd).1 (fun h => by omega)).trans hDd
              clear hk2 hz oW hlt hk
              go_wp2_with fail
              refine (eqInts_any na la N N nc lc L L hNL hNL (by omega) wr (own_rdA oN) F.rL).mono ?_
              rintro e V19 ⟨rfl, hb⟩
              rw [decide_eq_true rfl]
              replace hDd := def_below hDd hb
              replace F := F.below hb
              replace oF := own_below oF hb
              replace rG := rG.below hb
              clear hb oN
              go_wp2_with fail
              refine (eqInts_any fa ga _ _ fc gc (encL bs ps x2) (encL bs ps x2) rfl rfl (by omega) V19 (own_rdA oF) rG.rd).mono ?_
              rintro e V20 ⟨rfl, hb⟩
              rw [decide_eq_true rfl]
              replace hDd := def_below hDd hb
              replace F := F.below hb
              clear hb oF rG
              have y0 := F.c0
              have y1 := F.c1
              have FF := Lib.hid (fun W' (hb : Below V20.heap.size V20 W') => F.below hb)
              go_upto_region 57 with fail
              go_cut [43, 44] from 277 to 283 (fun s43 s44 wx => ∃ na nc, s43 = .slice na N nc ∧ s44 = .int .i64 0 ∧ Rd wx na (I64 L) ∧ Below V20.heap.size V20 wx)
              case first =>
                refine wp_norm ?_
                go_region_law (first
                  | ((try go_simp); go_at_call 25; refine (copyBytes_any T t ct x hl (by omega) _ (ht.below (FF.out _ (Below.drew (Below.refl _ _))).hb)).mono ?_; rintro e wq ⟨u, rfl, ou, hbq⟩; obtain ⟨ua2, uc2, rfl, _, _⟩ := own_rd ou; have HQ := bthen (Below.drew (Below.refl V20.heap.size V20)) hbq; have z0 : wq.cell? ⟨Y, 0, none⟩ = some (.slice C n dc) := (FF.out wq HQ).c0; have z1 : wq.cell? ⟨Y, 1, none⟩ = some (.slice C' m dc') := (FF.out wq HQ).c1)
                  | ((try go_simp); go_at_call 26; refine (encode_any C C' _ n m t dc dc' _ bs ps x wq ((FF.out wq HQ).vc hv) hwf hl (own_rdA ou) hwx hs).mono ?_; rintro e wr ⟨v, rfl, oN, hbr⟩; rw [← HLE.out, ← HN.out] at oN; rw [EE.out]; obtain ⟨na, nc, rfl, _, _⟩ := own_rd oN))
                all_goals
                  go_wp2_with fail
                  go_meet
                  exact ⟨na, nc, rfl, rfl, own_rdA oN, bthen HQ hbr⟩
              case rest =>
              obtain ⟨na, nc, rfl, rfl, rN, hb⟩ := hcut
              obtain ⟨V21, rfl⟩ : ∃ u : World, u = wc := ⟨_, rfl⟩
              replace hDd := def_below hDd hb
              replace F := F.below hb
              clear hb FF y0 y1
              have y0 := F.c0
              have y1 := F.c1
              go_wp2_with fail
              refine (decode_any C C' na n m N dc dc' nc bs ps L V21 (F.vc hv) hwf hNL rN (by omega)).mono ?_
              rintro e V22 ⟨v, rfl, o45, hb⟩
              rw [RND.out.1]
              rw [RND.out.2, hl] at o45
              obtain ⟨a45, c45, rfl, _, _⟩ := own_rd o45
              replace hDd := def_below hDd hb
              replace F := F.below hb
              replace rN := rN.below hb
              clear hb y0 y1
              go_wp2_with fail
              refine (eqInts_any na la N N nc lc L L hNL hNL (by omega) V22 rN F.rL).mono ?_
              rintro e V23 ⟨rfl, hb⟩
              rw [decide_eq_true rfl]
              replace hDd := def_below hDd hb
              replace F := F.below hb
              replace o45 := own_below o45 hb
              clear hb rN
              go_wp2_with fail
              refine (eqBytes_any a45 T t t c45 ct x x hl hl (by omega) V23 (own_rdA o45) (ht.below F.hb)).mono ?_
              rintro e V24 ⟨rfl, hb⟩
              rw [decide_eq_true rfl]
              replace hDd := def_below hDd hb
              replace F := F.below hb
              clear hb o45
              have y0 := F.c0
              have y1 := F.c1
              have FF := Lib.hid (fun W' (hb : Below V24.heap.size V24 W') => F.below hb)
              have DD := Lib.hid hDd
              clear hDd
              go_upto_region 61 with fail
              refine wp_norm ?_
              go_region_law (first
                | ((try go_simp); go_at_call 21; refine (copyInts_any la N lc L hNL (by omega) _ (FF.out _ (Below.drew (Below.refl _ _))).rL).mono ?_; rintro e wq ⟨u, rfl, ou, hbq⟩; obtain ⟨ua2, uc2, rfl, _, _⟩ := own_rd ou; have HQ := bthen (Below.drew (Below.refl V24.heap.size V24)) hbq; have z0 : wq.cell? ⟨Y, 0, none⟩ = some (.slice C n dc) := (FF.out wq HQ).c0; have z1 : wq.cell? ⟨Y, 1, none⟩ = some (.slice C' m dc') := (FF.out wq HQ).c1)
                | ((try go_simp); go_at_call 37; refine (vocabAnew_any C C' ua2 n m N dc dc' uc2 w.heap.size bs ps L wq (FF.out wq HQ).hb.size ((FF.out wq HQ).vc hv) hwf hNL (by omega) (FF.out wq HQ).oC (FF.out wq HQ).oQ (own_base ou (show w.heap.size ≤ V24.drew.heap.size from F.hb.size))).mono ?_; rintro e wz ⟨rfl, hkz⟩; have q4z : Blk wz (w.heap.size + 1) #[.bool false] 4 := (FF.out wq HQ).q4.kp hkz (fun h => h.elim (fun h => (FF.out wq HQ).q4.not_row (by decide) (FF.out wq HQ).oC h.symm) (fun h => (FF.out wq HQ).q4.not_row (by decide) ou h.symm)); have z4 : wz.cell? ⟨w.heap.size + 1, 0, none⟩ = some (.bool false) := q4z.cell 0; have f4 := q4z.frozen 0))
              all_goals
                have Fq := FF.out wq HQ
                have hDq := def_below DD.out HQ
                have hDz : wz.heap[D]? = some (.deferred (some [])) := (hkz.block D (Array.getElem?_eq_some_iff.1 hDq).1 (fun h => h.elim (row_def Fq.oC hDq) (row_def ou hDq))).trans hDq
                have hbz : Below w.heap.size w wz := Fq.hb.trans (hkz.toBelow Fq.hb.size (fun z hz h => h.elim (fun h => by have := (own_lt Fq.oC z h).1; omega) (fun h => by have h1 := (own_lt ou z h).1; have h2 : w.heap.size ≤ V24.drew.heap.size := F.hb.size; omega)))
                go_wp2_with fail
                have hb3 := hbz.setCell (p := ⟨w.heap.size + 1, 0, none⟩) (show w.heap.size ≤ w.heap.size + 1 by omega) (.bool true)
                have q4' := q4z.set 0 (.bool true)
                have hwD : w.heap.size ≤ D := Nat.le_trans hwB hD
                refine leaves_marks w.heap.size [D] _ (by simp) (fun D' h => by simp at h; subst h; exact ⟨hwD, (Below.heap_setCell wz _ _ D' (blk_def q4z hDz)).trans hDz⟩) ?_
                intro W4 hs4
                exact ⟨.bool true, results_cell1 rfl _ _ _ _ rfl ((q4'.sm hs4).cell 0), rfl, Below.sm hb3 (Nat.le_refl _) (Nat.le_refl _) hs4⟩
  · have hne : (errE bs ps x == 0) = false := by simpa using hE
    generalize errE bs ps x = ee at *
    have z4 : w5.cell? ⟨w.heap.size + 1, 0, none⟩ = some (.bool false) := q4.cell 0
    have f4 := q4.frozen 0
    go_wp2
    have hb3 := h0.setCell (p := ⟨w.heap.size + 1, 0, none⟩) (show w.heap.size ≤ w.heap.size + 1 by omega) (.bool true)
    have q4' := q4.set 0 (.bool true)
    exact ⟨.bool true, results_cell1 rfl _ _ _ _ rfl (q4'.cell 0), rfl, hb3⟩
end Go.Proofs.Ytobklhnechbpaaa
