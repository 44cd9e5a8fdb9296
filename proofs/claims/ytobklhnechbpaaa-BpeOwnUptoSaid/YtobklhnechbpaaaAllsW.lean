import Derived.Test.YtobklhnechbpaaaIter
import Derived.Sort.LoopGhostIn
namespace Go.Proofs.Ytobklhnechbpaaa
open Go.RowKit Go.Shelf
attribute [local go_sem] Oper.semAt_some

set_option maxHeartbeats 1000000 in
/-- bpe.All -/
theorem all_any (v : Value) (w : World) (x y : Value) (hv : v = .agg #[x, y]) :
    Calls Try.prog 17 #[v] w fun e w' => e = .returned (.func (.func 41) #[] #[.pointer (some ⟨w.heap.size, 0, none⟩)]) ∧ Blk w' w.heap.size #[x, y] 25 ∧ Below w.heap.size w w' := by
  subst hv
  go_enter Try.func17, Try.ntmps17
  go_wp2
  go_returns
  exact ⟨rfl, Blk.new w _ _, by go_grown⟩
theorem eF33 (f : Fn) (x y : Array Value) (w : World) : (binOp .eql 33 (.func f x y) .nilFunc).run Try.prog w = .ok (.bool false) w := by
  have h : ∀ d, (Op.equalIn (d + 1) 33 (.func f x y) .nilFunc).run Try.prog w = .ok false w := fun d => by simp [Op.equalIn, run_underlying Try.underlying33]
  have h2 : (Op.equal 33 (.func f x y) .nilFunc).run Try.prog w = .ok false w := h 9999
  simp [binOp, h2]
/-- the marks that the loops have left -/
def marks (Ds : List Nat) : List Deferred := Ds.map fun D => { target := .collected D, args := #[] }
theorem leaves_marks {F : Fence} {n : Nat} {P : Program} {fn : Func} {tmps : Array Value} {R : Ending → World → Prop} (B : Nat) : ∀ (Ds : List Nat) (W : World), Ds.Nodup → (∀ D ∈ Ds, B ≤ D ∧ W.heap[D]? = some (.deferred (some []))) →
    (∀ W', Sm B W W' → LeavesIn F n P fn tmps R [] .returning W') → LeavesInM F n P fn tmps R (marks Ds) .returning W := by
  intro Ds
  induction Ds with
  | nil => intro W _ _ h; exact h W (Sm.refl B W)
  | cons D r ih =>
    intro W hn hD h
    obtain ⟨h1, h2⟩ := List.nodup_cons.1 hn
    obtain ⟨hB, hd⟩ := hD D (by simp)
    refine ⟨by simp, .inl ⟨D, _, rfl, run_takeDeferred hd, ih _ h2 (fun D' hm => ⟨(hD D' (by simp [hm])).1, (World.putObj_heap_other (fun e => h1 (by subst e; exact hm))).trans (hD D' (by simp [hm])).2⟩) (fun W' hs => h W' ((Sm.putObj _ hB hd rfl).trans hs))⟩⟩

theorem exists_frame {a : Act} {F : (Nat → Value) → Act} (h : a = F (fun i => a.tmps.getD i undef)) : ∃ us, a = F us := ⟨_, h⟩
theorem szV_toks (bs : List Int) (ps : List (Int × Int)) : szV bs ps = ((toks bs ps).length : Int) := by
  unfold szV toks
  cases vocF bs ps <;> simp
theorem errT_toks (bs : List Int) (ps : List (Int × Int)) (k : Nat) (h : k < (toks bs ps).length) : errT bs ps k = 0 ∧ bytT bs ps k = tok (toks bs ps) k := by
  unfold toks at *
  unfold errT bytT
  cases hq : vocF bs ps with
  | none => rw [hq] at h; simp at h
  | some ls =>
    rw [hq] at h
    have h' : k < ls.length := h
    simp only
    rw [if_neg (by omega), if_neg (by omega), Int.toNat_natCast]
    exact ⟨rfl, rfl⟩
theorem Tw.sm {B : Nat} {w w' : World} {g h vc uc n m : Nat} {bs : List Int} {ps : List (Int × Int)} (t : Tw w g h vc uc n m bs ps) (hb : Sm B w w') : Tw w' g h vc uc n m bs ps :=
  ⟨t.r1.sm hb, t.r2.sm hb, t.l1, t.l2, t.hn, t.hm, t.b1, t.b2⟩
theorem toks_len (bs : List Int) (ps : List (Int × Int)) : (toks bs ps).length ≤ 64 := by
  unfold toks
  cases hq : vocF bs ps with
  | none => simp
  | some ls =>
    have h1 := (toks_of hq).len
    have h2 := (toks_of hq).n64
    simp
    omega
theorem toks_small (bs : List Int) (ps : List (Int × Int)) (k : Nat) : (tok (toks bs ps) k).length ≤ 16 := by
  unfold toks tok
  cases hq : vocF bs ps with
  | none => simp
  | some ls => exact (toks_of hq).small k
theorem Up.of_below {B : Nat} {W W' : World} (h : Below W.heap.size W W') : Up B W W' := ⟨h.size, fun k _ hk => h.block k hk⟩
theorem Up.set {B : Nat} {W W' : World} (h : Up B W W') {p : Nat} (hp : p < B) (v : Value) : Up B W (W'.setCell ⟨p, 0, none⟩ v) :=
  ⟨Nat.le_trans h.size (by simp), fun k hk hl => (Below.heap_setCell W' _ v k (by show k ≠ p; omega)).trans (h.same k hk hl)⟩
theorem results_cell1 {fn : Func} {p : Tmp} (h : fn.results = #[.cell p 4]) (tmps : Array Value) (w : World) (a : Addr) (v : Value) (hp : tmps.getD p undef = .pointer (some a)) (hc : w.cell? a = some v) : (results fn tmps).run Try.prog w = .ok v w := by
  have hp' : tmps[p]?.getD undef = .pointer (some a) := by simpa using hp
  have hl : (loadVar 4 a).run Try.prog w = .ok v w := by
    have ha : (isAgg 4).run Try.prog w = .ok false w := run_isAgg_plain Try.underlying4 rfl w
    simp [loadVar, ha, hc]
  simp [results, h, hp', asAddr, hl]
/-- what lies there while the rounds run -/
structure Head (w W : World) (A A' : Option Addr) (n m c c' g h vc uc : Nat) (bs : List Int) (ps : List (Int × Int)) (most : Int) (N M : Nat) : Prop where
  q0 : Blk W w.heap.size #[.slice A n c, .slice A' m c'] 25
  q1 : Blk W (w.heap.size + 1) #[.int .i64 most] 3
  q2 : Blk W (w.heap.size + 1 + 1) #[.bool false] 4
  q3 : Blk W N #[.slice (some ⟨g, 0, none⟩) n vc, .slice (some ⟨h, 0, none⟩) m uc] 25
  q4 : Blk W M #[.slice (some ⟨g, 0, none⟩) n vc, .slice (some ⟨h, 0, none⟩) m uc] 25
  tw : Tw W g h vc uc n m bs ps
  hb : Below w.heap.size w W
  hM : w.heap.size + 1 + 1 < M
theorem Head.below {w W W' : World} {A A' : Option Addr} {n m c c' g h vc uc : Nat} {bs : List Int} {ps : List (Int × Int)} {most : Int} {N M : Nat} (H : Head w W A A' n m c c' g h vc uc bs ps most N M) (hb : Below W.heap.size W W') : Head w W' A A' n m c c' g h vc uc bs ps most N M :=
  ⟨H.q0.below hb, H.q1.below hb, H.q2.below hb, H.q3.below hb, H.q4.below hb, H.tw.below hb, bthen H.hb hb, H.hM⟩
theorem Head.sm {B : Nat} {w W W' : World} {A A' : Option Addr} {n m c c' g h vc uc : Nat} {bs : List Int} {ps : List (Int × Int)} {most : Int} {N M : Nat} (H : Head w W A A' n m c c' g h vc uc bs ps most N M) (hB : w.heap.size ≤ B) (hb : Sm B W W') : Head w W' A A' n m c c' g h vc uc bs ps most N M :=
  ⟨H.q0.sm hb, H.q1.sm hb, H.q2.sm hb, H.q3.sm hb, H.q4.sm hb, H.tw.sm hb, Below.sm H.hb hB (Nat.le_refl _) hb, H.hM⟩
/-- the loops' blocks for deferred calls -/
structure Marked (W : World) (M : Nat) (Ds : List Nat) : Prop where
  nodup : Ds.Nodup
  all : ∀ D ∈ Ds, M ≤ D ∧ W.heap[D]? = some (.deferred (some []))
theorem Marked.nil (W : World) (M : Nat) : Marked W M [] := ⟨by simp, by simp⟩
theorem Marked.below {W W' : World} {M : Nat} {Ds : List Nat} (h : Marked W M Ds) (hb : Below W.heap.size W W') : Marked W' M Ds :=
  ⟨h.nodup, fun D hD => ⟨(h.all D hD).1, (hb.block D (Array.getElem?_eq_some_iff.1 (h.all D hD).2).1).trans (h.all D hD).2⟩⟩
theorem Marked.lt {W : World} {M : Nat} {Ds : List Nat} (h : Marked W M Ds) : ∀ D ∈ Ds, D < W.heap.size := fun D hD => (Array.getElem?_eq_some_iff.1 (h.all D hD).2).1
theorem Marked.sm {B : Nat} {W W' : World} {M : Nat} {Ds : List Nat} (h : Marked W M Ds) (hB : ∀ D ∈ Ds, D < B) (hs : Sm B W W') : Marked W' M Ds :=
  ⟨h.nodup, fun D hD => ⟨(h.all D hD).1, (hs.low D (h.lt D hD) (hB D hD)).trans (h.all D hD).2⟩⟩
theorem Marked.cons {W : World} {M : Nat} {Ds : List Nat} (h : Marked W M Ds) {D : Nat} (hn : ∀ E ∈ Ds, E < D) (hM : M ≤ D) (hD : W.heap[D]? = some (.deferred (some []))) : Marked W M (D :: Ds) :=
  ⟨List.nodup_cons.2 ⟨fun hm => Nat.lt_irrefl _ (hn D hm), h.nodup⟩, fun E hE => by
    rcases List.mem_cons.1 hE with rfl | hE
    · exact ⟨hM, hD⟩
    · exact h.all E hE⟩

set_option maxRecDepth 100000 in
set_option maxHeartbeats 4000000 in
theorem alls_any (A A' : Option Addr) (n m c c' : Nat) (bs : List Int) (ps : List (Int × Int)) (most : Int) (w : World) (hv : Voc w A A' n m bs ps) (hwf : Wf bs ps) (k1 : n * 1 ≤ 140737488355320) (k2 : m * 16 ≤ 140737488355312) :
    Calls Try.prog 4 #[.agg #[.slice A n c, .slice A' m c'], .int .i64 most] w fun e w' => e = .returned (.bool true) ∧ Below w.heap.size w w' := by
  refine (callsIn_wide (n := 10)).1 ?_
  refine callsIn_of_wp_marks Try.func4 rfl trivial ?_ rfl
  simp only [Try.ntmps4, List.size_toArray, List.length_cons, List.length_nil, Nat.reduceAdd, Nat.reduceSub, Array.replicate_succ, Array.replicate_zero, List.push_toArray, List.append_toArray, List.nil_append, List.cons_append]
  have h0 : Below w.heap.size w (((w.alloc (.cells #[.slice A n c, .slice A' m c'] 25)).alloc (.cells #[.int .i64 most] 3)).alloc (.cells #[.bool false] 4)) := by go_grown
  have q0 := ((Blk.new w #[.slice A n c, .slice A' m c'] 25).alloc (.cells #[.int .i64 most] 3)).alloc (.cells #[.bool false] 4)
  have q1 := (Blk.new (w.alloc (.cells #[.slice A n c, .slice A' m c'] 25)) #[.int .i64 most] 3).alloc (.cells #[.bool false] 4)
  have q2 := Blk.new ((w.alloc (.cells #[.slice A n c, .slice A' m c'] 25)).alloc (.cells #[.int .i64 most] 3)) #[.bool false] 4
  gi_wp2_with fail
  refine ⟨trivial, ?_⟩
  refine (callsIn_wide.2 (twin_any A A' n m c c' bs ps _ (hv.below h0) k1 k2)).mono ?_
  rintro e w1 ⟨g, h, vc, uc, rfl, tw, _, _, hb⟩
  simp only [World.size_alloc] at q1 q2
  replace q0 := q0.below hb
  replace q1 := q1.below hb
  replace q2 := q2.below hb
  replace h0 := bthen h0 hb
  clear hb
  have h1 : Below w1.heap.size w1 (w1.alloc (.cells #[.slice (some ⟨g, 0, none⟩) n vc, .slice (some ⟨h, 0, none⟩) m uc] 25)) := by go_grown
  have x0 : (w1.alloc (.cells #[.slice (some ⟨g, 0, none⟩) n vc, .slice (some ⟨h, 0, none⟩) m uc] 25)).cell? ⟨w.heap.size, 0, none⟩ = some (.slice A n c) := (q0.below h1).cell _
  have x1 : (w1.alloc (.cells #[.slice (some ⟨g, 0, none⟩) n vc, .slice (some ⟨h, 0, none⟩) m uc] 25)).cell? ⟨w.heap.size, 1, none⟩ = some (.slice A' m c') := (q0.below h1).cell _
  gi_wp2_with fail
  refine ⟨trivial, ?_⟩
  have hv1 := (tw.below h1)
  have q3 := Blk.new w1 #[.slice (some ⟨g, 0, none⟩) n vc, .slice (some ⟨h, 0, none⟩) m uc] 25
  replace q0 := q0.below h1
  replace q1 := q1.below h1
  replace q2 := q2.below h1
  replace h0 := bthen h0 h1
  clear h1 tw x0 x1
  generalize w1.heap.size = N at *
  generalize w1.alloc _ = w2 at *
  refine (callsIn_wide.2 (refSize_any A A' n m c c' bs ps w2 (hv.below h0))).mono ?_
  rintro e w3 ⟨rfl, hb⟩
  have hM2 := (q2.below hb).lt
  replace hv1 := hv1.below hb
  replace q0 := q0.below hb
  replace q1 := q1.below hb
  replace q2 := q2.below hb
  replace q3 := q3.below hb
  replace h0 := bthen h0 hb
  clear hb
  have x2 : w3.cell? ⟨N, 0, none⟩ = some (.slice (some ⟨g, 0, none⟩) n vc) := q3.cell _
  have x3 : w3.cell? ⟨N, 1, none⟩ = some (.slice (some ⟨h, 0, none⟩) m uc) := q3.cell _
  gi_wp2_with fail
  refine ⟨trivial, ?_⟩
  refine (callsIn_wide.2 (all_any _ w3 _ _ rfl)).mono ?_
  rintro e w4 ⟨rfl, q4, hb⟩
  replace hv1 := hv1.below hb
  replace q0 := q0.below hb
  replace q1 := q1.below hb
  replace q2 := q2.below hb
  replace q3 := q3.below hb
  replace h0 := bthen h0 hb
  have hN : w3.heap.size < w4.heap.size := q4.lt
  clear hb x2 x3
  generalize w3.heap.size = M at *
  have eF := eF33
  have hsz : szV bs ps = ((toks bs ps).length : Int) := szV_toks bs ps
  gi_wp2
  clear eF
  refine wpIn_loop_ghost (fun r a W => ∃ (k b8 : Nat) (Ds : List Nat), r + k = 4 ∧ Head w W A A' n m c c' g h vc uc bs ps most N M ∧ Blk W b8 #[.int .i64 (k : Int)] 3 ∧ M < b8 ∧ Marked W M Ds ∧
    ∃ us : Nat → Value, a = { tmps := #[.agg #[.slice A n c, .slice A' m c'], .int .i64 most, .pointer (some ⟨w.heap.size, 0, none⟩), .pointer (some ⟨w.heap.size + 1, 0, none⟩), .pointer (some ⟨w.heap.size + 1 + 1, 0, none⟩), .pointer (some ⟨N, 0, none⟩), .int .i64 ((toks bs ps).length : Int), .func (.func 41) #[] #[.pointer (some ⟨M, 0, none⟩)], .pointer (some ⟨b8, 0, none⟩), us 9, us 10, us 11, us 12, us 13, .agg #[.slice A n c, .slice A' m c'], .agg #[.slice (some ⟨g, 0, none⟩) n vc, .slice (some ⟨h, 0, none⟩) m uc], .agg #[.slice A n c, .slice A' m c'], .int .i64 ((toks bs ps).length : Int), .agg #[.slice (some ⟨g, 0, none⟩) n vc, .slice (some ⟨h, 0, none⟩) m uc], .func (.func 41) #[] #[.pointer (some ⟨M, 0, none⟩)], .func (.func 41) #[] #[.pointer (some ⟨M, 0, none⟩)], .bool false, us 22, us 23, us 24, us 25, us 26, us 27, us 28, us 29, us 30, us 31, us 32, us 33, us 34, us 35, us 36, us 37, us 38, us 39, us 40, us 41, us 42, us 43, us 44, us 45, us 46, us 47, us 48, us 49, us 50, us 51, us 52, us 53, us 54, us 55, us 56, us 57, us 58, us 59, us 60, us 61, us 62, us 63, us 64, us 65, us 66, us 67, us 68, us 69, us 70, us 71, undef, undef, undef], defers := marks Ds }) 4 ?start ?round
  case start =>
    refine ⟨0, w4.heap.size, [], rfl, ?_, Blk.new w4 _ _, hN, Marked.nil _ _, exists_frame rfl⟩
    have h5 : Below w4.heap.size w4 (w4.alloc (.cells #[.int .i64 0] 3)) := by go_grown
    exact (Head.mk q0 q1 q2 q3 q4 hv1 h0 hM2).below h5
  case round =>
    rintro r a W ⟨k, b8, Ds, hrk, hd, q8, hb8, hm, us, rfl⟩
    by_cases hk4 : k < 4
    · have h5 : Below W.heap.size W (W.alloc (.cells #[.int .i64 0] 3)) := by go_grown
      have q9 := Blk.new W #[.int .i64 0] 3
      have x8 : W.cell? ⟨b8, 0, none⟩ = some (.int .i64 (k : Int)) := q8.cell _
      have hd5 := hd.below h5
      have q85 := q8.below h5
      have hm5 := hm.below h5
      have hDs := hm.lt
      have hMW := hd.q4.lt
      have hbW := q8.lt
      have hnW := hd.hb.size
      gi_wp2_with fail
      have hB5 : (W.alloc (.cells #[.int .i64 0] 3)).heap.size = W.heap.size + 1 := by simp
      generalize W.alloc (.cells #[.int .i64 0] 3) = W5 at *
      refine range_it (gf := 41) (lb := #[.pointer (some ⟨M, 0, none⟩)]) (N := (toks bs ps).length) (X := Gives W5.heap.size (toks bs ps)) rfl (enters_of Try.func41 (by kernel_rfl) rfl) (all_iter _ _ n m vc uc bs ps _ M _ W5 hd5.tw.voc hwf hd5.q4 (by decide))
        ?ps ?X (fun j V => Below W.heap.size W V ∧ Blk V W.heap.size #[.int .i64 (j : Int)] 3)
        (fun cd j V => cd = .exit 2 ∧ k % 2 = 1 ∧ (j : Int) = most ∧ Below W.heap.size W V ∧ Blk V W.heap.size #[.int .i64 (j : Int)] 3) ?I ?Ix ⟨h5, q9⟩
        (fun args => { tmps := #[.agg #[.slice A n c, .slice A' m c'], .int .i64 most, .pointer (some ⟨w.heap.size, 0, none⟩), .pointer (some ⟨w.heap.size + 1, 0, none⟩), .pointer (some ⟨w.heap.size + 1 + 1, 0, none⟩), .pointer (some ⟨N, 0, none⟩), .int .i64 ((toks bs ps).length : Int), .func (.func 41) #[] #[.pointer (some ⟨M, 0, none⟩)], .pointer (some ⟨b8, 0, none⟩), .pointer (some ⟨W.heap.size, 0, none⟩), args.getD 0 undef, args.getD 1 undef, us 12, us 13, .agg #[.slice A n c, .slice A' m c'], .agg #[.slice (some ⟨g, 0, none⟩) n vc, .slice (some ⟨h, 0, none⟩) m uc], .agg #[.slice A n c, .slice A' m c'], .int .i64 ((toks bs ps).length : Int), .agg #[.slice (some ⟨g, 0, none⟩) n vc, .slice (some ⟨h, 0, none⟩) m uc], .func (.func 41) #[] #[.pointer (some ⟨M, 0, none⟩)], .func (.func 41) #[] #[.pointer (some ⟨M, 0, none⟩)], .bool false, .int .i64 (k : Int), .bool true, us 24, us 25, .func (.func 41) #[] #[.pointer (some ⟨M, 0, none⟩)], args.getD 0 undef, args.getD 1 undef, us 29, us 30, us 31, us 32, us 33, us 34, us 35, us 36, us 37, us 38, us 39, us 40, us 41, us 42, us 43, us 44, us 45, us 46, us 47, us 48, us 49, us 50, us 51, us 52, us 53, us 54, us 55, us 56, us 57, us 58, us 59, us 60, us 61, us 62, us 63, us 64, us 65, us 66, us 67, us 68, us 69, us 70, us 71, undef, undef, undef], defers := [] }) ?assign ?body ?done ?stop
      case ps =>
        rintro j args V ⟨v, rfl, _⟩
        rfl
      case X =>
        rintro j args V V' ⟨v, rfl, hv⟩ hs
        exact ⟨v, rfl, own_sm hv hs⟩
      case I =>
        rintro j V V' ⟨e1, e2⟩ hs
        exact ⟨Below.sm e1 (by omega) (Nat.le_refl _) hs, e2.sm hs⟩
      case Ix =>
        rintro cd j V V' ⟨a1, a2, a3, e1, e2⟩ hs
        exact ⟨a1, a2, a3, Below.sm e1 (by omega) (Nat.le_refl _) hs, e2.sm hs⟩
      case assign =>
        rintro l j args V K ⟨v, rfl, _⟩ hK
        obtain ⟨va, vcp, rfl, _, _⟩ := own_rd (by assumption)
        gi_wp2
        exact hK
      case body =>
        rintro l j args V ⟨e1, e3⟩ ⟨v, rfl, ov⟩ hj hsz
        obtain ⟨va, vcp, rfl, _, _⟩ := own_rd ov
        obtain ⟨er, eb⟩ := errT_toks bs ps j hj
        have y0 : V.cell? ⟨w.heap.size, 0, none⟩ = some (.slice A n c) := (hd.below e1).q0.cell _
        have y1 : V.cell? ⟨w.heap.size, 1, none⟩ = some (.slice A' m c') := (hd.below e1).q0.cell _
        have y9 : V.cell? ⟨W.heap.size, 0, none⟩ = some (.int .i64 (j : Int)) := e3.cell _
        have hl64 := toks_len bs ps
        have hsm := toks_small bs ps j
        gi_wp2_with fail
        refine ⟨trivial, ?_⟩
        refine (CallsIn.inRound l (callsIn_wide.2 (refBytes_any A A' n m c c' bs ps (j : Int) V (hv.below (hd.below e1).hb)))).mono ?_
        rintro e V2 ⟨u, rfl, ou, hb2⟩
        rw [er]
        rw [eb] at ou
        obtain ⟨ua, ucp, rfl, _, _⟩ := own_rd ou
        have f1 := bthen e1 hb2
        have f3 := e3.below hb2
        have ov2 := own_below ov hb2
        have z9 : V2.cell? ⟨W.heap.size, 0, none⟩ = some (.int .i64 (j : Int)) := f3.cell _
        clear y0 y1 y9 er eb
        generalize htk : tok (toks bs ps) j = tk at *
        gi_wp2_with fail
        refine ⟨trivial, ?_⟩
        refine (CallsIn.inRound l (callsIn_wide.2 (eqBytes_any _ _ _ _ _ _ tk tk rfl rfl (by omega) V2 (own_rdA ov2) (own_rdA ou)))).mono ?_
        rintro e V3 ⟨rfl, hb3⟩
        rw [decide_eq_true rfl]
        have g1 := bthen f1 hb3
        have g3 := f3.below hb3
        have w9 : V3.cell? ⟨W.heap.size, 0, none⟩ = some (.int .i64 (j : Int)) := g3.cell _
        have w9f := g3.frozen 0
        have w8 : V3.cell? ⟨b8, 0, none⟩ = some (.int .i64 (k : Int)) := (q8.below g1).cell _
        have w1' : V3.cell? ⟨w.heap.size + 1, 0, none⟩ = some (.int .i64 most) := (hd.below g1).q1.cell _
        clear z9
        have G1 := g1.setCell (p := ⟨W.heap.size, 0, none⟩) (Nat.le_refl _) (.int .i64 ((j : Int) + 1))
        have G3 := g3.set 0 (.int .i64 ((j : Int) + 1))
        have GU : Up W5.heap.size V (V3.setCell ⟨W.heap.size, 0, none⟩ (.int .i64 ((j : Int) + 1))) := (Up.of_below (bthen hb2 hb3)).set (by omega) _
        gi_wp2_with fail
        all_goals first
          | exact ⟨GU, G1, G3⟩
          | (refine ⟨GU, rfl, ?_, ?_, G1, G3⟩
             · omega
             · rename_i hx
               have := eq_of_beq hx
               omega)
      case done =>
        rintro D V hD ⟨e1, e3⟩ hDd
        have y9 : V.cell? ⟨W.heap.size, 0, none⟩ = some (.int .i64 ((toks bs ps).length : Int)) := e3.cell _
        have y8 : V.cell? ⟨b8, 0, none⟩ = some (.int .i64 (k : Int)) := (q8.below e1).cell _
        gi_wp2
        have h6 : Below V.heap.size V (V.alloc (.cells #[.int .i64 ((k : Int) + 1)] 3)) := by go_grown
        refine ⟨r - 1, by omega, k + 1, V.heap.size, D :: Ds, by omega, (hd.below e1).below h6, by rw [show ((k + 1 : Nat) : Int) = (k : Int) + 1 by omega]; exact Blk.new V _ _, (hd.below e1).q4.lt, ((hm.below e1).cons (fun E hE => by have := hDs E hE; omega) (by omega) hDd).below h6, exists_frame rfl⟩
      case stop =>
        rintro D cd j V hD hj ⟨rfl, a2, a3, e1, e3⟩ hDd
        have hk2 : (k : Int) % 2 = 1 := by omega
        rw [a3] at e3
        have y9 : V.cell? ⟨W.heap.size, 0, none⟩ = some (.int .i64 most) := e3.cell _
        have y8 : V.cell? ⟨b8, 0, none⟩ = some (.int .i64 (k : Int)) := (q8.below e1).cell _
        have y3 : V.cell? ⟨w.heap.size + 1, 0, none⟩ = some (.int .i64 most) := (hd.below e1).q1.cell _
        clear a3
        have h6 : Below V.heap.size V (V.alloc (.cells #[.int .i64 ((k : Int) + 1)] 3)) := by go_grown
        have hH := (hd.below e1).below h6
        have hMm := ((hm.below e1).cons (fun E hE => by have := hDs E hE; omega) (by omega) hDd).below h6
        have hQ : Blk (V.alloc (.cells #[.int .i64 ((k : Int) + 1)] 3)) V.heap.size #[.int .i64 ((k + 1 : Nat) : Int)] 3 := by
          rw [show ((k + 1 : Nat) : Int) = (k : Int) + 1 by omega]
          exact Blk.new V _ _
        have hMV := (hd.below e1).q4.lt
        cases hq : (most != ((toks bs ps).length : Int)) with
        | false =>
          gi_wp2
          exact ⟨r - 1, by omega, k + 1, V.heap.size, D :: Ds, by omega, hH, hQ, hMV, hMm, exists_frame rfl⟩
        | true =>
          gi_wp2
          exact ⟨r - 1, by omega, k + 1, V.heap.size, D :: Ds, by omega, hH, hQ, hMV, hMm, exists_frame rfl⟩
    · obtain rfl : k = 4 := by omega
      have x8 : W.cell? ⟨b8, 0, none⟩ = some (.int .i64 4) := q8.cell _
      have x5 : W.cell? ⟨N, 0, none⟩ = some (.slice (some ⟨g, 0, none⟩) n vc) := hd.q3.cell _
      have x6 : W.cell? ⟨N, 1, none⟩ = some (.slice (some ⟨h, 0, none⟩) m uc) := hd.q3.cell _
      have x2 : W.cell? ⟨w.heap.size, 0, none⟩ = some (.slice A n c) := hd.q0.cell _
      have x3 : W.cell? ⟨w.heap.size, 1, none⟩ = some (.slice A' m c') := hd.q0.cell _
      gi_wp2_with fail
      refine ⟨trivial, ?_⟩
      refine (callsIn_wide.2 (still_any A A' g h vc uc n m c c' bs ps W hd.tw (hv.below hd.hb))).mono ?_
      rintro e W2 ⟨rfl, hb2⟩
      have hd2 := hd.below hb2
      have hm2 := hm.below hb2
      have y4 : W2.cell? ⟨w.heap.size + 1 + 1, 0, none⟩ = some (.bool false) := hd2.q2.cell _
      have z4 := hd2.q2.frozen 0
      gi_wp2
      have hb3 := hd2.hb.setCell (p := ⟨w.heap.size + 1 + 1, 0, none⟩) (by simp; omega) (.bool true)
      have q3' := hd2.q2.set 0 (.bool true)
      have hl2 := hm2.lt
      have hM2 := hd2.hM
      have hm3 : Marked (W2.setCell ⟨w.heap.size + 1 + 1, 0, none⟩ (.bool true)) M Ds := ⟨hm2.nodup, fun D hD => ⟨(hm2.all D hD).1, (Below.heap_setCell W2 _ _ D (by have := (hm2.all D hD).1; show D ≠ w.heap.size + 1 + 1; omega)).trans (hm2.all D hD).2⟩⟩
      refine leaves_marks (w.heap.size + 1 + 1 + 1) Ds _ hm3.nodup (fun D hD => ⟨by have := (hm3.all D hD).1; omega, (hm3.all D hD).2⟩) ?_
      intro W4 hs
      have hb4 := Below.sm hb3 (by omega) (Nat.le_refl _) hs
      have q4' := q3'.sm hs
      exact ⟨.bool true, results_cell1 rfl _ _ _ _ rfl (q4'.cell 0), rfl, hb4⟩
end Go.Proofs.Ytobklhnechbpaaa
