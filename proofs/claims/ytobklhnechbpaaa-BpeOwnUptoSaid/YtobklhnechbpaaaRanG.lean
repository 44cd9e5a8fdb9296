import Derived.Test.YtobklhnechbpaaaIter
/- A range over an iterator, whose rounds may write memory that lay ahead of the iterator or that they have made since the first round: S is the heap's size at the first round, and the list of what will be given. -/

namespace Go.Proofs.Ytobklhnechbpaaa
open Go.RowKit Go.Shelf
attribute [local go_sem] Oper.semAt_some

/-- a round turns nothing that lay from B on at the first round -/
structure UpS (B S : Nat) (W W' : World) : Prop where
  size : W.heap.size ≤ W'.heap.size
  same : ∀ k : Nat, B ≤ k → k < S → k < W.heap.size → W'.heap[k]? = W.heap[k]?
structure UpCS (B S : Nat) (W W' : World) : Prop where
  size : W.heap.size ≤ W'.heap.size
  rows : ∀ (k : Nat) (cs : Array Value) (t : TypeId) (fr : Nat × Nat), B ≤ k → k < S → W.heap[k]? = some (Obj.cells cs t fr) → W'.heap[k]? = W.heap[k]?
theorem UpS.c {B S : Nat} {W W' : World} (h : UpS B S W W') : UpCS B S W W' := ⟨h.size, fun k _ _ _ hk hs hc => h.same k hk hs (Array.getElem?_eq_some_iff.1 hc).1⟩
theorem UpCS.trans {B S : Nat} {A A' A'' : World} (h : UpCS B S A A') (k : UpCS B S A' A'') : UpCS B S A A'' :=
  ⟨Nat.le_trans h.size k.size, fun i cs t fr hb hs hi => (k.rows i cs t fr hb hs ((h.rows i cs t fr hb hs hi).trans hi)).trans (h.rows i cs t fr hb hs hi)⟩
theorem Sm.cs {B S : Nat} {A A' : World} (h : Sm B A A') : UpCS B S A A' := ⟨h.size, fun k cs t fr _ _ hk => h.rows k cs t fr hk⟩
/-- the heap's size at the first round, and what will be given -/
abbrev GS := Nat × List Value
/-- what an iterator gives: in round k what X says, N rounds -/
def IterS (P : Program) (B : Nat) (gf : Nat) (lb : Array Value) (G : List Value → World → Prop) (X : GS → Nat → Array Value → World → Prop) (N : Nat) (n : Nat) (w : World) : Prop :=
  ∀ (l : Nat) (J0 : World → Prop) (J Jx : GS → Nat → World → Prop) (W : World), Below w.heap.size w W → B ≤ W.heap.size → (∀ A A', J0 A → Below A.heap.size A A' → J0 A') → (∀ A vs, G vs A → J0 A → J (A.heap.size, vs) 0 A) → (∀ S k A A', J S k A → Below A.heap.size A A' → J S k A') →
    (∀ S k args W1, J S k W1 → k < N → X S k args W1 → YieldAt Fence.wide (n - 1) P l args W1 fun e W' => (e = .returned (.bool true) ∧ J S (k + 1) W' ∧ UpCS B S.1 W1 W') ∨ (e = .returned (.bool false) ∧ Jx S (k + 1) W')) →
    J0 W →
    CallsIn Fence.wide n P gf (#[.func (.yield l) #[] #[]] ++ lb) W fun e W' => (∃ v, e = .returned v) ∧ ((∃ S, J S N W') ∨ ∃ S k, k ≤ N ∧ Jx S k W')
/-- how a round's body may be left -/
def leftByS (B : Nat) (S : GS) (I : GS → Nat → World → Prop) (Ix : Code → GS → Nat → World → Prop) (k : Nat) (W : World) : Exit → Act → World → Prop
  | .normal, _, W' => UpS B S.1 W W' ∧ I S (k + 1) W'
  | .ret, _, W' => UpS B S.1 W W' ∧ Ix .ret S (k + 1) W'
  | .exit id, _, W' => UpS B S.1 W W' ∧ Ix (.exit id) S (k + 1) W'
  | .goto t, _, W' => UpS B S.1 W W' ∧ Ix (.goto t) S (k + 1) W'
  | .panic _, _, _ => False
  | .outgrown, _, _ => False

set_option maxHeartbeats 1000000 in
/-- the statement: the caller's own word -/
theorem range_its {P : Program} {n : Nat} {g : Operand} {ps : Array Tmp} {assign body : Code} {Q : Exit → Act → World → Prop} {a : Act} {w : World}
    {gf : Nat} {lb : Array Value} (hg : a.eval g = .func (.func gf) #[] lb) (eg : ∀ args w, (callFunc gf args).run P w = .ok (.enter gf args) w)
    {G : List Value → World → Prop} {X : GS → Nat → Array Value → World → Prop} {N : Nat} (hit : IterS P w.heap.size gf lb G X N (n - 1) w)
    (hps : ∀ S k args W, X S k args W → args.size = ps.size) (hX : ∀ S k args A A', X S k args A → Sm w.heap.size A A' → X S k args A')
    (I0 : World → Prop) (I : GS → Nat → World → Prop) (Ix : Code → GS → Nat → World → Prop) (hI0 : ∀ A A', I0 A → Sm w.heap.size A A' → I0 A') (hIs : ∀ A vs, G vs A → I0 A → w.heap.size + 2 ≤ A.heap.size → I (A.heap.size, vs) 0 A) (hI : ∀ S k A A', I S k A → Sm w.heap.size A A' → I S k A') (hIx : ∀ c S k A A', Ix c S k A → Sm w.heap.size A A' → Ix c S k A') (h0 : I0 w) (a₁ : Array Value → Act)
    (hassign : ∀ (l : Nat) (S : GS) (k : Nat) (args : Array Value) (W : World) (K : Act → World → Prop), X S k args W → K (a₁ args) W →
      assign.wpIn (Fence.wide.inRound l) (n - 1 - 1) P (Exit.then K (fun _ _ _ => False)) { tmps := (ps.zip args).foldl (fun t (p, v) => t.setIfInBounds p v) a.tmps, defers := [] } W)
    (hbody : ∀ (l : Nat) (S : GS) (k : Nat) (args : Array Value) (W : World), I S k W → X S k args W → k < N → w.heap.size + 2 ≤ S.1 → S.1 ≤ W.heap.size → body.wpIn (Fence.wide.inRound l) (n - 1 - 1) P (leftByS w.heap.size S I Ix k W) (a₁ args) W)
    (hdone : ∀ (D : Nat) (S : GS) (W : World), w.heap.size ≤ D → D < S.1 → I S N W → W.heap[D]? = some (.deferred (some [])) → Q .normal { a with defers := { target := .collected D, args := #[] } :: a.defers } W)
    (hstop : ∀ (D : Nat) (c : Code) (S : GS) (k : Nat) (W : World), w.heap.size ≤ D → D < S.1 → k ≤ N → Ix c S k W → W.heap[D]? = some (.deferred (some [])) → c.wpIn Fence.wide n P Q { a with defers := { target := .collected D, args := #[] } :: a.defers } W) :
    (Code.rangeFunc g ps assign body).wpIn Fence.wide n P Q a w := by
  refine wpIn_rangeFunc fun fn hfn => ?_
  obtain ⟨rec, hrec⟩ : ∃ rec : LoopState → Option Code → Loop, rec = fun st pe => { state := st, pending := pe, fn, tmps := a.tmps, params := ps, assign, body, defers := w.heap.size } := ⟨_, rfl⟩
  have b1 : Below w.heap.size w ((w.alloc (.deferred (some []))).alloc (.loop (rec .ready none))) := ((Below.refl _ w).alloc (Nat.le_refl _) _).alloc (by simp) _
  have L1 : ((w.alloc (.deferred (some []))).alloc (.loop (rec .ready none))).heap[w.heap.size + 1]? = some (.loop (rec .ready none)) := by
    have := World.alloc_heap_new (w.alloc (.deferred (some []))) (.loop (rec .ready none))
    rwa [World.size_alloc] at this
  have D1 : ((w.alloc (.deferred (some []))).alloc (.loop (rec .ready none))).heap[w.heap.size]? = some (.deferred (some [])) := (Below.heap_alloc _ _ _ (by simp)).trans (World.alloc_heap_new w _)
  have sz : w.heap.size ≤ ((w.alloc (.deferred (some []))).alloc (.loop (rec .ready none))).heap.size := b1.size
  refine ⟨w.heap.size + 1, [{ target := .collected w.heap.size, args := #[] }], (w.alloc (.deferred (some []))).alloc (.loop (rec .ready none)), { target := .fn (.func gf) lb, args := #[.func (.yield (w.heap.size + 1)) #[] #[]] }, (w.alloc (.deferred (some []))).alloc (.loop (rec .ready none)), gf,
    #[.func (.yield (w.heap.size + 1)) #[] #[]] ++ lb, (w.alloc (.deferred (some []))).alloc (.loop (rec .ready none)), by rw [hrec]; exact run_enterLoop_outer _ _ _ _ _, by simp only [resolve, hg]; simp [go_sem], fun _ _ => trivial, by simp [invoke, go_sem, eg], fun h => by simp [Fence.wide] at h, ?_⟩
  have I1 : I0 ((w.alloc (.deferred (some []))).alloc (.loop (rec .ready none))) := hI0 _ _ h0 (Sm.of_below b1)
  generalize (w.alloc (.deferred (some []))).alloc (.loop (rec .ready none)) = W1 at *
  refine (hit (w.heap.size + 1) (fun W => I0 W ∧ W.heap[w.heap.size + 1]? = some (.loop (rec .ready none)) ∧ W.heap[w.heap.size]? = some (.deferred (some [])))
    (fun S k W => I S k W ∧ W.heap[w.heap.size + 1]? = some (.loop (rec .ready none)) ∧ W.heap[w.heap.size]? = some (.deferred (some [])) ∧ w.heap.size + 2 ≤ S.1 ∧ S.1 ≤ W.heap.size)
    (fun S k W => (∃ c, Ix c S k W ∧ W.heap[w.heap.size + 1]? = some (.loop (rec .done (some c))) ∧ W.heap[w.heap.size]? = some (.deferred (some []))) ∧ w.heap.size + 2 ≤ S.1) W1 b1 sz
    (fun A A' h hb => ⟨hI0 _ _ h.1 (Sm.of_below hb), (hb.block _ (Array.getElem?_eq_some_iff.1 h.2.1).1).trans h.2.1, (hb.block _ (Array.getElem?_eq_some_iff.1 h.2.2).1).trans h.2.2⟩)
    (fun A vs hgv h => by
      have hlt : w.heap.size + 1 < A.heap.size := (Array.getElem?_eq_some_iff.1 h.2.1).1
      exact ⟨hIs A vs hgv h.1 (by omega), h.2.1, h.2.2, by omega, Nat.le_refl _⟩)
    (fun S k A A' h hb => ⟨hI _ _ _ _ h.1 (Sm.of_below hb), (hb.block _ (Array.getElem?_eq_some_iff.1 h.2.1).1).trans h.2.1, (hb.block _ (Array.getElem?_eq_some_iff.1 h.2.2.1).1).trans h.2.2.1, h.2.2.2.1, Nat.le_trans h.2.2.2.2 hb.size⟩) ?_ ⟨I1, L1, D1⟩).mono ?_
  · rintro S k args W ⟨hi, hl, hd, hS, hSW⟩ hk hx
    have hy := run_yield (P := P) (args := args) hl (by rw [hrec]; exact hps _ _ _ _ hx)
    rw [hrec] at hy
    have hlt : w.heap.size + 1 < W.heap.size := (Array.getElem?_eq_some_iff.1 hl).1
    refine ⟨fn, _, assign, body, hy, roundIn_of_wpIn hfn (hassign _ S k args W _ hx ⟨_, run_beginRound hl (by rw [hrec]), ?_⟩)⟩
    have s2 : Sm w.heap.size W (W.putObj (w.heap.size + 1) (.loop { rec .ready none with state := .busy })) := Sm.putObj _ (by omega) hl rfl
    have hl2 : (W.putObj (w.heap.size + 1) (.loop { rec .ready none with state := .busy })).heap[w.heap.size + 1]? = some (.loop { rec .ready none with state := .busy }) := World.putObj_heap_same hlt
    have hd2 : (W.putObj (w.heap.size + 1) (.loop { rec .ready none with state := .busy })).heap[w.heap.size]? = some (.deferred (some [])) := (World.putObj_heap_other (by omega)).trans hd
    refine wpIn_mono (hbody _ S k args _ (hI _ _ _ _ hi s2) (hX _ _ _ _ _ hx s2) hk hS (by simpa using hSW)) ?_
    generalize W.putObj (w.heap.size + 1) (.loop { rec .ready none with state := .busy }) = W2 at *
    have hz2 : w.heap.size + 1 < W2.heap.size := (Array.getElem?_eq_some_iff.1 hl2).1
    have fin : ∀ (jump : Option Code) (W3 : World), UpS w.heap.size S.1 W2 W3 → (Instr.endRound (w.heap.size + 1) jump).run P W3 = .ok (.bool jump.isNone) (W3.putObj (w.heap.size + 1) (.loop (rec (if jump.isNone then .ready else .done) jump))) ∧
        Sm w.heap.size W3 (W3.putObj (w.heap.size + 1) (.loop (rec (if jump.isNone then .ready else .done) jump))) ∧ (W3.putObj (w.heap.size + 1) (.loop (rec (if jump.isNone then .ready else .done) jump))).heap[w.heap.size + 1]? = some (.loop (rec (if jump.isNone then .ready else .done) jump)) ∧
        (W3.putObj (w.heap.size + 1) (.loop (rec (if jump.isNone then .ready else .done) jump))).heap[w.heap.size]? = some (.deferred (some [])) := fun jump W3 hu => by
      have h3 := (hu.same _ (by omega) (by omega) hz2).trans hl2
      have d3 := (hu.same _ (Nat.le_refl _) (by omega) (by omega)).trans hd2
      have := run_endRound (P := P) jump h3
      rw [hrec] at this ⊢
      exact ⟨this, Sm.putObj _ (by omega) h3 rfl, World.putObj_heap_same (Array.getElem?_eq_some_iff.1 h3).1, (World.putObj_heap_other (by omega)).trans d3⟩
    rintro e a3 W3 hp
    cases e with
    | normal =>
      obtain ⟨r1, r2, r3, r4⟩ := fin none W3 hp.1
      exact ⟨_, _, r1, .inl ⟨rfl, ⟨hI _ _ _ _ hp.2 r2, r3, r4, hS, by have h1 := hp.1.size; have h2 := r2.size; have h3 := s2.size; omega⟩, (s2.cs.trans hp.1.c).trans r2.cs⟩⟩
    | ret =>
      obtain ⟨r1, r2, r3, r4⟩ := fin (some .ret) W3 hp.1
      exact ⟨_, _, r1, .inr ⟨rfl, ⟨_, hIx _ _ _ _ _ hp.2 r2, r3, r4⟩, hS⟩⟩
    | exit id =>
      obtain ⟨r1, r2, r3, r4⟩ := fin (some (.exit id)) W3 hp.1
      exact ⟨_, _, r1, .inr ⟨rfl, ⟨_, hIx _ _ _ _ _ hp.2 r2, r3, r4⟩, hS⟩⟩
    | goto t =>
      obtain ⟨r1, r2, r3, r4⟩ := fin (some (.goto t)) W3 hp.1
      exact ⟨_, _, r1, .inr ⟨rfl, ⟨_, hIx _ _ _ _ _ hp.2 r2, r3, r4⟩, hS⟩⟩
    | panic ch => exact hp.elim
    | outgrown => exact hp.elim
  · rintro e W2 ⟨⟨v, rfl⟩, (⟨S, hi, hl, hd, hS, _⟩ | ⟨S, k, hk, ⟨c, hi, hl, hd⟩, hS⟩)⟩
    · have s2 : Sm w.heap.size W2 (W2.putObj (w.heap.size + 1) (.loop { rec .ready none with state := .exhausted })) := Sm.putObj _ (by omega) hl rfl
      exact ⟨none, _, by have := run_endLoop (P := P) hl (by rw [hrec]; simp); rw [hrec] at this ⊢; exact this, hdone _ S _ (Nat.le_refl _) (by omega) (hI _ _ _ _ hi s2) ((World.putObj_heap_other (by omega)).trans hd)⟩
    · have s2 : Sm w.heap.size W2 (W2.putObj (w.heap.size + 1) (.loop { rec .done (some c) with state := .exhausted })) := Sm.putObj _ (by omega) hl rfl
      exact ⟨some c, _, by have := run_endLoop (P := P) hl (by rw [hrec]; simp); rw [hrec] at this ⊢; exact this, hstop _ c S k _ (Nat.le_refl _) (by omega) hk (hIx _ _ _ _ _ hi s2) ((World.putObj_heap_other (by omega)).trans hd)⟩
set_option maxHeartbeats 1000000 in
/-- the same, of a body that hands on what is given in slot d -/
theorem range_its1 (d : Nat) {P : Program} {n : Nat} {g : Operand} {ps : Array Tmp} {assign body : Code} {Q : Exit → Act → World → Prop} {a : Act} {w : World}
    {gf : Nat} {lb : Array Value} (hg : a.eval g = .func (.func gf) #[] lb) (eg : ∀ args w, (callFunc gf args).run P w = .ok (.enter gf args) w)
    {G : List Value → World → Prop} {X : GS → Nat → Array Value → World → Prop} {N : Nat} (hit : IterS P w.heap.size gf lb G X N (n - 1) w)
    (hps : ∀ S k args W, X S k args W → args.size = ps.size) (hX : ∀ S k args A A', X S k args A → Sm w.heap.size A A' → X S k args A')
    (I0 : World → Prop) (I : GS → Nat → World → Prop) (Ix : Code → GS → Nat → World → Prop) (hI0 : ∀ A A', I0 A → Sm w.heap.size A A' → I0 A') (hIs : ∀ A vs, G vs A → I0 A → w.heap.size + 2 ≤ A.heap.size → I (A.heap.size, vs) 0 A) (hI : ∀ S k A A', I S k A → Sm w.heap.size A A' → I S k A') (hIx : ∀ c S k A A', Ix c S k A → Sm w.heap.size A A' → Ix c S k A') (h0 : I0 w)
    (hassign : ∀ (l : Nat) (S : GS) (k : Nat) (args : Array Value) (W : World) (K : Act → World → Prop), X S k args W → K ({ tmps := ((ps.zip args).foldl (fun t (p, v) => t.setIfInBounds p v) a.tmps).setIfInBounds d (args.getD 1 undef), defers := [] } : Act) W →
      assign.wpIn (Fence.wide.inRound l) (n - 1 - 1) P (Exit.then K (fun _ _ _ => False)) { tmps := (ps.zip args).foldl (fun t (p, v) => t.setIfInBounds p v) a.tmps, defers := [] } W)
    (hbody : ∀ (l : Nat) (S : GS) (k : Nat) (args : Array Value) (W : World), I S k W → X S k args W → k < N → w.heap.size + 2 ≤ S.1 → S.1 ≤ W.heap.size → body.wpIn (Fence.wide.inRound l) (n - 1 - 1) P (leftByS w.heap.size S I Ix k W) ({ tmps := ((ps.zip args).foldl (fun t (p, v) => t.setIfInBounds p v) a.tmps).setIfInBounds d (args.getD 1 undef), defers := [] } : Act) W)
    (hdone : ∀ (D : Nat) (S : GS) (W : World), w.heap.size ≤ D → D < S.1 → I S N W → W.heap[D]? = some (.deferred (some [])) → Q .normal { a with defers := { target := .collected D, args := #[] } :: a.defers } W)
    (hstop : ∀ (D : Nat) (c : Code) (S : GS) (k : Nat) (W : World), w.heap.size ≤ D → D < S.1 → k ≤ N → Ix c S k W → W.heap[D]? = some (.deferred (some [])) → c.wpIn Fence.wide n P Q { a with defers := { target := .collected D, args := #[] } :: a.defers } W) :
    (Code.rangeFunc g ps assign body).wpIn Fence.wide n P Q a w :=
  range_its hg eg hit hps hX I0 I Ix hI0 hIs hI hIx h0 (fun args => ({ tmps := ((ps.zip args).foldl (fun t (p, v) => t.setIfInBounds p v) a.tmps).setIfInBounds d (args.getD 1 undef), defers := [] } : Act)) hassign hbody hdone hstop
/-- round k: its number and its bytes, in memory that the iterator has laid ahead of the first round -/
def GivesS (B : Nat) (ls : List (List Int)) (S : GS) (k : Nat) (args : Array Value) (W : World) : Prop := ∃ v, args = #[.int .i64 (k : Int), v] ∧ S.2[k]? = some v ∧ W.ownsRow B 5 1 v (tok ls k).length (B8 (tok ls k)) ∧ ∀ q, v.ownBlock = some q → q < S.1
/-- no two of what is given share memory -/
def Unlike (vs : List Value) (_ : World) : Prop := ∀ (i j : Nat) (v u : Value), i ≠ j → vs[i]? = some v → vs[j]? = some u → v.ownBlock = none ∨ v.ownBlock ≠ u.ownBlock
theorem own_upcs {B S : Nat} {w w' : World} {e : TypeId} {size n : Nat} {v : Value} {xs : List Value} (h : w.ownsRow B e size v n xs) (hs : UpCS B S w w') (hv : ∀ q, v.ownBlock = some q → q < S) : w'.ownsRow B e size v n xs := by
  refine ⟨h.1, ?_⟩
  rcases h.2 with h | ⟨g, cap, cur, h1, h2, h3, h4⟩
  · exact .inl h
  · exact .inr ⟨g, cap, cur, h1, h2, (hs.rows g _ _ _ h2 (hv g (by rw [h1]; rfl)) h3).trans h3, h4⟩
theorem Pcs.upcs {w w1 : World} {base S : Nat} {vals : List Value} {ls : List (List Int)} (h : Pcs w base vals ls) (hs : UpCS base S w w1) (hv : ∀ (i : Nat) (v : Value) (q : Nat), vals[i]? = some v → v.ownBlock = some q → q < S) : Pcs w1 base vals ls :=
  ⟨h.len, fun i v l hv1 hl => own_upcs (h.own i v l hv1 hl) hs (fun q hq => hv i v q hv1 hq), h.apart⟩

set_option maxRecDepth 100000 in
set_option maxHeartbeats 2000000 in
/-- the iterator of bpe.All -/
theorem all_iters (A A' : Option Addr) (n m c c' : Nat) (bs : List Int) (ps : List (Int × Int)) (B b nf : Nat) (w : World) (hv : Voc w A A' n m bs ps) (hwf : Wf bs ps) (hbx : Blk w b #[.slice A n c, .slice A' m c'] 25) (hn : 1 ≤ nf) :
    IterS Try.prog B 41 #[.pointer (some ⟨b, 0, none⟩)] Unlike (GivesS B (toks bs ps)) (toks bs ps).length nf w := by
  intro l J0 J Jx W hW hB hJ0 hJs hJ hY h0
  replace hv := hv.below hW
  have q0 := hbx.below hW
  refine callsIn_of_wp Try.func41 rfl trivial ?_ rfl
  simp only [Try.ntmps41, List.size_toArray, List.length_cons, List.length_nil, Nat.reduceAdd, Nat.reduceSub, Array.replicate_succ, Array.replicate_zero, List.push_toArray, List.append_toArray, List.nil_append, List.cons_append]
  have x0 : W.cell? ⟨b, 0, none⟩ = some (.slice A n c) := q0.cell _
  have x1 : W.cell? ⟨b, 1, none⟩ = some (.slice A' m c') := q0.cell _
  gi_wp2_with fail
  refine ⟨trivial, ?_⟩
  refine (callsIn_wide.2 (pieces_any A A' n m c c' bs ps W hv hwf)).mono ?_
  rintro e w1 ⟨hb, hp⟩
  clear x0 x1 q0
  cases hq : vocF bs ps with
  | none =>
    have ht : toks bs ps = [] := by unfold toks; rw [hq]; rfl
    rw [hq] at hp
    subst hp
    have HT := Lib.hid ht
    rw [ht] at hY
    have h1 := hJs _ [] (fun i j v u _ h => by simp at h) (hJ0 _ _ h0 hb)
    have HS1 := Lib.hid (rfl : w1.heap.size = w1.heap.size)
    generalize hSS : w1.heap.size = S0 at h1
    clear ht hq
    gi_wp2
    gi_loopw [8] (fun i wr => i = .int .i64 0 ∧ J (S0, []) 0 wr) (fun i _ => 1)
    case atStart => exact ⟨rfl, h1⟩
    case round =>
      obtain ⟨rfl, h2⟩ := hrel
      gi_wp2
      go_end0
      exact ⟨⟨_, rfl⟩, .inl ⟨(S0, []), by rw [HT.out]; exact h2⟩⟩
  | some ls =>
    have ht : toks bs ps = ls := by unfold toks; rw [hq]; rfl
    have hT := toks_of hq
    have h1 := hT.len
    have h2 := hT.n64
    have hlb : ls.length ≤ 64 := by omega
    rw [hq] at hp
    obtain ⟨g, cap, vals, rfl, ho, hp⟩ := hp
    have HT := Lib.hid ht
    rw [ht] at hY
    have h3 := hJs _ vals hp.apart (hJ0 _ _ h0 hb)
    have hgl := (own_lt ho g rfl).2
    have hpl : ∀ (i : Nat) (v : Value) (q : Nat), vals[i]? = some v → v.ownBlock = some q → q < w1.heap.size := fun i v q hv hq => by
      have hi := (List.getElem?_eq_some_iff.1 hv).1
      have hl := hp.len
      exact (own_lt (hp.own i v (ls[i]'(by omega)) hv (List.getElem?_eq_getElem (by omega))) q hq).2
    clear ht hq h1 h2
    replace ho := own_base (base' := B) ho hB
    replace hp := hp.base (base' := B) hB
    obtain ⟨S0, hS0⟩ : ∃ S0, S0 = w1.heap.size := ⟨_, rfl⟩
    rw [← hS0] at h3 hgl hpl
    have HPL := Lib.hid hpl
    clear hS0 hpl
    gi_wp2
    gi_loopw [8] (fun i wr => ∃ k : Nat, k ≤ ls.length ∧ i = .int .i64 (k : Int) ∧ J (S0, vals) k wr ∧ wr.ownsRow B 22 1 (.slice (some ⟨g, 0, none⟩) ls.length cap) ls.length vals ∧ Pcs wr B vals ls) (fun i _ => ls.length - (intOf i).toNat)
    case atStart => exact ⟨0, by omega, rfl, h3, ho, hp⟩
    case round =>
      clear h3 ho hp
      obtain ⟨k, hk, rfl, hj, ho, hp⟩ := hrel
      by_cases hlt : k < ls.length
      · obtain ⟨v, hv1, ov⟩ := hp.get k hlt
        have c3 := own_cell ho k _ hv1
        have ea2 : (⟨g, 0, none⟩ : Addr).add k = ⟨g, k, none⟩ := by simpa using addr_add g 0 k
        have ov' : wr.ownsRow B 5 1 v (tok ls k).length (B8 (tok ls k)) := ov
        obtain ⟨va, vc, rfl, _, _⟩ := own_rd ov'
        clear ov
        have ov := ov'
        obtain ⟨fn, tmps, assign, body, hy, hR⟩ := hY (S0, vals) k _ wr hj hlt ⟨_, rfl, hv1, ov, fun q hq => HPL.out k _ q hv1 hq⟩
        gi_wp2
        refine hR.mono ?_
        rintro e W3 (⟨rfl, hj3, hk3⟩ | ⟨rfl, hx3⟩)
        · gi_wp2
          go_roundw
          case rel => exact ⟨k + 1, by omega, by go_num, hj3, own_upcs ho hk3 (fun q hq => by cases hq; exact hgl), hp.upcs hk3 (fun i v q hv hq => HPL.out i v q hv hq)⟩
          case measure => simp [intOf]; omega
        · gi_wp2
          refine bodyPost_ret (results_none rfl _ _ _) rfl ?_
          exact ⟨⟨_, rfl⟩, .inr ⟨(S0, vals), k + 1, by rw [HT.out]; omega, hx3⟩⟩
      · obtain rfl : k = ls.length := by omega
        gi_wp2
        go_end0
        exact ⟨⟨_, rfl⟩, .inl ⟨(S0, vals), by rw [HT.out]; exact hj⟩⟩
end Go.Proofs.Ytobklhnechbpaaa
