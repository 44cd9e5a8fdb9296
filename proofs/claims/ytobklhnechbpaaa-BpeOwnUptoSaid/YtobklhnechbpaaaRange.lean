import Derived.Test.YtobklhnechbpaaaDecodesW
import Derived.RangeFuncNested
import Derived.RangeFuncCalls
import Derived.RangeFuncLeaves
/- A range over an iterator whose rounds are handed memory that the iterator has laid: what the body may read is said round by round. -/
namespace Go.Proofs.Ytobklhnechbpaaa
open Go.RowKit

/-- from A to A' nothing turns below B, and no block of cells -/
structure Sm (B : Nat) (A A' : World) : Prop where
  os : A'.os = A.os
  tape : A'.tape = A.tape
  output : A'.output = A.output
  size : A.heap.size ≤ A'.heap.size
  low : ∀ k : Nat, k < A.heap.size → k < B → A'.heap[k]? = A.heap[k]?
  rows : ∀ (k : Nat) (cs : Array Value) (t : TypeId) (fr : Nat × Nat), A.heap[k]? = some (Obj.cells cs t fr) → A'.heap[k]? = A.heap[k]?
theorem Sm.of_below {B : Nat} {A A' : World} (h : Below A.heap.size A A') : Sm B A A' :=
  ⟨h.os, h.tape, h.output, h.size, fun k hk _ => h.block k hk, fun k _ _ _ hk => h.block k (Array.getElem?_eq_some_iff.1 hk).1⟩
theorem Sm.putObj {B : Nat} {A : World} {l : Nat} {o : Obj} (o' : Obj) (hl : B ≤ l) (h : A.heap[l]? = some o) (ho : o.isCells = false) : Sm B A (A.putObj l o') := by
  refine ⟨rfl, rfl, rfl, by simp, fun k _ hk => World.putObj_heap_other (by omega), fun k cs t fr hk => World.putObj_heap_other ?_⟩
  rintro rfl
  rw [hk] at h
  cases h
  cases ho
theorem Sm.refl (B : Nat) (A : World) : Sm B A A := ⟨rfl, rfl, rfl, Nat.le_refl _, fun _ _ _ => rfl, fun _ _ _ _ _ => rfl⟩
theorem Sm.trans {B : Nat} {A A' A'' : World} (h : Sm B A A') (k : Sm B A' A'') : Sm B A A'' :=
  ⟨k.os.trans h.os, k.tape.trans h.tape, k.output.trans h.output, Nat.le_trans h.size k.size,
   fun i hi hb => (k.low i (Nat.lt_of_lt_of_le hi h.size) hb).trans (h.low i hi hb), fun i cs t fr hi => (k.rows i cs t fr ((h.rows i cs t fr hi).trans hi)).trans (h.rows i cs t fr hi)⟩
theorem Blk.sm {B : Nat} {w w' : World} {b : Nat} {cs : Array Value} {t : TypeId} (h : Blk w b cs t) (hs : Sm B w w') : Blk w' b cs t := (hs.rows b _ _ _ h).trans h
theorem cell_sm {B : Nat} {w w' : World} {p : Addr} {v : Value} (h : w.cell? p = some v) (hs : Sm B w w') : w'.cell? p = some v := by
  have h0 := h
  unfold World.cell? at h ⊢
  cases ho : w.heap[p.block]? with
  | none => simp [ho] at h
  | some o =>
    cases o with
    | cells cs t fr => rw [hs.rows _ _ _ _ ho]; exact h
    | _ => simp [ho] at h
theorem Rd.sm {B : Nat} {w w' : World} {A : Option Addr} {vs : List Value} (h : Rd w A vs) (hs : Sm B w w') : Rd w' A vs := by
  rcases h with rfl | ⟨b, o, e, hc⟩
  · exact .inl rfl
  · refine .inr ⟨b, o, e, fun i hi => ?_⟩
    have h1 := hc i hi
    rw [List.getElem?_eq_getElem hi] at h1 ⊢
    exact cell_sm h1 hs
theorem own_sm {B : Nat} {w w' : World} {base : Nat} {e : TypeId} {size n : Nat} {v : Value} {xs : List Value} (h : w.ownsRow base e size v n xs) (hs : Sm B w w') : w'.ownsRow base e size v n xs := by
  refine ⟨h.1, ?_⟩
  rcases h.2 with h | ⟨g, cap, cur, h1, h2, h3, h4⟩
  · exact .inl h
  · exact .inr ⟨g, cap, cur, h1, h2, (hs.rows g _ _ _ h3).trans h3, h4⟩
theorem Below.sm {n₀ B : Nat} {w W W' : World} (h : Below n₀ w W) (hn : n₀ ≤ B) (hw : n₀ ≤ w.heap.size) (hs : Sm B W W') : Below n₀ w W' :=
  ⟨hs.os.trans h.os, hs.tape.trans h.tape, hs.output.trans h.output, Nat.le_trans h.size hs.size, fun k hk => (hs.low k (by have := h.size; omega) (by omega)).trans (h.block k hk)⟩

/-- a round turns nothing that lay at B or beyond; of the loop's own book-keeping the iterator minds no more than that cells lie on -/
structure Up (B : Nat) (W W' : World) : Prop where
  size : W.heap.size ≤ W'.heap.size
  same : ∀ k : Nat, B ≤ k → k < W.heap.size → W'.heap[k]? = W.heap[k]?
structure UpC (B : Nat) (W W' : World) : Prop where
  size : W.heap.size ≤ W'.heap.size
  rows : ∀ (k : Nat) (cs : Array Value) (t : TypeId) (fr : Nat × Nat), B ≤ k → W.heap[k]? = some (Obj.cells cs t fr) → W'.heap[k]? = W.heap[k]?
theorem Up.c {B : Nat} {W W' : World} (h : Up B W W') : UpC B W W' := ⟨h.size, fun k _ _ _ hk hc => h.same k hk (Array.getElem?_eq_some_iff.1 hc).1⟩
theorem UpC.trans {B : Nat} {A A' A'' : World} (h : UpC B A A') (k : UpC B A' A'') : UpC B A A'' :=
  ⟨Nat.le_trans h.size k.size, fun i cs t fr hb hi => (k.rows i cs t fr hb ((h.rows i cs t fr hb hi).trans hi)).trans (h.rows i cs t fr hb hi)⟩
theorem Sm.c {B : Nat} {A A' : World} (h : Sm B A A') : UpC B A A' := ⟨h.size, fun k cs t fr _ hk => h.rows k cs t fr hk⟩
/-- what an iterator gives: in round k what X says, N rounds -/
def Iter (P : Program) (B : Nat) (gf : Nat) (lb : Array Value) (X : Nat → Array Value → World → Prop) (N : Nat) (n : Nat) (w : World) : Prop :=
  ∀ (l : Nat) (J Jx : Nat → World → Prop) (W : World), Below w.heap.size w W → B ≤ W.heap.size → (∀ k A A', J k A → Below A.heap.size A A' → J k A') →
    (∀ k args W1, J k W1 → k < N → X k args W1 → YieldAt Fence.wide (n - 1) P l args W1 fun e W' => (e = .returned (.bool true) ∧ J (k + 1) W' ∧ UpC B W1 W') ∨ (e = .returned (.bool false) ∧ Jx (k + 1) W')) →
    J 0 W →
    CallsIn Fence.wide n P gf (#[.func (.yield l) #[] #[]] ++ lb) W fun e W' => (∃ v, e = .returned v) ∧ (J N W' ∨ ∃ k, k ≤ N ∧ Jx k W')
/-- how a round's body may be left -/
def leftBy (B : Nat) (I : Nat → World → Prop) (Ix : Code → Nat → World → Prop) (k : Nat) (W : World) : Exit → Act → World → Prop
  | .normal, _, W' => Up B W W' ∧ I (k + 1) W'
  | .ret, _, W' => Up B W W' ∧ Ix .ret (k + 1) W'
  | .exit id, _, W' => Up B W W' ∧ Ix (.exit id) (k + 1) W'
  | .goto t, _, W' => Up B W W' ∧ Ix (.goto t) (k + 1) W'
  | .panic _, _, _ => False
  | .outgrown, _, _ => False

set_option maxHeartbeats 1000000 in
/-- the statement: the caller's own word -/
theorem range_it {P : Program} {n : Nat} {g : Operand} {ps : Array Tmp} {assign body : Code} {Q : Exit → Act → World → Prop} {a : Act} {w : World}
    {gf : Nat} {lb : Array Value} (hg : a.eval g = .func (.func gf) #[] lb) (eg : ∀ args w, (callFunc gf args).run P w = .ok (.enter gf args) w)
    {X : Nat → Array Value → World → Prop} {N : Nat} (hit : Iter P w.heap.size gf lb X N (n - 1) w)
    (hps : ∀ k args W, X k args W → args.size = ps.size) (hX : ∀ k args A A', X k args A → Sm w.heap.size A A' → X k args A')
    (I : Nat → World → Prop) (Ix : Code → Nat → World → Prop) (hI : ∀ k A A', I k A → Sm w.heap.size A A' → I k A') (hIx : ∀ c k A A', Ix c k A → Sm w.heap.size A A' → Ix c k A') (h0 : I 0 w) (a₁ : Array Value → Act)
    (hassign : ∀ (l k : Nat) (args : Array Value) (W : World) (K : Act → World → Prop), X k args W → K (a₁ args) W →
      assign.wpIn (Fence.wide.inRound l) (n - 1 - 1) P (Exit.then K (fun _ _ _ => False)) { tmps := (ps.zip args).foldl (fun t (p, v) => t.setIfInBounds p v) a.tmps, defers := [] } W)
    (hbody : ∀ (l k : Nat) (args : Array Value) (W : World), I k W → X k args W → k < N → w.heap.size ≤ W.heap.size → body.wpIn (Fence.wide.inRound l) (n - 1 - 1) P (leftBy w.heap.size I Ix k W) (a₁ args) W)
    (hdone : ∀ (D : Nat) (W : World), w.heap.size ≤ D → I N W → W.heap[D]? = some (.deferred (some [])) → Q .normal { a with defers := { target := .collected D, args := #[] } :: a.defers } W)
    (hstop : ∀ (D : Nat) (c : Code) (k : Nat) (W : World), w.heap.size ≤ D → k ≤ N → Ix c k W → W.heap[D]? = some (.deferred (some [])) → c.wpIn Fence.wide n P Q { a with defers := { target := .collected D, args := #[] } :: a.defers } W) :
    (Code.rangeFunc g ps assign body).wpIn Fence.wide n P Q a w := by
  refine wpIn_rangeFunc fun fn hfn => ?_
  obtain ⟨rec, hrec⟩ : ∃ rec : LoopState → Option Code → Loop, rec = fun st pe => { state := st, pending := pe, fn, tmps := a.tmps, params := ps, assign, body, defers := w.heap.size } := ⟨_, rfl⟩
  have b1 : Below w.heap.size w ((w.alloc (.deferred (some []))).alloc (.loop (rec .ready none))) := ((Below.refl _ w).alloc (Nat.le_refl _) _).alloc (by simp) _
  have L1 : ((w.alloc (.deferred (some []))).alloc (.loop (rec .ready none))).heap[w.heap.size + 1]? = some (.loop (rec .ready none)) := by
    have := World.alloc_heap_new (w.alloc (.deferred (some []))) (.loop (rec .ready none))
    rwa [World.size_alloc] at this
  have D1 : ((w.alloc (.deferred (some []))).alloc (.loop (rec .ready none))).heap[w.heap.size]? = some (.deferred (some [])) := (Below.heap_alloc _ _ _ (by simp)).trans (World.alloc_heap_new w _)
  have sz : w.heap.size ≤ ((w.alloc (.deferred (some []))).alloc (.loop (rec .ready none))).heap.size := b1.size
  refine ⟨w.heap.size + 1, [{ target := .collected w.heap.size, args := #[] }], (w.alloc (.deferred (some []))).alloc (.loop (rec .ready none)), { target := .fn (.func gf) lb, args := #[.func (.yield (w.heap.size + 1)) #[] #[]] }, (w.alloc (.deferred (some []))).alloc (.loop (rec .ready none)), gf,
    #[.func (.yield (w.heap.size + 1)) #[] #[]] ++ lb, (w.alloc (.deferred (some []))).alloc (.loop (rec .ready none)), by rw [hrec]; exact run_enterLoop_outer _ _ _ _ _, by simp only [resolve, hg]; simp [go_sem], fun _ _ => trivial, by simp [invoke, go_sem, eg], fun h => by simp [Fence.wide] at h, ?_⟩
  have I1 : I 0 ((w.alloc (.deferred (some []))).alloc (.loop (rec .ready none))) := hI _ _ _ h0 (Sm.of_below b1)
  generalize (w.alloc (.deferred (some []))).alloc (.loop (rec .ready none)) = W1 at *
  refine (hit (w.heap.size + 1) (fun k W => I k W ∧ W.heap[w.heap.size + 1]? = some (.loop (rec .ready none)) ∧ W.heap[w.heap.size]? = some (.deferred (some [])))
    (fun k W => ∃ c, Ix c k W ∧ W.heap[w.heap.size + 1]? = some (.loop (rec .done (some c))) ∧ W.heap[w.heap.size]? = some (.deferred (some []))) W1 b1 sz
    (fun k A A' h hb => ⟨hI _ _ _ h.1 (Sm.of_below hb), (hb.block _ (Array.getElem?_eq_some_iff.1 h.2.1).1).trans h.2.1, (hb.block _ (Array.getElem?_eq_some_iff.1 h.2.2).1).trans h.2.2⟩) ?_ ⟨I1, L1, D1⟩).mono ?_
  · rintro k args W ⟨hi, hl, hd⟩ hk hx
    have hy := run_yield (P := P) (args := args) hl (by rw [hrec]; exact hps _ _ _ hx)
    rw [hrec] at hy
    have hlt : w.heap.size + 1 < W.heap.size := (Array.getElem?_eq_some_iff.1 hl).1
    refine ⟨fn, _, assign, body, hy, roundIn_of_wpIn hfn (hassign _ k args W _ hx ⟨_, run_beginRound hl (by rw [hrec]), ?_⟩)⟩
    have s2 : Sm w.heap.size W (W.putObj (w.heap.size + 1) (.loop { rec .ready none with state := .busy })) := Sm.putObj _ (by omega) hl rfl
    have hl2 : (W.putObj (w.heap.size + 1) (.loop { rec .ready none with state := .busy })).heap[w.heap.size + 1]? = some (.loop { rec .ready none with state := .busy }) := World.putObj_heap_same hlt
    have hd2 : (W.putObj (w.heap.size + 1) (.loop { rec .ready none with state := .busy })).heap[w.heap.size]? = some (.deferred (some [])) := (World.putObj_heap_other (by omega)).trans hd
    refine wpIn_mono (hbody _ k args _ (hI _ _ _ hi s2) (hX _ _ _ _ hx s2) hk (by simp; omega)) ?_
    generalize W.putObj (w.heap.size + 1) (.loop { rec .ready none with state := .busy }) = W2 at *
    have hz2 : w.heap.size + 1 < W2.heap.size := (Array.getElem?_eq_some_iff.1 hl2).1
    have fin : ∀ (jump : Option Code) (W3 : World), Up w.heap.size W2 W3 → (Instr.endRound (w.heap.size + 1) jump).run P W3 = .ok (.bool jump.isNone) (W3.putObj (w.heap.size + 1) (.loop (rec (if jump.isNone then .ready else .done) jump))) ∧
        Sm w.heap.size W3 (W3.putObj (w.heap.size + 1) (.loop (rec (if jump.isNone then .ready else .done) jump))) ∧ (W3.putObj (w.heap.size + 1) (.loop (rec (if jump.isNone then .ready else .done) jump))).heap[w.heap.size + 1]? = some (.loop (rec (if jump.isNone then .ready else .done) jump)) ∧
        (W3.putObj (w.heap.size + 1) (.loop (rec (if jump.isNone then .ready else .done) jump))).heap[w.heap.size]? = some (.deferred (some [])) := fun jump W3 hu => by
      have h3 := (hu.same _ (by omega) hz2).trans hl2
      have d3 := (hu.same _ (Nat.le_refl _) (by omega)).trans hd2
      have := run_endRound (P := P) jump h3
      rw [hrec] at this ⊢
      exact ⟨this, Sm.putObj _ (by omega) h3 rfl, World.putObj_heap_same (Array.getElem?_eq_some_iff.1 h3).1, (World.putObj_heap_other (by omega)).trans d3⟩
    rintro e a3 W3 hp
    cases e with
    | normal =>
      obtain ⟨r1, r2, r3, r4⟩ := fin none W3 hp.1
      exact ⟨_, _, r1, .inl ⟨rfl, ⟨hI _ _ _ hp.2 r2, r3, r4⟩, (s2.c.trans hp.1.c).trans r2.c⟩⟩
    | ret =>
      obtain ⟨r1, r2, r3, r4⟩ := fin (some .ret) W3 hp.1
      exact ⟨_, _, r1, .inr ⟨rfl, _, hIx _ _ _ _ hp.2 r2, r3, r4⟩⟩
    | exit id =>
      obtain ⟨r1, r2, r3, r4⟩ := fin (some (.exit id)) W3 hp.1
      exact ⟨_, _, r1, .inr ⟨rfl, _, hIx _ _ _ _ hp.2 r2, r3, r4⟩⟩
    | goto t =>
      obtain ⟨r1, r2, r3, r4⟩ := fin (some (.goto t)) W3 hp.1
      exact ⟨_, _, r1, .inr ⟨rfl, _, hIx _ _ _ _ hp.2 r2, r3, r4⟩⟩
    | panic ch => exact hp.elim
    | outgrown => exact hp.elim
  · rintro e W2 ⟨⟨v, rfl⟩, (⟨hi, hl, hd⟩ | ⟨k, hk, c, hi, hl, hd⟩)⟩
    · have s2 : Sm w.heap.size W2 (W2.putObj (w.heap.size + 1) (.loop { rec .ready none with state := .exhausted })) := Sm.putObj _ (by omega) hl rfl
      exact ⟨none, _, by have := run_endLoop (P := P) hl (by rw [hrec]; simp); rw [hrec] at this ⊢; exact this, hdone _ _ (Nat.le_refl _) (hI _ _ _ hi s2) ((World.putObj_heap_other (by omega)).trans hd)⟩
    · have s2 : Sm w.heap.size W2 (W2.putObj (w.heap.size + 1) (.loop { rec .done (some c) with state := .exhausted })) := Sm.putObj _ (by omega) hl rfl
      exact ⟨some c, _, by have := run_endLoop (P := P) hl (by rw [hrec]; simp); rw [hrec] at this ⊢; exact this, hstop _ c k _ (Nat.le_refl _) hk (hIx _ _ _ _ hi s2) ((World.putObj_heap_other (by omega)).trans hd)⟩
end Go.Proofs.Ytobklhnechbpaaa
