import Derived.Test.YtobklhnechbpaaaApW
import Derived.Test.YtobklhnechbpaaaREncK
import Derived.Test.YtobklhnechbpaaaRoundW
/- What vocabAnew keeps while a vocabulary and tokens are written over where they lie. -/
namespace Go.Proofs.Ytobklhnechbpaaa
open Go.RowKit
theorem bth {B : Nat} {w w1 w2 : World} (h : Below B w w1) (hB : B ≤ w.heap.size) (h2 : Below w1.heap.size w1 w2) : Below B w w2 := h.trans (h2.mono (Nat.le_trans hB h.size))
/-- range_it, the two variables in slots d and d2 -/
theorem range_it2 (d d2 : Nat) {P : Program} {n : Nat} {g : Operand} {ps : Array Tmp} {assign body : Code} {Q : Exit → Act → World → Prop} {a : Act} {w : World}
    {gf : Nat} {lb : Array Value} (hg : a.eval g = .func (.func gf) #[] lb) (eg : ∀ args w, (callFunc gf args).run P w = .ok (.enter gf args) w)
    {X : Nat → Array Value → World → Prop} {N : Nat} (hit : Iter P w.heap.size gf lb X N (n - 1) w)
    (hps : ∀ k args W, X k args W → args.size = ps.size) (hX : ∀ k args A A', X k args A → Sm w.heap.size A A' → X k args A')
    (I : Nat → World → Prop) (Ix : Code → Nat → World → Prop) (hI : ∀ k A A', I k A → Sm w.heap.size A A' → I k A') (hIx : ∀ c k A A', Ix c k A → Sm w.heap.size A A' → Ix c k A') (h0 : I 0 w)
    (hassign : ∀ (l k : Nat) (args : Array Value) (W : World) (K : Act → World → Prop), X k args W → K ({ tmps := (((ps.zip args).foldl (fun t (p, v) => t.setIfInBounds p v) a.tmps).setIfInBounds d (args.getD 0 undef)).setIfInBounds d2 (args.getD 1 undef), defers := [] } : Act) W →
      assign.wpIn (Fence.wide.inRound l) (n - 1 - 1) P (Exit.then K (fun _ _ _ => False)) { tmps := (ps.zip args).foldl (fun t (p, v) => t.setIfInBounds p v) a.tmps, defers := [] } W)
    (hbody : ∀ (l k : Nat) (args : Array Value) (W : World), I k W → X k args W → k < N → w.heap.size ≤ W.heap.size → body.wpIn (Fence.wide.inRound l) (n - 1 - 1) P (leftBy w.heap.size I Ix k W) ({ tmps := (((ps.zip args).foldl (fun t (p, v) => t.setIfInBounds p v) a.tmps).setIfInBounds d (args.getD 0 undef)).setIfInBounds d2 (args.getD 1 undef), defers := [] } : Act) W)
    (hdone : ∀ (D : Nat) (W : World), w.heap.size ≤ D → I N W → W.heap[D]? = some (.deferred (some [])) → Q .normal { a with defers := { target := .collected D, args := #[] } :: a.defers } W)
    (hstop : ∀ (D : Nat) (c : Code) (k : Nat) (W : World), w.heap.size ≤ D → k ≤ N → Ix c k W → W.heap[D]? = some (.deferred (some [])) → c.wpIn Fence.wide n P Q { a with defers := { target := .collected D, args := #[] } :: a.defers } W) :
    (Code.rangeFunc g ps assign body).wpIn Fence.wide n P Q a w :=
  range_it hg eg hit hps hX I Ix hI hIx h0 (fun args => ({ tmps := (((ps.zip args).foldl (fun t (p, v) => t.setIfInBounds p v) a.tmps).setIfInBounds d (args.getD 0 undef)).setIfInBounds d2 (args.getD 1 undef), defers := [] } : Act)) hassign hbody hdone hstop

theorem Kp.sm {S : Nat → Prop} {B' : Nat} {w w1 w2 : World} (h : Kp S w w1) (hB : w.heap.size ≤ B') (hs : Sm B' w1 w2) : Kp S w w2 :=
  ⟨hs.os.trans h.os, hs.tape.trans h.tape, hs.output.trans h.output, Nat.le_trans h.size hs.size, fun k hk hn => (hs.low k (by have := h.size; omega) (by omega)).trans (h.block k hk hn)⟩
theorem Kp.drew {S : Nat → Prop} {w w1 : World} (h : Kp S w w1) : Kp S w w1.drew := ⟨h.os, h.tape, h.output, h.size, h.block⟩
/-- the vocabulary's box, the answer's cell, the vocabulary's lists and the tokens, each its own memory -/
structure An (B X : Nat) (w0 w : World) (A A' T : Option Addr) (n m t c c' ct : Nat) (bs : List Int) (ps : List (Int × Int)) (l : List Int) : Prop where
  hB : B ≤ w0.heap.size
  hX : B ≤ X
  lA : bs.length = n
  lP : ps.length = m
  lT : l.length = t
  b1 : n * 1 ≤ 140737488355328
  b2 : m * 16 ≤ 140737488355328
  wf : Wf bs ps
  q0 : Blk w X #[.slice A n c, .slice A' m c'] 25
  q4 : Blk w (X + 1) #[.bool false] 4
  oA : w.ownsRow B 5 1 (.slice A n c) n (B8 bs)
  oP : w.ownsRow B 51 2 (.slice A' m c') m (PR ps)
  oT : w.ownsRow B 3 1 (.slice T t ct) t (I64 l)
  hb : Kp (fun z => (Value.slice A n c).ownBlock = some z ∨ (Value.slice T t ct).ownBlock = some z) w0 w
section
variable {B X : Nat} {w0 w w' : World} {A A' T : Option Addr} {n m t c c' ct : Nat} {bs : List Int} {ps : List (Int × Int)} {l : List Int}
theorem An.voc (h : An B X w0 w A A' T n m t c c' ct bs ps l) : Voc w A A' n m bs ps := ⟨h.lA, h.lP, h.b1, h.b2, own_rdA h.oA, own_rdA h.oP⟩
theorem An.rT (h : An B X w0 w A A' T n m t c c' ct bs ps l) : Rd w T (I64 l) := own_rdA h.oT
theorem An.x0 (h : An B X w0 w A A' T n m t c c' ct bs ps l) : w.cell? ⟨X, 0, none⟩ = some (.slice A n c) := h.q0.cell _
theorem An.x1 (h : An B X w0 w A A' T n m t c c' ct bs ps l) : w.cell? ⟨X, 1, none⟩ = some (.slice A' m c') := h.q0.cell _
theorem An.below (h : An B X w0 w A A' T n m t c c' ct bs ps l) (hb : Below w.heap.size w w') : An B X w0 w' A A' T n m t c c' ct bs ps l :=
  ⟨h.hB, h.hX, h.lA, h.lP, h.lT, h.b1, h.b2, h.wf, h.q0.below hb, h.q4.below hb, own_below h.oA hb, own_below h.oP hb, own_below h.oT hb, h.hb.below hb⟩
theorem An.sm {B' : Nat} (h : An B X w0 w A A' T n m t c c' ct bs ps l) (hB : w0.heap.size ≤ B') (hs : Sm B' w w') : An B X w0 w' A A' T n m t c c' ct bs ps l :=
  ⟨h.hB, h.hX, h.lA, h.lP, h.lT, h.b1, h.b2, h.wf, h.q0.sm hs, h.q4.sm hs, own_sm h.oA hs, own_sm h.oP hs, own_sm h.oT hs, h.hb.sm hB hs⟩
theorem An.drew (h : An B X w0 w A A' T n m t c c' ct bs ps l) : An B X w0 w.drew A A' T n m t c c' ct bs ps l :=
  ⟨h.hB, h.hX, h.lA, h.lP, h.lT, h.b1, h.b2, h.wf, h.q0.drew, h.q4.drew, h.oA, h.oP, h.oT, h.hb.drew⟩
theorem ne_of {g n c : Nat} {v : Value} (h : (Value.slice (some ⟨g, 0, none⟩) n c).ownBlock = none ∨ (Value.slice (some ⟨g, 0, none⟩) n c).ownBlock ≠ v.ownBlock) : some g ≠ v.ownBlock := by
  rcases h with h | h
  · cases h
  · exact h
theorem An.setA {g : Nat} (h : An B X w0 w (some ⟨g, 0, none⟩) A' T n m t c c' ct bs ps l) (i : Nat) (x : Int) (hx : (Lit.int .u8 x).wf = true) : An B X w0 (w.setCell ⟨g, i, none⟩ (.int .u8 x)) (some ⟨g, 0, none⟩) A' T n m t c c' ct (bs.set i x) ps l := by
  have hst := World.ownsRow.stored h.oA i (.int .u8 x)
  refine ⟨h.hB, h.hX, by simpa using h.lA, h.lP, h.lT, h.b1, h.b2, ⟨fun b hb => ?_, h.wf.p⟩, h.q0.other _ _ (fun e => h.q0.not_row (by decide) h.oA (by rw [e]; rfl)), h.q4.other _ _ (fun e => h.q4.not_row (by decide) h.oA (by rw [e]; rfl)), ?_, own_set_other h.oP g i _ (ne_of (own_type_ne h.oA h.oP (by decide))), own_set_other h.oT g i _ (ne_of (own_type_ne h.oA h.oT (by decide))), h.hb.set g i _ (fun _ => .inl rfl)⟩
  · rcases List.mem_or_eq_of_mem_set hb with h1 | rfl
    · exact h.wf.b b h1
    · exact hx
  · rw [B8_set]; exact hst.1
theorem An.setT {g : Nat} (h : An B X w0 w A A' (some ⟨g, 0, none⟩) n m t c c' ct bs ps l) (i : Nat) (x : Int) : An B X w0 (w.setCell ⟨g, i, none⟩ (.int .i64 x)) A A' (some ⟨g, 0, none⟩) n m t c c' ct bs ps (l.set i x) := by
  have hst := World.ownsRow.stored h.oT i (.int .i64 x)
  refine ⟨h.hB, h.hX, h.lA, h.lP, by simpa using h.lT, h.b1, h.b2, h.wf, h.q0.other _ _ (fun e => h.q0.not_row (by decide) h.oT (by rw [e]; rfl)), h.q4.other _ _ (fun e => h.q4.not_row (by decide) h.oT (by rw [e]; rfl)), own_set_other h.oA g i _ (ne_of (own_type_ne h.oT h.oA (by decide))), own_set_other h.oP g i _ (ne_of (own_type_ne h.oT h.oP (by decide))), ?_, h.hb.set g i _ (fun _ => .inr rfl)⟩
  rw [I64_set]; exact hst.1
theorem An.cA {g : Nat} (h : An B X w0 w (some ⟨g, 0, none⟩) A' T n m t c c' ct bs ps l) (i : Nat) (hi : i < bs.length) : w.cell? ⟨g, i, none⟩ = some (.int .u8 bs[i]) := by
  obtain ⟨g2, o2, he, hy⟩ := h.voc.hx.b8 i hi
  injection he with he
  injection he with e1 e2
  subst e1 e2
  rwa [Nat.zero_add] at hy
theorem An.cT {g : Nat} (h : An B X w0 w A A' (some ⟨g, 0, none⟩) n m t c c' ct bs ps l) (i : Nat) (hi : i < l.length) : w.cell? ⟨g, i, none⟩ = some (.int .i64 l[i]) := by
  obtain ⟨g2, o2, he, hy⟩ := h.rT.i64 i hi
  injection he with he
  injection he with e1 e2
  subst e1 e2
  rwa [Nat.zero_add] at hy
theorem An.fA {g : Nat} (h : An B X w0 w (some ⟨g, 0, none⟩) A' T n m t c c' ct bs ps l) (i : Nat) : w.frozen? ⟨g, i, none⟩ = false := World.ownsRow.frozenAt h.oA i
theorem An.fT {g : Nat} (h : An B X w0 w A A' (some ⟨g, 0, none⟩) n m t c c' ct bs ps l) (i : Nat) : w.frozen? ⟨g, i, none⟩ = false := World.ownsRow.frozenAt h.oT i
theorem own_addr {w : World} {base : Nat} {e : TypeId} {size n c : Nat} {A : Option Addr} {xs : List Value} (h : w.ownsRow base e size (.slice A n c) n xs) (hn : 0 < n) : ∃ g, A = some ⟨g, 0, none⟩ := by
  obtain ⟨g, cap, he⟩ := own_some h hn
  injection he with he _ _
  exact ⟨g, he⟩
end
/-- a copy in a box of its own -/
structure Ow (B Y : Nat) (w : World) (C C' : Option Addr) (n m d d' : Nat) (bs : List Int) (ps : List (Int × Int)) : Prop where
  q8 : Blk w Y #[.slice C n d, .slice C' m d'] 25
  oC : w.ownsRow B 5 1 (.slice C n d) n (B8 bs)
  oQ : w.ownsRow B 51 2 (.slice C' m d') m (PR ps)
section
variable {B Y : Nat} {w w' : World} {C C' : Option Addr} {n m d d' : Nat} {bs : List Int} {ps : List (Int × Int)}
theorem Ow.below (h : Ow B Y w C C' n m d d' bs ps) (hb : Below w.heap.size w w') : Ow B Y w' C C' n m d d' bs ps := ⟨h.q8.below hb, own_below h.oC hb, own_below h.oQ hb⟩
theorem Ow.sm {B' : Nat} (h : Ow B Y w C C' n m d d' bs ps) (hs : Sm B' w w') : Ow B Y w' C C' n m d d' bs ps := ⟨h.q8.sm hs, own_sm h.oC hs, own_sm h.oQ hs⟩
theorem Ow.x0 (h : Ow B Y w C C' n m d d' bs ps) : w.cell? ⟨Y, 0, none⟩ = some (.slice C n d) := h.q8.cell _
theorem Ow.x1 (h : Ow B Y w C C' n m d d' bs ps) : w.cell? ⟨Y, 1, none⟩ = some (.slice C' m d') := h.q8.cell _
theorem Ow.voc {w0 : World} {A A' : Option Addr} (h : Ow B Y w C C' n m d d' bs ps) (hv : Voc w0 A A' n m bs ps) : Voc w C C' n m bs ps := voc_of_rows hv h.oC h.oQ
/-- tokens are written -/
theorem Ow.setT {b g t ct i : Nat} {l : List Int} {x : Int} (h : Ow B Y w C C' n m d d' bs ps) (oT : w.ownsRow b 3 1 (.slice (some ⟨g, 0, none⟩) t ct) t (I64 l)) : Ow B Y (w.setCell ⟨g, i, none⟩ (.int .i64 x)) C C' n m d d' bs ps :=
  ⟨h.q8.other _ _ (fun e => h.q8.not_row (by decide) oT (by rw [e]; rfl)), own_set_other h.oC g i _ (ne_of (own_type_ne oT h.oC (by decide))), own_set_other h.oQ g i _ (ne_of (own_type_ne oT h.oQ (by decide)))⟩
end
end Go.Proofs.Ytobklhnechbpaaa
