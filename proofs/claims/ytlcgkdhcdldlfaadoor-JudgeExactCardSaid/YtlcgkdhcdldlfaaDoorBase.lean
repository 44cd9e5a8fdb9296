import Derived.Test.YtlcgkdhcdldlfaaDoorRows
import Derived.WalkKit
import Derived.Handy
import Derived.Outline
import Derived.Lib.Hide
import Derived.BigQuiet
import Derived.Deep.QuietTactic
import Derived.Deep.RegionHeld3
import Derived.Maps.AppendAt
import Derived.Deep.AppendLies
import Derived.Deep.RegionLaw
import Derived.Maps.Own
import Derived.Maps.OwnSet
import Derived.DeepKeys4
namespace Go.Proofs.YtlcgkdhcdldlfaaDoor
open Go.RowKit Go.Maps

theorem bthen {w w1 w2 : World} (h : Below w.heap.size w w1) (k : Below w1.heap.size w1 w2) : Below w.heap.size w w2 := h.trans (k.mono h.size)

theorem bdraw {w w1 : World} (h : Below w.heap.size w w1) (n : Nat) : Below w.heap.size w (w1.drewN n) := ⟨h.os, h.tape, h.output, h.size, h.block⟩

theorem ret_bool {a b : Bool} (h : a = b) : Ending.returned (.bool a) = .returned (.bool b) := by rw [h]

theorem addr_add (b o n : Nat) : (⟨b, o, none⟩ : Addr).add n = ⟨b, o + n, none⟩ := by
  unfold Addr.add
  split <;> simp_all

/-- a slice's cells, as they are read -/
def Rd (w : World) (A : Option Addr) (vs : List Value) : Prop := vs = [] ∨ ∃ b o, A = some ⟨b, o, none⟩ ∧ ∀ i, i < vs.length → w.cell? ⟨b, o + i, none⟩ = vs[i]?

theorem Rd.at {w : World} {A : Option Addr} {vs : List Value} (h : Rd w A vs) (i : Nat) (hi : i < vs.length) : ∃ b o, A = some ⟨b, o, none⟩ ∧ w.cell? ⟨b, o + i, none⟩ = some vs[i] := by
  rcases h with rfl | ⟨b, o, e, hc⟩
  · simp at hi
  · exact ⟨b, o, e, by rw [hc i hi, List.getElem?_eq_getElem hi]⟩

theorem Rd.below {w w' : World} {A : Option Addr} {vs : List Value} (h : Rd w A vs) (hb : Below w.heap.size w w') : Rd w' A vs := by
  rcases h with rfl | ⟨b, o, e, hc⟩
  · exact .inl rfl
  · refine .inr ⟨b, o, e, fun i hi => ?_⟩
    have h1 := hc i hi
    rw [List.getElem?_eq_getElem hi] at h1
    rw [List.getElem?_eq_getElem hi, ← h1]
    exact hb.cell (p := ⟨b, o + i, none⟩) (World.block_lt_of_cell? w _ h1)

def I64 (xs : List Int) : List Value := xs.map (Value.int .i64)

theorem I64_length (xs : List Int) : (I64 xs).length = xs.length := by simp [I64]

theorem Rd.i64 {w : World} {A : Option Addr} {xs : List Int} (h : Rd w A (I64 xs)) (i : Nat) (hi : i < xs.length) : ∃ b o, A = some ⟨b, o, none⟩ ∧ w.cell? ⟨b, o + i, none⟩ = some (.int .i64 xs[i]) := by
  obtain ⟨b, o, e, hc⟩ := h.at i (by rw [I64_length]; exact hi)
  exact ⟨b, o, e, by rw [hc]; simp [I64]⟩

theorem own_rd {w : World} {base : Nat} {e : TypeId} {size n : Nat} {v : Value} {xs : List Value} (h : w.ownsRow base e size v n xs) : ∃ A c, v = .slice A n c ∧ n ≤ c ∧ Rd w A xs := by
  rcases h.2 with ⟨rfl, rfl⟩ | ⟨g, cap, cur, rfl, _, hh, h1, _, hc, ht⟩
  · refine ⟨none, 0, rfl, Nat.le_refl _, .inl ?_⟩
    have := h.1
    simpa using this
  · refine ⟨_, cap, rfl, h1, .inr ⟨g, 0, rfl, fun i hi => ?_⟩⟩
    rw [Nat.zero_add]
    have hl := h.1
    simp only [World.cell?, hh]
    rw [← ht, List.getElem?_take_of_lt (by omega)]
    simp

theorem I64_snoc (xs : List Int) (x : Int) : I64 xs ++ [Value.int .i64 x] = I64 (xs ++ [x]) := by simp [I64]

/-- a block that is known whole -/
def Blk (w : World) (b : Nat) (cs : Array Value) (t : TypeId) : Prop := w.heap[b]? = some (.cells cs t (0, 0))

theorem Blk.lt {w : World} {b : Nat} {cs : Array Value} {t : TypeId} (h : Blk w b cs t) : b < w.heap.size := (Array.getElem?_eq_some_iff.1 h).1

theorem Blk.cell {w : World} {b : Nat} {cs : Array Value} {t : TypeId} (h : Blk w b cs t) (i : Nat) : w.cell? ⟨b, i, none⟩ = cs[i]? := by simp [World.cell?, show w.heap[b]? = _ from h]

theorem Blk.frozen {w : World} {b : Nat} {cs : Array Value} {t : TypeId} (h : Blk w b cs t) (i : Nat) : w.frozen? ⟨b, i, none⟩ = false := by simp [World.frozen?, show w.heap[b]? = _ from h]

theorem Blk.new (w : World) (cs : Array Value) (t : TypeId) : Blk (w.alloc (.cells cs t)) w.heap.size cs t := (MapKept.heap_alloc w _).1

theorem Blk.kept {w w' : World} {row : Option Nat} {b : Nat} {cs : Array Value} {t : TypeId} (h : Blk w b cs t) (hg : w.grownBy w' row) (hne : some b ≠ row) : Blk w' b cs t := (hg.block b h.lt hne).trans h

theorem Blk.alloc {w : World} {b : Nat} {cs : Array Value} {t : TypeId} (h : Blk w b cs t) (o : Obj) : Blk (w.alloc o) b cs t := h.kept (World.grownBy_alloc w o none) (by simp)

theorem Blk.drew {w : World} {b : Nat} {cs : Array Value} {t : TypeId} (h : Blk w b cs t) : Blk w.drew b cs t := h

theorem Blk.below {w w' : World} {b : Nat} {cs : Array Value} {t : TypeId} (h : Blk w b cs t) (hb : Below w.heap.size w w') : Blk w' b cs t := (hb.block b h.lt).trans h

theorem Blk.other {w : World} {b : Nat} {cs : Array Value} {t : TypeId} (h : Blk w b cs t) (a : Addr) (u : Value) (hne : b ≠ a.block) : Blk (w.setCell a u) b cs t := (Below.heap_setCell w a u b hne).trans h

theorem Blk.set {w : World} {b : Nat} {cs : Array Value} {t : TypeId} (h : Blk w b cs t) (i : Nat) (u : Value) : Blk (w.setCell ⟨b, i, none⟩ u) b (cs.setIfInBounds i u) t := by
  obtain ⟨hlt, hk⟩ := Array.getElem?_eq_some_iff.1 h
  show (w.heap.modify b _)[b]? = _
  rw [Array.getElem?_eq_getElem (by rw [Array.size_modify]; exact hlt), Array.getElem_modify_self, hk]
  rfl

/-- a block of another type is not the row's own -/
theorem Blk.not_row {w : World} {b : Nat} {cs : Array Value} {t e : TypeId} (h : Blk w b cs t) (hte : t ≠ e) {base size n : Nat} {v : Value} {xs : List Value} (hr : w.ownsRow base e size v n xs) : some b ≠ v.ownBlock := by
  rcases hr.2 with ⟨rfl, _⟩ | ⟨g, cap, cur, rfl, _, hg, _⟩
  · simp [Value.ownBlock]
  · intro he
    have : b = g := by simpa [Value.ownBlock] using he
    subst this
    rw [show w.heap[b]? = _ from h] at hg
    injection hg with hg
    injection hg with _ ht
    exact hte ht

theorem own_set_other {w : World} {base : Nat} {e : TypeId} {size : Nat} {v : Value} {n : Nat} {xs : List Value} (h : w.ownsRow base e size v n xs) (b i : Nat) (u : Value) (hne : some b ≠ v.ownBlock) : (w.setCell ⟨b, i, none⟩ u).ownsRow base e size v n xs := by
  refine h.kept (row := some b) ⟨rfl, rfl, rfl, by simp, fun k _ hk => Below.heap_setCell _ _ _ k (fun e => hk (by rw [e]))⟩ ?_
  cases hv : v.ownBlock with
  | none => exact .inl rfl
  | some q => exact .inr (fun he => hne (by rw [hv, ← he]))

theorem own_kept_drew {w w1 : World} {row : Option Nat} {base : Nat} {e : TypeId} {size n : Nat} {v : Value} {xs : List Value} (h : w.ownsRow base e size v n xs) (hg : w.drew.grownBy w1 row) (hn : v.ownBlock = none ∨ v.ownBlock ≠ row) : w1.ownsRow base e size v n xs :=
  World.ownsRow.kept (w := w.drew) h hg hn

theorem own_below {w w1 : World} {base : Nat} {e : TypeId} {size n : Nat} {v : Value} {xs : List Value} (h : w.ownsRow base e size v n xs) (hb : Below w.heap.size w w1) : w1.ownsRow base e size v n xs :=
  h.kept (row := none) ⟨hb.os, hb.tape, hb.output, hb.size, fun i hi _ => hb.block i hi⟩ (by cases v.ownBlock <;> simp)

theorem own_type_ne {w : World} {b b' : Nat} {e e' : TypeId} {s s' n n' : Nat} {v v' : Value} {xs xs' : List Value} (h : w.ownsRow b e s v n xs) (h' : w.ownsRow b' e' s' v' n' xs') (hne : e ≠ e') : v.ownBlock = none ∨ v.ownBlock ≠ v'.ownBlock := by
  rcases h.2 with ⟨rfl, _⟩ | ⟨g, cap, cur, rfl, _, hh, _⟩
  · exact .inl rfl
  · refine .inr fun hk => ?_
    have := Blk.not_row (w := w) (b := g) (cs := cur) (t := e) hh hne h'
    exact this (by simpa [Value.ownBlock] using hk)

section
variable {P : Program} {ops : Array Oper} {rest : List Oper} {o : Oper} {a : Act} {Q : Exit → Act → World → Prop} {K : Act → World → Prop} {E : Prop}
/-- append(v, y) onto a slice of the call's own, y one element of 'size' cells, boxed right ahead. -/
theorem app {w0 W : World} (base : Nat) (hgd : o.guard = none) (s x : Operand) (t e : TypeId) (z : Value) (size bytes : Nat)
    (ho : o.op = .call { callee := .builtin .append, args := #[s, x], argTypes := #[t, t] })
    (ht : P.underlying t = some (.slice e)) (hinfo : (P.info? e).map (fun i => (i.zero, i.size, i.bytes)) = some (some z, size, bytes)) (hzs : z.cells.size = size) (hsz : 0 < size) (hb0 : 0 < bytes)
    (v : Value) (n : Nat) (xs : List Value) (cs : Array Value) (hs : a.eval s = v) (hx : a.eval x = .slice (some ⟨W.heap.size, 0, none⟩) 1 1) (hl : cs.size = size) (h1 : ∀ u ∈ cs.toList, u.oneCell' = true)
    (HO : W.ownsRow base e size v n xs) (HB : Below base w0 W) (hbase : base ≤ W.heap.size) (hle : (n + 1) * bytes ≤ 140737488355328)
    (h : ∀ g cap w1, w1.ownsRow base e size (.slice (some ⟨g, 0, none⟩) (n + 1) cap) (n + 1) (xs ++ cs.toList) → Below base w0 w1 → W.grownBy w1 v.ownBlock → (some g = v.ownBlock ∨ g = W.heap.size + 1) → wpList P ops Q rest (a.put o.dst (.slice (some ⟨g, 0, none⟩) (n + 1) cap)) w1) :
    wpList P ops Q (o :: rest) a (W.alloc (.cells cs e)) := by
  obtain ⟨i0, hi, hzz⟩ := Option.map_eq_some_iff.1 hinfo
  simp only [Prod.mk.injEq] at hzz
  obtain ⟨hz0, hz1, hz2⟩ := hzz
  have hlen : n + 1 ≤ 140737488355328 := Nat.le_trans (Nat.le_mul_of_pos_right _ hb0) hle
  refine wpList_append_own_at (W.alloc (.cells cs e)) hgd s x t ho base e i0 z size bytes ht hi hz0 hz1 hz2 hzs hsz v n xs hs (HO.alloc _) ⟨W.heap.size, 0, none⟩ 1 1 cs.toList hx (by simpa using hl)
    (World.news_of_block (cs := cs) (t := e) (fr := (0, 0)) (MapKept.heap_alloc W _).1) h1 (by simp only [maxLen]; omega) hle (by simp; omega) ?_
  intro v1 w1 hown hg _ hat
  rcases hown.2 with ⟨_, h0⟩ | ⟨g, cap, cur, rfl, _⟩
  · omega
  · refine h g cap w1 hown ((HB.alloc hbase _).grown hg (by simp; omega) (fun k hk => ?_)) (World.grownBy.trans (World.grownBy_alloc W _ _) hg) ?_
    · rcases HO.2 with ⟨rfl, _⟩ | ⟨g', cap', cur', rfl, hb, _⟩
      · simp [Value.ownBlock] at hk
      · have : g' = k := by simpa [Value.ownBlock] using hk
        omega
    · rcases hat with hat | hat
      · exact .inl hat
      · right
        simpa [Value.ownBlock] using hat
/-- append of m elements that a literal holds, boxed right ahead -/
theorem appM {w0 W : World} (base : Nat) (hgd : o.guard = none) (s x : Operand) (t e : TypeId) (z : Value) (size bytes m : Nat)
    (ho : o.op = .call { callee := .builtin .append, args := #[s, x], argTypes := #[t, t] })
    (ht : P.underlying t = some (.slice e)) (hinfo : (P.info? e).map (fun i => (i.zero, i.size, i.bytes)) = some (some z, size, bytes)) (hzs : z.cells.size = size) (hsz : 0 < size) (hb0 : 0 < bytes) (hm : 0 < m)
    (v : Value) (n : Nat) (xs : List Value) (cs : Array Value) (hs : a.eval s = v) (hx : a.eval x = .slice (some ⟨W.heap.size, 0, none⟩) m m) (hl : cs.size = m * size) (h1 : ∀ u ∈ cs.toList, u.oneCell' = true)
    (HO : W.ownsRow base e size v n xs) (HB : Below base w0 W) (hbase : base ≤ W.heap.size) (hle : (n + m) * bytes ≤ 140737488355328)
    (h : ∀ g cap w1, w1.ownsRow base e size (.slice (some ⟨g, 0, none⟩) (n + m) cap) (n + m) (xs ++ cs.toList) → Below base w0 w1 → W.grownBy w1 v.ownBlock → (some g = v.ownBlock ∨ g = W.heap.size + 1) → n + m ≤ cap → wpList P ops Q rest (a.put o.dst (.slice (some ⟨g, 0, none⟩) (n + m) cap)) w1) :
    wpList P ops Q (o :: rest) a (W.alloc (.cells cs e)) := by
  obtain ⟨i0, hi, hzz⟩ := Option.map_eq_some_iff.1 hinfo
  simp only [Prod.mk.injEq] at hzz
  obtain ⟨hz0, hz1, hz2⟩ := hzz
  have hlen : n + m ≤ 140737488355328 := Nat.le_trans (Nat.le_mul_of_pos_right _ hb0) hle
  refine wpList_append_own_at (W.alloc (.cells cs e)) hgd s x t ho base e i0 z size bytes ht hi hz0 hz1 hz2 hzs hsz v n xs hs (HO.alloc _) ⟨W.heap.size, 0, none⟩ m m cs.toList hx (by simpa using hl)
    (World.news_of_block (cs := cs) (t := e) (fr := (0, 0)) (MapKept.heap_alloc W _).1) h1 (by simp only [maxLen]; omega) hle (by simp; omega) ?_
  intro v1 w1 hown hg _ hat
  rcases hown.2 with ⟨_, h0⟩ | ⟨g, cap, cur, rfl, _, _, hc, _⟩
  · omega
  · refine h g cap w1 hown ((HB.alloc hbase _).grown hg (by simp; omega) (fun k hk => ?_)) (World.grownBy.trans (World.grownBy_alloc W _ _) hg) ?_ hc
    · rcases HO.2 with ⟨rfl, _⟩ | ⟨g', cap', cur', rfl, hb, _⟩
      · simp [Value.ownBlock] at hk
      · have : g' = k := by simpa [Value.ownBlock] using hk
        omega
    · rcases hat with hat | hat
      · exact .inl hat
      · right
        simpa [Value.ownBlock] using hat
/-- 'app' as one step of a region that draws. -/
theorem appStep {w0 W : World} (base : Nat) (hgd : o.guard = none) (s x : Operand) (t e : TypeId) (z : Value) (size bytes : Nat)
    (ho : o.op = .call { callee := .builtin .append, args := #[s, x], argTypes := #[t, t] })
    (ht : P.underlying t = some (.slice e)) (hinfo : (P.info? e).map (fun i => (i.zero, i.size, i.bytes)) = some (some z, size, bytes)) (hzs : z.cells.size = size) (hsz : 0 < size) (hb0 : 0 < bytes)
    (v : Value) (n : Nat) (xs : List Value) (H : Nat) (cs : Array Value) (hs : a.eval s = v) (hx : a.eval x = .slice (some ⟨H, 0, none⟩) 1 1) (hl : cs.size = size) (h1 : ∀ u ∈ cs.toList, u.oneCell' = true)
    (hH : Blk W H cs e) (HO : W.ownsRow base e size v n xs) (HB : Below base w0 W) (hbase : base ≤ W.heap.size) (hle : (n + 1) * bytes ≤ 140737488355328)
    (h : ∀ g cap w1, w1.ownsRow base e size (.slice (some ⟨g, 0, none⟩) (n + 1) cap) (n + 1) (xs ++ cs.toList) → Below base w0 w1 → W.grownBy w1 v.ownBlock → (v.ownBlock = some g ∨ g = W.heap.size) → K (a.put o.dst (.slice (some ⟨g, 0, none⟩) (n + 1) cap)) w1) :
    if Region.wanted o (yielded ops a.tmps) = true then Oper.wp P o a W K Q else E := by
  obtain ⟨i0, hi, hzz⟩ := Option.map_eq_some_iff.1 hinfo
  simp only [Prod.mk.injEq] at hzz
  obtain ⟨hz0, hz1, hz2⟩ := hzz
  have hlen : n + 1 ≤ 140737488355328 := Nat.le_trans (Nat.le_mul_of_pos_right _ hb0) hle
  refine step_append_lies W hgd s x t ho base e i0 z size bytes ht hi hz0 hz1 hz2 hzs hsz v n xs hs HO ⟨H, 0, none⟩ 1 1 cs.toList hx (by simpa using hl)
    (World.news_of_block (cs := cs) (t := e) (fr := (0, 0)) hH) h1 (by omega) (by simp only [maxLen]; omega) hle hbase W.heap.size rfl ?_
  intro g cap w1 hown hg hat _
  refine h g cap w1 hown (HB.grown hg hbase (fun k hk => ?_)) hg hat
  rcases HO.2 with ⟨rfl, _⟩ | ⟨g', cap', cur', rfl, hb, _⟩
  · simp [Value.ownBlock] at hk
  · have : g' = k := by simpa [Value.ownBlock] using hk
    omega
end

theorem own_base {w : World} {base base' : Nat} {e : TypeId} {size n : Nat} {v : Value} {xs : List Value} (h : w.ownsRow base e size v n xs) (hle : base' ≤ base) : w.ownsRow base' e size v n xs := by
  refine ⟨h.1, ?_⟩
  rcases h.2 with h | ⟨g, cap, cur, h1, h2, h3⟩
  · exact .inl h
  · exact .inr ⟨g, cap, cur, h1, by omega, h3⟩

theorem own_ge {w : World} {base : Nat} {e : TypeId} {size n g cap : Nat} {xs : List Value} (h : w.ownsRow base e size (.slice (some ⟨g, 0, none⟩) n cap) n xs) : base ≤ g ∧ g < w.heap.size := by
  rcases h.2 with ⟨h, _⟩ | ⟨g', cap', cur, h1, h2, h3, _⟩
  · cases h
  · injection h1 with h1
    injection h1 with h1
    injection h1 with h1
    subst h1
    exact ⟨h2, (Array.getElem?_eq_some_iff.1 h3).1⟩

theorem own_rd' {w : World} {base : Nat} {e : TypeId} {size n g cap : Nat} {xs : List Value} (h : w.ownsRow base e size (.slice (some ⟨g, 0, none⟩) n cap) n xs) : Rd w (some ⟨g, 0, none⟩) xs := by
  obtain ⟨A, c, he, _, hr⟩ := own_rd h
  injection he with h1
  rw [h1]
  exact hr

theorem Rd.left {w : World} {A : Option Addr} {xs ys : List Value} (h : Rd w A (xs ++ ys)) : Rd w A xs := by
  rcases h with h | ⟨b, o, e, hc⟩
  · exact .inl (List.append_eq_nil_iff.1 h).1
  · refine .inr ⟨b, o, e, fun i hi => ?_⟩
    rw [hc i (by simp; omega), List.getElem?_append_left hi]

theorem own_ne_map {w : World} {b : Nat} {es : Array MapEntry} {cl : Nat} (hm : w.heap[b]? = some (.map es cl)) {base : Nat} {e : TypeId} {size n : Nat} {v : Value} {xs : List Value} (h : w.ownsRow base e size v n xs) : v.ownBlock = none ∨ v.ownBlock ≠ some b := by
  rcases h.2 with ⟨rfl, _⟩ | ⟨g, cap, cur, rfl, _, hh, _⟩
  · exact .inl rfl
  · refine .inr fun hk => ?_
    have : g = b := by simpa [Value.ownBlock] using hk
    subst this
    rw [hh] at hm
    cases hm

theorem own_lt {w : World} {base : Nat} {e : TypeId} {size n : Nat} {v : Value} {xs : List Value} (h : w.ownsRow base e size v n xs) (k : Nat) (hk : v.ownBlock = some k) : base ≤ k ∧ k < w.heap.size := by
  rcases h.2 with ⟨rfl, _⟩ | ⟨g, cap, cur, rfl, hb, hh, _⟩
  · simp [Value.ownBlock] at hk
  · have : g = k := by simpa [Value.ownBlock] using hk
    subst this
    exact ⟨hb, (Array.getElem?_eq_some_iff.1 hh).1⟩

/-- the keys of a map that the call made are just these values -/
def KeysAre (k : TypeId) (D : DataW Unit) (vals : List Value) : Prop := IsMap D ∧ ∀ v l, keyOf Tryd.prog k v = some l → (Maps.has D l = true ↔ v ∈ vals)

theorem KeysAre.nil (k : TypeId) : KeysAre k (.map []) [] := ⟨isMap_empty, fun v l _ => by simp [Maps.has]⟩

theorem KeysAre.put {k : TypeId} (K : Keyed Tryd.prog k) {D : DataW Unit} {vals : List Value} (h : KeysAre k D vals) {v0 : Value} {l0 : Lit} (hk : keyOf Tryd.prog k v0 = some l0) (d : DataW Unit) : KeysAre k (D.put l0 d) (vals ++ [v0]) := by
  refine ⟨h.1.put _ _, fun v l hv => ?_⟩
  by_cases he : v = v0
  · subst he
    obtain rfl : l = l0 := Option.some.inj (hv.symm.trans hk)
    simp [has_put_same h.1 (K.key hk)]
  · have hne : l ≠ l0 := by
      rintro rfl
      exact he (K.inj hv hk)
    rw [has_put_other hne, h.2 v l hv]
    simp [he]

theorem own_ne_map' {H : Type} {w : World} {k : TypeId} {R : Value → Option (DataW H × List MemPlace)} {b j : Nat} {D : DataW H} (hm : w.ownsMap Tryd.prog k R b j D) {base : Nat} {e : TypeId} {size n : Nat} {v : Value} {xs : List Value} (h : w.ownsRow base e size v n xs) : v.ownBlock = none ∨ v.ownBlock ≠ some b := by
  obtain ⟨es, clock, hb, _⟩ := hm
  exact own_ne_map hb h

theorem map_ne_own {H : Type} {w : World} {k : TypeId} {R : Value → Option (DataW H × List MemPlace)} {b j : Nat} {D : DataW H} (hm : w.ownsMap Tryd.prog k R b j D) {base : Nat} {e : TypeId} {size n : Nat} {v : Value} {xs : List Value} (h : w.ownsRow base e size v n xs) : some b ≠ v.ownBlock := by
  intro he
  rcases own_ne_map' hm h with h1 | h1
  · rw [h1] at he; cases he
  · exact h1 he.symm

theorem own_some {w : World} {base : Nat} {e : TypeId} {size n : Nat} {v : Value} {xs : List Value} (h : w.ownsRow base e size v n xs) (hn : 0 < n) : ∃ g cap, v = .slice (some ⟨g, 0, none⟩) n cap := by
  rcases h.2 with ⟨rfl, h0⟩ | ⟨g, cap, cur, rfl, _⟩
  · omega
  · exact ⟨g, cap, rfl⟩

theorem own_cell {w : World} {base : Nat} {e : TypeId} {size n g cap : Nat} {xs : List Value} (h : w.ownsRow base e size (.slice (some ⟨g, 0, none⟩) n cap) n xs) (i : Nat) (v : Value) (hv : xs[i]? = some v) : w.cell? ⟨g, i, none⟩ = some v := by
  obtain ⟨hi, hv⟩ := List.getElem?_eq_some_iff.1 hv
  obtain ⟨b, o, he, hc⟩ := (own_rd' h).at i hi
  obtain ⟨rfl, rfl⟩ : g = b ∧ o = 0 := by
    simp only [Option.some.injEq, Addr.mk.injEq] at he
    exact ⟨he.1, he.2.1.symm⟩
  rw [Nat.zero_add] at hc
  rw [hc, hv]

theorem own_rdA {w : World} {base : Nat} {e : TypeId} {size n c : Nat} {A : Option Addr} {xs : List Value} (h : w.ownsRow base e size (.slice A n c) n xs) : Rd w A xs := by
  obtain ⟨A', c', he, _, hr⟩ := own_rd h
  injection he with h1
  rw [h1]
  exact hr

theorem fresh_of {v v1 : Value} {N s : Nat} (h : v1.ownBlock = v.ownBlock ∨ v1.ownBlock = some s) (h1 : ∀ j, v.ownBlock = some j → N ≤ j) (h2 : N ≤ s) : ∀ j, v1.ownBlock = some j → N ≤ j := by
  intro j hj
  rcases h with h | h
  · exact h1 j (h ▸ hj)
  · rw [h] at hj
    cases hj
    exact h2

theorem Rd.cell0 {w : World} {g : Nat} {vs : List Value} (h : Rd w (some ⟨g, 0, none⟩) vs) (i : Nat) (hi : i < vs.length) : w.cell? ⟨g, i, none⟩ = vs[i]? := by
  rcases h with rfl | ⟨b, o, e, hc⟩
  · simp at hi
  · injection e with e
    injection e with e1 e2
    subst e1 e2
    simpa using hc i hi

theorem laidOut : laidOutB Tryd.prog = true := by kernel_rfl
theorem zero3 (w : World) : (zeroValue 3).run Tryd.prog w = .ok (.int .i64 0) w := by kernel_rfl

theorem info3 : (Tryd.prog.info? 3).map (fun i => (i.zero, i.size, i.bytes)) = some (some (.int .i64 0), 1, 8) := by kernel_rfl

end Go.Proofs.YtlcgkdhcdldlfaaDoor
