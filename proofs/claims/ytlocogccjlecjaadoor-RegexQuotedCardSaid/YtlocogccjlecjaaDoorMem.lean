import Derived.Test.YtlocogccjlecjaaDoorRows
import Derived.WalkKit
import Derived.Handy
import Derived.Outline
import Derived.Lib.Hide
import Derived.BigQuiet
import Derived.Deep.QuietTactic
import Derived.Deep.RegionHeld3
import Derived.Maps.AppendAt
import Derived.Deep.AppendLies
import Derived.Deep.RegionLaw
import Derived.ArgAppend
namespace Go.Proofs.YtlocogccjlecjaaDoor
open Go.RowKit
theorem bthen {w w1 w2 : World} (h : Below w.heap.size w w1) (k : Below w1.heap.size w1 w2) : Below w.heap.size w w2 := h.trans (k.mono h.size)
theorem bdraw {w w1 : World} (h : Below w.heap.size w w1) (n : Nat) : Below w.heap.size w (w1.drewN n) := ⟨h.os, h.tape, h.output, h.size, h.block⟩
theorem ret_bool {a b : Bool} (h : a = b) : Ending.returned (.bool a) = .returned (.bool b) := by rw [h]
theorem addr_add (b o n : Nat) : (⟨b, o, none⟩ : Addr).add n = ⟨b, o + n, none⟩ := by
  unfold Addr.add
  split <;> simp_all
/-- a slice's cells, as they are read -/
def Rd (w : World) (A : Option Addr) (vs : List Value) : Prop := vs = [] ∨ ∃ b o, A = some ⟨b, o, none⟩ ∧ ∀ i, i < vs.length → w.cell? ⟨b, o + i, none⟩ = vs[i]?
theorem Rd.at {w : World} {A : Option Addr} {vs : List Value} (h : Rd w A vs) (i : Nat) (hi : i < vs.length) : ∃ b o, A = some ⟨b, o, none⟩ ∧ w.cell? ⟨b, o + i, none⟩ = some vs[i] := by
  rcases h with rfl | ⟨b, o, e, hc⟩
  · simp at hi
  · exact ⟨b, o, e, by rw [hc i hi, List.getElem?_eq_getElem hi]⟩
theorem Rd.below {w w' : World} {A : Option Addr} {vs : List Value} (h : Rd w A vs) (hb : Below w.heap.size w w') : Rd w' A vs := by
  rcases h with rfl | ⟨b, o, e, hc⟩
  · exact .inl rfl
  · refine .inr ⟨b, o, e, fun i hi => ?_⟩
    have h1 := hc i hi
    rw [List.getElem?_eq_getElem hi] at h1
    rw [List.getElem?_eq_getElem hi, ← h1]
    exact hb.cell (p := ⟨b, o + i, none⟩) (World.block_lt_of_cell? w _ h1)
/-- bytes, numbers, pairs of numbers as cells -/
def B8 (xs : List Int) : List Value := xs.map (Value.int .u8)
def I64 (xs : List Int) : List Value := xs.map (Value.int .i64)
theorem B8_length (xs : List Int) : (B8 xs).length = xs.length := by simp [B8]
theorem I64_length (xs : List Int) : (I64 xs).length = xs.length := by simp [I64]
theorem Rd.b8 {w : World} {A : Option Addr} {xs : List Int} (h : Rd w A (B8 xs)) (i : Nat) (hi : i < xs.length) : ∃ b o, A = some ⟨b, o, none⟩ ∧ w.cell? ⟨b, o + i, none⟩ = some (.int .u8 xs[i]) := by
  obtain ⟨b, o, e, hc⟩ := h.at i (by rw [B8_length]; exact hi)
  exact ⟨b, o, e, by rw [hc]; simp [B8]⟩
theorem Rd.i64 {w : World} {A : Option Addr} {xs : List Int} (h : Rd w A (I64 xs)) (i : Nat) (hi : i < xs.length) : ∃ b o, A = some ⟨b, o, none⟩ ∧ w.cell? ⟨b, o + i, none⟩ = some (.int .i64 xs[i]) := by
  obtain ⟨b, o, e, hc⟩ := h.at i (by rw [I64_length]; exact hi)
  exact ⟨b, o, e, by rw [hc]; simp [I64]⟩
section
variable {P : Program} {ops : Array Oper} {rest : List Oper} {o : Oper} {a : Act} {Q : Exit → Act → World → Prop}
/-- append(v, y) onto a slice of the call's own, y one element of 'size' cells, boxed right ahead. -/
theorem app {w0 W : World} (base : Nat) (hgd : o.guard = none) (s x : Operand) (t e : TypeId) (z : Value) (size bytes : Nat)
    (ho : o.op = .call { callee := .builtin .append, args := #[s, x], argTypes := #[t, t] })
    (ht : P.underlying t = some (.slice e)) (hinfo : (P.info? e).map (fun i => (i.zero, i.size, i.bytes)) = some (some z, size, bytes)) (hzs : z.cells.size = size) (hsz : 0 < size) (hb0 : 0 < bytes)
    (v : Value) (n : Nat) (xs : List Value) (cs : Array Value) (hs : a.eval s = v) (hx : a.eval x = .slice (some ⟨W.heap.size, 0, none⟩) 1 1) (hl : cs.size = size) (h1 : ∀ u ∈ cs.toList, u.oneCell' = true)
    (HO : W.ownsRow base e size v n xs) (HB : Below base w0 W) (hbase : base ≤ W.heap.size) (hle : (n + 1) * bytes ≤ 140737488355328)
    (h : ∀ g cap w1, w1.ownsRow base e size (.slice (some ⟨g, 0, none⟩) (n + 1) cap) (n + 1) (xs ++ cs.toList) → Below base w0 w1 → W.grownBy w1 v.ownBlock → (some g = v.ownBlock ∨ g = W.heap.size + 1) → wpList P ops Q rest (a.put o.dst (.slice (some ⟨g, 0, none⟩) (n + 1) cap)) w1) :
    wpList P ops Q (o :: rest) a (W.alloc (.cells cs e)) := by
  obtain ⟨i0, hi, hzz⟩ := Option.map_eq_some_iff.1 hinfo
  simp only [Prod.mk.injEq] at hzz
  obtain ⟨hz0, hz1, hz2⟩ := hzz
  have hlen : n + 1 ≤ 140737488355328 := Nat.le_trans (Nat.le_mul_of_pos_right _ hb0) hle
  refine wpList_append_own_at (W.alloc (.cells cs e)) hgd s x t ho base e i0 z size bytes ht hi hz0 hz1 hz2 hzs hsz v n xs hs (HO.alloc _) ⟨W.heap.size, 0, none⟩ 1 1 cs.toList hx (by simpa using hl)
    (World.news_of_block (cs := cs) (t := e) (fr := (0, 0)) (MapKept.heap_alloc W _).1) h1 (by simp only [maxLen]; omega) hle (by simp; omega) ?_
  intro v1 w1 hown hg _ hat
  rcases hown.2 with ⟨_, h0⟩ | ⟨g, cap, cur, rfl, _⟩
  · omega
  · refine h g cap w1 hown ((HB.alloc hbase _).grown hg (by simp; omega) (fun k hk => ?_)) (World.grownBy.trans (World.grownBy_alloc W _ _) hg) ?_
    · rcases HO.2 with ⟨rfl, _⟩ | ⟨g', cap', cur', rfl, hb, _⟩
      · simp [Value.ownBlock] at hk
      · have : g' = k := by simpa [Value.ownBlock] using hk
        omega
    · rcases hat with hat | hat
      · exact .inl hat
      · right
        simpa [Value.ownBlock] using hat
end
theorem own_rd {w : World} {base : Nat} {e : TypeId} {size n : Nat} {v : Value} {xs : List Value} (h : w.ownsRow base e size v n xs) : ∃ A c, v = .slice A n c ∧ n ≤ c ∧ Rd w A xs := by
  rcases h.2 with ⟨rfl, rfl⟩ | ⟨g, cap, cur, rfl, _, hh, h1, _, hc, ht⟩
  · refine ⟨none, 0, rfl, Nat.le_refl _, .inl ?_⟩
    have := h.1
    simpa using this
  · refine ⟨_, cap, rfl, h1, .inr ⟨g, 0, rfl, fun i hi => ?_⟩⟩
    rw [Nat.zero_add]
    have hl := h.1
    simp only [World.cell?, hh]
    rw [← ht, List.getElem?_take_of_lt (by omega)]
    simp
/-- a block that is known whole -/
def Blk (w : World) (b : Nat) (cs : Array Value) (t : TypeId) : Prop := w.heap[b]? = some (.cells cs t (0, 0))
theorem Blk.lt {w : World} {b : Nat} {cs : Array Value} {t : TypeId} (h : Blk w b cs t) : b < w.heap.size := (Array.getElem?_eq_some_iff.1 h).1
theorem Blk.cell {w : World} {b : Nat} {cs : Array Value} {t : TypeId} (h : Blk w b cs t) (i : Nat) : w.cell? ⟨b, i, none⟩ = cs[i]? := by simp [World.cell?, show w.heap[b]? = _ from h]
theorem Blk.frozen {w : World} {b : Nat} {cs : Array Value} {t : TypeId} (h : Blk w b cs t) (i : Nat) : w.frozen? ⟨b, i, none⟩ = false := by simp [World.frozen?, show w.heap[b]? = _ from h]
theorem Blk.new (w : World) (cs : Array Value) (t : TypeId) : Blk (w.alloc (.cells cs t)) w.heap.size cs t := (MapKept.heap_alloc w _).1
theorem Blk.kept {w w' : World} {row : Option Nat} {b : Nat} {cs : Array Value} {t : TypeId} (h : Blk w b cs t) (hg : w.grownBy w' row) (hne : some b ≠ row) : Blk w' b cs t := (hg.block b h.lt hne).trans h
theorem Blk.alloc {w : World} {b : Nat} {cs : Array Value} {t : TypeId} (h : Blk w b cs t) (o : Obj) : Blk (w.alloc o) b cs t := h.kept (World.grownBy_alloc w o none) (by simp)
theorem Blk.drew {w : World} {b : Nat} {cs : Array Value} {t : TypeId} (h : Blk w b cs t) : Blk w.drew b cs t := h
theorem Blk.below {w w' : World} {b : Nat} {cs : Array Value} {t : TypeId} (h : Blk w b cs t) (hb : Below w.heap.size w w') : Blk w' b cs t := (hb.block b h.lt).trans h
theorem Blk.other {w : World} {b : Nat} {cs : Array Value} {t : TypeId} (h : Blk w b cs t) (a : Addr) (u : Value) (hne : b ≠ a.block) : Blk (w.setCell a u) b cs t := (Below.heap_setCell w a u b hne).trans h
theorem Blk.set {w : World} {b : Nat} {cs : Array Value} {t : TypeId} (h : Blk w b cs t) (i : Nat) (u : Value) : Blk (w.setCell ⟨b, i, none⟩ u) b (cs.setIfInBounds i u) t := by
  obtain ⟨hlt, hk⟩ := Array.getElem?_eq_some_iff.1 h
  show (w.heap.modify b _)[b]? = _
  rw [Array.getElem?_eq_getElem (by rw [Array.size_modify]; exact hlt), Array.getElem_modify_self, hk]
  rfl
/-- a block of another type is not the row's own -/
theorem Blk.not_row {w : World} {b : Nat} {cs : Array Value} {t e : TypeId} (h : Blk w b cs t) (hte : t ≠ e) {base size n : Nat} {v : Value} {xs : List Value} (hr : w.ownsRow base e size v n xs) : some b ≠ v.ownBlock := by
  rcases hr.2 with ⟨rfl, _⟩ | ⟨g, cap, cur, rfl, _, hg, _⟩
  · simp [Value.ownBlock]
  · intro he
    have : b = g := by simpa [Value.ownBlock] using he
    subst this
    rw [show w.heap[b]? = _ from h] at hg
    injection hg with hg
    injection hg with _ ht
    exact hte ht
theorem own_set_other {w : World} {base : Nat} {e : TypeId} {size : Nat} {v : Value} {n : Nat} {xs : List Value} (h : w.ownsRow base e size v n xs) (b i : Nat) (u : Value) (hne : some b ≠ v.ownBlock) : (w.setCell ⟨b, i, none⟩ u).ownsRow base e size v n xs := by
  refine h.kept (row := some b) ⟨rfl, rfl, rfl, by simp, fun k _ hk => Below.heap_setCell _ _ _ k (fun e => hk (by rw [e]))⟩ ?_
  cases hv : v.ownBlock with
  | none => exact .inl rfl
  | some q => exact .inr (fun he => hne (by rw [hv, ← he]))
theorem own_kept_drew {w w1 : World} {row : Option Nat} {base : Nat} {e : TypeId} {size n : Nat} {v : Value} {xs : List Value} (h : w.ownsRow base e size v n xs) (hg : w.drew.grownBy w1 row) (hn : v.ownBlock = none ∨ v.ownBlock ≠ row) : w1.ownsRow base e size v n xs :=
  World.ownsRow.kept (w := w.drew) h hg hn
theorem own_below {w w1 : World} {base : Nat} {e : TypeId} {size n : Nat} {v : Value} {xs : List Value} (h : w.ownsRow base e size v n xs) (hb : Below w.heap.size w w1) : w1.ownsRow base e size v n xs :=
  h.kept (row := none) ⟨hb.os, hb.tape, hb.output, hb.size, fun i hi _ => hb.block i hi⟩ (by cases v.ownBlock <;> simp)
theorem own_type_ne {w : World} {b b' : Nat} {e e' : TypeId} {s s' n n' : Nat} {v v' : Value} {xs xs' : List Value} (h : w.ownsRow b e s v n xs) (h' : w.ownsRow b' e' s' v' n' xs') (hne : e ≠ e') : v.ownBlock = none ∨ v.ownBlock ≠ v'.ownBlock := by
  rcases h.2 with ⟨rfl, _⟩ | ⟨g, cap, cur, rfl, _, hh, _⟩
  · exact .inl rfl
  · refine .inr fun hk => ?_
    have := Blk.not_row (w := w) (b := g) (cs := cur) (t := e) hh hne h'
    exact this (by simpa [Value.ownBlock] using hk)

section
variable {P : Program} {ops : Array Oper} {o : Oper} {a : Act} {Q : Exit → Act → World → Prop} {K : Act → World → Prop} {E : Prop}
/-- 'app' as one step of a region that draws. -/
theorem appStep {w0 W : World} (base : Nat) (hgd : o.guard = none) (s x : Operand) (t e : TypeId) (z : Value) (size bytes : Nat)
    (ho : o.op = .call { callee := .builtin .append, args := #[s, x], argTypes := #[t, t] })
    (ht : P.underlying t = some (.slice e)) (hinfo : (P.info? e).map (fun i => (i.zero, i.size, i.bytes)) = some (some z, size, bytes)) (hzs : z.cells.size = size) (hsz : 0 < size) (hb0 : 0 < bytes)
    (v : Value) (n : Nat) (xs : List Value) (H : Nat) (cs : Array Value) (hs : a.eval s = v) (hx : a.eval x = .slice (some ⟨H, 0, none⟩) 1 1) (hl : cs.size = size) (h1 : ∀ u ∈ cs.toList, u.oneCell' = true)
    (hH : Blk W H cs e) (HO : W.ownsRow base e size v n xs) (HB : Below base w0 W) (hbase : base ≤ W.heap.size) (hle : (n + 1) * bytes ≤ 140737488355328)
    (h : ∀ g cap w1, w1.ownsRow base e size (.slice (some ⟨g, 0, none⟩) (n + 1) cap) (n + 1) (xs ++ cs.toList) → Below base w0 w1 → W.grownBy w1 v.ownBlock → (v.ownBlock = some g ∨ g = W.heap.size) → K (a.put o.dst (.slice (some ⟨g, 0, none⟩) (n + 1) cap)) w1) :
    if Region.wanted o (yielded ops a.tmps) = true then Oper.wp P o a W K Q else E := by
  obtain ⟨i0, hi, hzz⟩ := Option.map_eq_some_iff.1 hinfo
  simp only [Prod.mk.injEq] at hzz
  obtain ⟨hz0, hz1, hz2⟩ := hzz
  have hlen : n + 1 ≤ 140737488355328 := Nat.le_trans (Nat.le_mul_of_pos_right _ hb0) hle
  refine step_append_lies W hgd s x t ho base e i0 z size bytes ht hi hz0 hz1 hz2 hzs hsz v n xs hs HO ⟨H, 0, none⟩ 1 1 cs.toList hx (by simpa using hl)
    (World.news_of_block (cs := cs) (t := e) (fr := (0, 0)) hH) h1 (by omega) (by simp only [maxLen]; omega) hle hbase W.heap.size rfl ?_
  intro g cap w1 hown hg hat _
  refine h g cap w1 hown (HB.grown hg hbase (fun k hk => ?_)) hg hat
  rcases HO.2 with ⟨rfl, _⟩ | ⟨g', cap', cur', rfl, hb, _⟩
  · simp [Value.ownBlock] at hk
  · have : g' = k := by simpa [Value.ownBlock] using hk
    omega
end

theorem own_base {w : World} {base base' : Nat} {e : TypeId} {size n : Nat} {v : Value} {xs : List Value} (h : w.ownsRow base e size v n xs) (hle : base' ≤ base) : w.ownsRow base' e size v n xs := by
  refine ⟨h.1, ?_⟩
  rcases h.2 with h | ⟨g, cap, cur, h1, h2, h3⟩
  · exact .inl h
  · exact .inr ⟨g, cap, cur, h1, by omega, h3⟩
theorem own_lt {w : World} {base : Nat} {e : TypeId} {size n : Nat} {v : Value} {xs : List Value} (h : w.ownsRow base e size v n xs) (k : Nat) (hk : v.ownBlock = some k) : base ≤ k ∧ k < w.heap.size := by
  rcases h.2 with ⟨rfl, _⟩ | ⟨g, cap, cur, rfl, hb, hh, _⟩
  · simp [Value.ownBlock] at hk
  · have : g = k := by simpa [Value.ownBlock] using hk
    subst this
    exact ⟨hb, (Array.getElem?_eq_some_iff.1 hh).1⟩
theorem own_some {w : World} {base : Nat} {e : TypeId} {size n : Nat} {v : Value} {xs : List Value} (h : w.ownsRow base e size v n xs) (hn : 0 < n) : ∃ g cap, v = .slice (some ⟨g, 0, none⟩) n cap := by
  rcases h.2 with ⟨rfl, h0⟩ | ⟨g, cap, cur, rfl, _⟩
  · omega
  · exact ⟨g, cap, rfl⟩
theorem own_rdA {w : World} {base : Nat} {e : TypeId} {size n c : Nat} {A : Option Addr} {xs : List Value} (h : w.ownsRow base e size (.slice A n c) n xs) : Rd w A xs := by
  obtain ⟨A', c', he, _, hr⟩ := own_rd h
  injection he with h1
  rw [h1]
  exact hr
theorem grown_set (w : World) (g i : Nat) (v : Value) : w.grownBy (w.setCell ⟨g, i, none⟩ v) (some g) :=
  ⟨rfl, rfl, rfl, by simp, fun k _ hk => Below.heap_setCell _ ⟨g, i, none⟩ _ k (fun e => hk (by rw [e]))⟩
theorem own_kp {w wr : World} {base : Nat} {e : TypeId} {size n : Nat} {v : Value} {xs : List Value} (h : w.ownsRow base e size v n xs) (hk : ∀ q, v.ownBlock = some q → wr.heap[q]? = w.heap[q]?) : wr.ownsRow base e size v n xs := by
  refine ⟨h.1, ?_⟩
  rcases h.2 with h | ⟨g, cap, cur, h1, h2, h3, h4⟩
  · exact .inl h
  · exact .inr ⟨g, cap, cur, h1, h2, (hk g (by rw [h1]; rfl)).trans h3, h4⟩
theorem own_rdv {w : World} {base : Nat} {e : TypeId} {size n m c : Nat} {A : Option Addr} {xs : List Value} (h : w.ownsRow base e size (.slice A m c) n xs) : Rd w A xs := by
  obtain ⟨A', c', h1, _, h2⟩ := own_rd h
  injection h1 with h1
  subst h1
  exact h2
theorem lt_of_some {α : Type} {l : List α} {i : Nat} {a : α} (h : l[i]? = some a) : i < l.length := (List.getElem?_eq_some_iff.1 h).1
theorem B8_set (l : List Int) (i : Nat) (x : Int) : B8 (l.set i x) = (B8 l).set i (.int .u8 x) := by simp [B8, List.map_set]
theorem I64_set (l : List Int) (i : Nat) (x : Int) : I64 (l.set i x) = (I64 l).set i (.int .i64 x) := by simp [I64, List.map_set]
theorem take_set_succ {α : Type} (l : List α) (i : Nat) (x : α) (h : i < l.length) : (l.set i x).take (i + 1) = l.take i ++ [x] := by
  rw [List.take_succ_eq_append_getElem (by simpa using h)]
  congr 1
  · rw [List.take_set_of_le (Nat.le_refl _)]
  · simp
theorem Rd.pre {w : World} {A : Option Addr} {xs ys : List Value} (h : Rd w A (xs ++ ys)) : Rd w A xs := by
  rcases h with h | ⟨b, o, h1, hc⟩
  · exact .inl (List.append_eq_nil_iff.1 h).1
  · refine .inr ⟨b, o, h1, fun i hi => ?_⟩
    rw [hc i (by simp; omega), List.getElem?_append_left hi]
/-! What changes lies in S or is new -/
structure Kp (S : Nat → Prop) (w w' : World) : Prop where
  os : w'.os = w.os
  tape : w'.tape = w.tape
  output : w'.output = w.output
  size : w.heap.size ≤ w'.heap.size
  block : ∀ k, k < w.heap.size → ¬ S k → w'.heap[k]? = w.heap[k]?
theorem Kp.refl (S : Nat → Prop) (w : World) : Kp S w w := ⟨rfl, rfl, rfl, Nat.le_refl _, fun _ _ _ => rfl⟩
theorem Kp.trans {S : Nat → Prop} {w w1 w2 : World} (h : Kp S w w1) (h2 : Kp S w1 w2) : Kp S w w2 :=
  ⟨h2.os.trans h.os, h2.tape.trans h.tape, h2.output.trans h.output, Nat.le_trans h.size h2.size, fun k hk hs => (h2.block k (Nat.lt_of_lt_of_le hk h.size) hs).trans (h.block k hk hs)⟩
/-- what the second step changes was changed before, or is new -/
theorem Kp.step {S S2 : Nat → Prop} {w w1 w2 : World} (h : Kp S w w1) (h2 : Kp S2 w1 w2) (hS : ∀ k, k < w.heap.size → S2 k → S k) : Kp S w w2 :=
  ⟨h2.os.trans h.os, h2.tape.trans h.tape, h2.output.trans h.output, Nat.le_trans h.size h2.size, fun k hk hs => (h2.block k (Nat.lt_of_lt_of_le hk h.size) (fun h3 => hs (hS k hk h3))).trans (h.block k hk hs)⟩
theorem Kp.mono {S S2 : Nat → Prop} {w w1 : World} (h : Kp S w w1) (hS : ∀ k, k < w.heap.size → S k → S2 k) : Kp S2 w w1 :=
  ⟨h.os, h.tape, h.output, h.size, fun k hk hs => h.block k hk (fun h1 => hs (hS k hk h1))⟩
theorem Kp.of_below {S : Nat → Prop} {w w1 : World} (h : Below w.heap.size w w1) : Kp S w w1 := ⟨h.os, h.tape, h.output, h.size, fun k hk _ => h.block k hk⟩
theorem Kp.below {S : Nat → Prop} {w w1 w2 : World} (h : Kp S w w1) (hb : Below w1.heap.size w1 w2) : Kp S w w2 := h.trans (.of_below hb)
theorem Kp.of_grown {w w1 : World} {o : Option Nat} (h : w.grownBy w1 o) : Kp (fun k => o = some k) w w1 := ⟨h.os, h.tape, h.output, h.size, fun k hk hs => h.block k hk (fun h1 => hs h1.symm)⟩
theorem Kp.grown {S : Nat → Prop} {w w1 w2 : World} {o : Option Nat} (h : Kp S w w1) (hg : w1.grownBy w2 o) (ho : ∀ k, o = some k → k < w.heap.size → S k) : Kp S w w2 := h.step (.of_grown hg) (fun k hk h1 => ho k h1 hk)
theorem Kp.toBelow {S : Nat → Prop} {w w1 : World} (h : Kp S w w1) {n : Nat} (hn : n ≤ w.heap.size) (hS : ∀ k, k < n → ¬ S k) : Below n w w1 := ⟨h.os, h.tape, h.output, h.size, fun k hk => h.block k (by omega) (hS k hk)⟩
theorem Kp.noneS {S : Nat → Prop} {w w1 : World} (h : Kp S w w1) (hS : ∀ k, k < w.heap.size → ¬ S k) : Below w.heap.size w w1 := h.toBelow (Nat.le_refl _) hS
theorem Kp.set {S : Nat → Prop} {w w1 : World} (h : Kp S w w1) (p i : Nat) (u : Value) (hp : p < w.heap.size → S p) : Kp S w (w1.setCell ⟨p, i, none⟩ u) :=
  h.grown (grown_set w1 p i u) (fun k hk hl => by injection hk with hk; subst hk; exact hp hl)
theorem Blk.kp {S : Nat → Prop} {w w1 : World} {b : Nat} {cs : Array Value} {t : TypeId} (h : Blk w b cs t) (hk : Kp S w w1) (hs : ¬ S b) : Blk w1 b cs t := (hk.block b h.lt hs).trans h
theorem ownKp {S : Nat → Prop} {w w1 : World} {base : Nat} {e : TypeId} {size n : Nat} {v : Value} {xs : List Value} (h : w.ownsRow base e size v n xs) (hk : Kp S w w1) (hs : ∀ q, v.ownBlock = some q → ¬ S q) : w1.ownsRow base e size v n xs :=
  own_kp h (fun q hq => hk.block q (own_lt h q hq).2 (hs q hq))
/-- T holds wherever the blocks of F are as they are -/
def Held (F : Nat → Prop) (T : World → Prop) (w : World) : Prop := ∀ w', (∀ k, k < w.heap.size → F k → w'.heap[k]? = w.heap[k]?) → T w'
section
variable {F F2 S : Nat → Prop} {T T2 : World → Prop} {w w' : World}
theorem Held.now (h : Held F T w) : T w := h w (fun _ _ _ => rfl)
theorem Held.kp (h : Held F T w) (hk : Kp S w w') (hS : ∀ k, k < w.heap.size → S k → ¬ F k) (hF : ∀ k, k < w.heap.size → F k → F2 k) : Held F2 T w' :=
  fun w2 h2 => h w2 (fun k hl hf => (h2 k (Nat.lt_of_lt_of_le hl hk.size) (hF k hl hf)).trans (hk.block k hl (fun hs => hS k hl hs hf)))
theorem Held.mono (h : Held F T w) (hF : ∀ k, k < w.heap.size → F k → F2 k) : Held F2 T w := h.kp (S := fun _ => False) (Kp.refl _ w) (fun _ _ h => h.elim) hF
theorem Held.imp (h : Held F T w) (hT : ∀ w', T w' → T2 w') : Held F T2 w := fun w2 h2 => hT w2 (h w2 h2)
theorem Held.and (h : Held F T w) (h2 : Held F T2 w) : Held F (fun w => T w ∧ T2 w) w := fun w' h' => ⟨h w' h', h2 w' h'⟩
theorem Held.below (h : Held F T w) (hb : Below w.heap.size w w') : Held F T w' := h.kp (S := fun _ => False) (.of_below hb) (fun _ _ h => h.elim) (fun _ _ h => h)
end
/-! append of one element onto a row of one's own: either it lies in the row's block, or nothing old is changed -/
section
variable {P : Program} {ops : Array Oper} {rest : List Oper} {o : Oper} {a : Act} {Q : Exit → Act → World → Prop}
theorem appK {W : World} (base : Nat) (hgd : o.guard = none) (s x : Operand) (t e : TypeId) (z : Value) (bytes : Nat)
    (ho : o.op = .call { callee := .builtin .append, args := #[s, x], argTypes := #[t, t] })
    (ht : P.underlying t = some (.slice e)) (hinfo : (P.info? e).map (fun i => (i.zero, i.size, i.bytes)) = some (some z, 1, bytes)) (hzs : z.cells.size = 1) (hb0 : 0 < bytes)
    (v : Value) (n : Nat) (xs : List Value) (y : Value) (hs : a.eval s = v) (hx : a.eval x = .slice (some ⟨W.heap.size, 0, none⟩) 1 1) (hy : y.oneCell' = true)
    (HO : W.ownsRow base e 1 v n xs) (hbase : base ≤ W.heap.size) (hle : (n + 1) * bytes ≤ 140737488355328)
    (h : ∀ g cap w1, w1.ownsRow base e 1 (.slice (some ⟨g, 0, none⟩) (n + 1) cap) (n + 1) (xs ++ [y]) → ((v.ownBlock = some g ∧ W.grownBy w1 (some g)) ∨ (W.heap.size ≤ g ∧ W.grownBy w1 none)) → wpList P ops Q rest (a.put o.dst (.slice (some ⟨g, 0, none⟩) (n + 1) cap)) w1) :
    wpList P ops Q (o :: rest) a (W.alloc (.cells #[y] e)) := by
  obtain ⟨i0, hi, hzz⟩ := Option.map_eq_some_iff.1 hinfo
  simp only [Prod.mk.injEq] at hzz
  obtain ⟨hz0, hz1, hz2⟩ := hzz
  have hlen : n + 1 ≤ 140737488355328 := Nat.le_trans (Nat.le_mul_of_pos_right _ hb0) hle
  have hnew := World.news_of_block (cs := #[y]) (t := e) (fr := (0, 0)) (MapKept.heap_alloc W (.cells #[y] e)).1
  have h1c : ∀ u ∈ [y], u.oneCell' = true := fun u hu => by rw [List.mem_singleton.1 hu]; exact hy
  have grow : ∀ v' w', w'.ownsRow (W.alloc (.cells #[y] e)).heap.size e 1 v' (n + 1) (xs ++ [y]) → (W.alloc (.cells #[y] e)).grownBy w' none → wpList P ops Q rest (a.put o.dst v') w' := fun v' w' hown hg => by
    rcases hown.2 with ⟨_, h0⟩ | ⟨g, cap, cur, rfl, hb, _⟩
    · omega
    · refine h g cap w' (own_base hown (by simp; omega)) (.inr ⟨by simp at hb; omega, World.grownBy.trans (World.grownBy_alloc W _ _) hg⟩)
  have hxl : xs.length = n * 1 := HO.1
  rcases HO.2 with ⟨rfl, rfl⟩ | ⟨g, cap, cur, rfl, hb, hB, h1, h2, h3, h4⟩
  · have hx0 : xs = [] := List.length_eq_zero_iff.1 (by omega)
    subst hx0
    exact wpList_append_grows (W.alloc (.cells #[y] e)) hgd s x t ho e i0 z 1 bytes ht hi hz0 hz1 hz2 hzs (by decide) none 0 0 [] hs (fun _ => ⟨rfl, rfl⟩) rfl (fun b hb => by cases hb) ⟨W.heap.size, 0, none⟩ 1 1 [y] hx rfl hnew h1c (by omega) (by simp only [maxLen]; omega) hle grow
  · have hB' : Blk (W.alloc (.cells #[y] e)) g cur e := Blk.alloc hB _
    have hcell : ∀ j u, xs[j]? = some u → (W.alloc (.cells #[y] e)).cell? ⟨g, 0 + j, none⟩ = some u := fun j u hu => by
      have hj := (List.getElem?_eq_some_iff.1 hu).1
      rw [Nat.zero_add, hB'.cell, ← hu, ← h4, List.getElem?_take_of_lt (by omega)]
      simp
    refine wpList_append_arg (W.alloc (.cells #[y] e)) hgd s x t ho e i0 z 1 bytes ht hi hz0 hz1 hz2 hzs (by decide) g 0 n cap xs hs hxl hcell ⟨W.heap.size, 0, none⟩ 1 1 [y] hx rfl hnew h1c (fun hr j hj => ?_) (by simp only [maxLen]; omega) hle (fun hroom => ?_) (fun _ => grow)
    · simp at hj
      subst hj
      exact ⟨by rw [hB'.cell, Array.getElem?_eq_getElem (by omega)]; rfl, hB'.frozen _⟩
    · have hS : Blk ((W.alloc (.cells #[y] e)).setCells g (0 + n * 1) [y]) g (cur.setIfInBounds n y) e := by
        have := hB'.set n y
        rw [show 0 + n * 1 = n by omega]
        exact this
      refine h g cap _ ⟨by simp [hxl], .inr ⟨g, cap, _, rfl, hb, hS, hroom, h2, by simpa using h3, ?_⟩⟩ (.inl ⟨rfl, ?_⟩)
      · rw [Array.toList_setIfInBounds, show (n + 1) * 1 = n + 1 by omega, List.take_succ_eq_append_getElem (by simp; omega)]
        rw [show n * 1 = n by omega] at h4
        congr 1
        · rw [List.take_set_of_le (Nat.le_refl _)]; exact h4
        · simp
      · refine World.grownBy.trans (World.grownBy_alloc W (.cells #[y] e) (some g)) ?_
        rw [show 0 + n * 1 = n by omega]
        exact ⟨rfl, rfl, rfl, by simp [World.setCells], fun k _ hk => Below.heap_setCell _ ⟨g, n, none⟩ _ k (fun e => hk (by rw [e]))⟩
end
/-- cells that are read, in a block of which P holds -/
def Rp (P : Nat → Prop) (w : World) (A : Option Addr) (vs : List Value) : Prop := vs = [] ∨ ∃ b o, A = some ⟨b, o, none⟩ ∧ P b ∧ ∀ i, i < vs.length → w.cell? ⟨b, o + i, none⟩ = vs[i]?
section
variable {P P2 S : Nat → Prop} {w w' : World} {A : Option Addr} {vs : List Value}
theorem Rp.rd (h : Rp P w A vs) : Rd w A vs := by
  rcases h with h | ⟨b, o, h1, _, h2⟩
  · exact .inl h
  · exact .inr ⟨b, o, h1, h2⟩
theorem Rp.mono (h : Rp P w A vs) (hp : ∀ b, b < w.heap.size → P b → P2 b) : Rp P2 w A vs := by
  rcases h with h | ⟨b, o, h1, h3, h2⟩
  · exact .inl h
  · by_cases h0 : vs = []
    · exact .inl h0
    · have hpos : 0 < vs.length := List.length_pos_iff.2 h0
      have h4 := h2 0 hpos
      rw [List.getElem?_eq_getElem hpos] at h4
      exact .inr ⟨b, o, h1, hp b (World.block_lt_of_cell? w _ h4) h3, h2⟩
theorem Rp.kp (h : Rp P w A vs) (hk : Kp S w w') (hs : ∀ b, b < w.heap.size → P b → ¬ S b) : Rp P w' A vs := by
  rcases h with h | ⟨b, o, h1, h3, h2⟩
  · exact .inl h
  · refine .inr ⟨b, o, h1, h3, fun i hi => ?_⟩
    have h4 := h2 i hi
    rw [List.getElem?_eq_getElem hi] at h4
    have hlt : b < w.heap.size := World.block_lt_of_cell? w _ h4
    rw [World.cell?_of_block (w := w) (hk.block b hlt (hs b hlt h3))]
    exact h2 i hi
end
theorem own_rp {w : World} {base : Nat} {e : TypeId} {size n c : Nat} {A : Option Addr} {xs : List Value} (h : w.ownsRow base e size (.slice A n c) n xs) (P : Nat → Prop) (hp : ∀ b, (Value.slice A n c).ownBlock = some b → P b) : Rp P w A xs := by
  rcases own_rdA h with h0 | ⟨b, o, h1, h2⟩
  · exact .inl h0
  · exact .inr ⟨b, o, h1, hp b (by rw [h1]; rfl), h2⟩
/-- a list that stands in another's kind of memory has another block -/
theorem row_ne {W : World} {b b' n n' : Nat} {e e' : TypeId} {v v' : Value} {xs xs' : List Value} (hl : W.ownsRow b e 1 v n xs) (ho : W.ownsRow b' e' 1 v' n' xs') (hne : e ≠ e') : ∀ k, v'.ownBlock = some k → v.ownBlock ≠ some k := fun k hk he => by
  rcases own_type_ne hl ho hne with h | h
  · rw [h] at he; cases he
  · exact h (he.trans hk.symm)
end Go.Proofs.YtlocogccjlecjaaDoor
