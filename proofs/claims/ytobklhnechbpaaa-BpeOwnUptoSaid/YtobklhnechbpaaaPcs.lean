import Derived.Test.YtobklhnechbpaaaKey
import Derived.Test.YtobklhnechbpaaaTwin
import Derived.Test.YtobklhnechbpaaaPure
namespace Go.Proofs.Ytobklhnechbpaaa
open Go.RowKit Go.Maps

/-- the keys of a map that the call made are just these values -/
def KeysAre (k : TypeId) (D : DataW Unit) (vals : List Value) : Prop := IsMap D ∧ ∀ v l, keyOf Try.prog k v = some l → (Maps.has D l = true ↔ v ∈ vals)
theorem KeysAre.nil (k : TypeId) : KeysAre k (.map []) [] := ⟨isMap_empty, fun v l _ => by simp [Maps.has]⟩
theorem KeysAre.put {k : TypeId} (K : Keyed Try.prog k) {D : DataW Unit} {vals : List Value} (h : KeysAre k D vals) {v0 : Value} {l0 : Lit} (hk : keyOf Try.prog k v0 = some l0) (d : DataW Unit) : KeysAre k (D.put l0 d) (vals ++ [v0]) := by
  refine ⟨h.1.put _ _, fun v l hv => ?_⟩
  by_cases he : v = v0
  · subst he
    obtain rfl : l = l0 := Option.some.inj (hv.symm.trans hk)
    simp [has_put_same h.1 (K.key hk)]
  · have hne : l ≠ l0 := by
      rintro rfl
      exact he (K.inj hv hk)
    rw [has_put_other hne, h.2 v l hv]
    simp [he]
theorem own_ne_map {w : World} {b : Nat} {es : Array MapEntry} {cl : Nat} (hm : w.heap[b]? = some (.map es cl)) {base : Nat} {e : TypeId} {size n : Nat} {v : Value} {xs : List Value} (h : w.ownsRow base e size v n xs) : v.ownBlock = none ∨ v.ownBlock ≠ some b := by
  rcases h.2 with ⟨rfl, _⟩ | ⟨g, cap, cur, rfl, _, hh, _⟩
  · exact .inl rfl
  · refine .inr fun hk => ?_
    have : g = b := by simpa [Value.ownBlock] using hk
    subst this
    rw [hh] at hm
    cases hm
theorem own_lt {w : World} {base : Nat} {e : TypeId} {size n : Nat} {v : Value} {xs : List Value} (h : w.ownsRow base e size v n xs) (k : Nat) (hk : v.ownBlock = some k) : base ≤ k ∧ k < w.heap.size := by
  rcases h.2 with ⟨rfl, _⟩ | ⟨g, cap, cur, rfl, hb, hh, _⟩
  · simp [Value.ownBlock] at hk
  · have : g = k := by simpa [Value.ownBlock] using hk
    subst this
    exact ⟨hb, (Array.getElem?_eq_some_iff.1 hh).1⟩

/-- slices of bytes, each in memory of its own -/
structure Pcs (w : World) (base : Nat) (vals : List Value) (ls : List (List Int)) : Prop where
  len : vals.length = ls.length
  own : ∀ (i : Nat) (v : Value) (l : List Int), vals[i]? = some v → ls[i]? = some l → w.ownsRow base 5 1 v l.length (B8 l)
  apart : ∀ (i j : Nat) (v u : Value), i ≠ j → vals[i]? = some v → vals[j]? = some u → v.ownBlock = none ∨ v.ownBlock ≠ u.ownBlock
theorem Pcs.kept {w w1 : World} {base : Nat} {vals : List Value} {ls : List (List Int)} (h : Pcs w base vals ls) {row : Option Nat} (hg : w.grownBy w1 row) (hne : ∀ (i : Nat) (v : Value) (l : List Int), vals[i]? = some v → w.ownsRow base 5 1 v l.length (B8 l) → v.ownBlock = none ∨ v.ownBlock ≠ row) : Pcs w1 base vals ls :=
  ⟨h.len, fun i v l hv hl => (h.own i v l hv hl).kept hg (hne i v l hv (h.own i v l hv hl)), h.apart⟩
theorem Pcs.below {w w1 : World} {base : Nat} {vals : List Value} {ls : List (List Int)} (h : Pcs w base vals ls) (hb : Below w.heap.size w w1) : Pcs w1 base vals ls :=
  ⟨h.len, fun i v l hv hl => own_below (h.own i v l hv hl) hb, h.apart⟩
theorem Pcs.alloc {w : World} {base : Nat} {vals : List Value} {ls : List (List Int)} (h : Pcs w base vals ls) (o : Obj) : Pcs (w.alloc o) base vals ls :=
  ⟨h.len, fun i v l hv hl => (h.own i v l hv hl).alloc o, h.apart⟩
theorem Pcs.get {w : World} {base : Nat} {vals : List Value} {ls : List (List Int)} (h : Pcs w base vals ls) (i : Nat) (hi : i < ls.length) : ∃ v, vals[i]? = some v ∧ w.ownsRow base 5 1 v (ls.getD i []).length (B8 (ls.getD i [])) := by
  have hl := h.len
  refine ⟨vals[i]'(by omega), List.getElem?_eq_getElem (by omega), ?_⟩
  have e : ls[i]? = some (ls.getD i []) := by rw [List.getD_eq_getElem?_getD, List.getElem?_eq_getElem hi]; rfl
  exact h.own i _ _ (List.getElem?_eq_getElem (by omega)) e
/-- one more, in memory that none of the others lies in -/
theorem Pcs.snoc {w : World} {base : Nat} {vals : List Value} {ls : List (List Int)} (h : Pcs w base vals ls) {v : Value} {l : List Int} (ho : w.ownsRow base 5 1 v l.length (B8 l)) (hn : ∀ (i : Nat) (u : Value), vals[i]? = some u → v.ownBlock = none ∨ v.ownBlock ≠ u.ownBlock) : Pcs w base (vals ++ [v]) (ls ++ [l]) := by
  refine ⟨by simp [h.len], fun i u m hu hm => ?_, fun i j u x hij hu hx => ?_⟩
  · rcases Nat.lt_or_ge i vals.length with hi | hi
    · rw [List.getElem?_append_left hi] at hu
      rw [List.getElem?_append_left (by rw [← h.len]; exact hi)] at hm
      exact h.own i u m hu hm
    · have hlt := (List.getElem?_eq_some_iff.1 hu).1
      simp at hlt
      obtain rfl : i = vals.length := by omega
      have hl := h.len
      rw [hl] at hm
      simp at hu hm
      subst hu hm
      exact ho
  · have hsym : ∀ {a b : Option Nat}, (a = none ∨ a ≠ b) → b = none ∨ b ≠ a := by
      intro a b hab
      cases b with
      | none => exact .inl rfl
      | some q =>
        refine .inr fun he => ?_
        rcases hab with h | h
        · rw [h] at he; cases he
        · exact h he.symm
    have hi := (List.getElem?_eq_some_iff.1 hu).1
    have hj := (List.getElem?_eq_some_iff.1 hx).1
    simp at hi hj
    rcases Nat.lt_or_ge i vals.length with hi' | hi'
    · rw [List.getElem?_append_left hi'] at hu
      rcases Nat.lt_or_ge j vals.length with hj' | hj'
      · rw [List.getElem?_append_left hj'] at hx
        exact h.apart i j u x hij hu hx
      · obtain rfl : j = vals.length := by omega
        simp at hx
        subst hx
        exact hsym (hn i u hu)
    · obtain rfl : i = vals.length := by omega
      simp at hu
      subst hu
      rw [List.getElem?_append_left (by omega)] at hx
      exact hn j x hx

section
variable {P : Program} {ops : Array Oper} {o : Oper} {a : Act} {Q : Exit → Act → World → Prop} {K : Act → World → Prop} {E : Prop}
/-- append(v, ys...) onto a slice of the call's own: ys a slice that is read, nil too: as one step of a region that draws. -/
theorem appRowStep {w0 W : World} (base : Nat) (hgd : o.guard = none) (s x : Operand) (t e : TypeId) (z : Value) (bytes : Nat)
    (ho : o.op = .call { callee := .builtin .append, args := #[s, x], argTypes := #[t, t] })
    (ht : P.underlying t = some (.slice e)) (hinfo : (P.info? e).map (fun i => (i.zero, i.size, i.bytes)) = some (some z, 1, bytes)) (hzs : z.cells.size = 1) (hb0 : 0 < bytes)
    (v : Value) (n : Nat) (xs : List Value) (A : Option Addr) (m c : Nat) (ys : List Value) (hs : a.eval s = v) (hx : a.eval x = .slice A m c) (hl : ys.length = m) (h1 : ∀ u ∈ ys, u.oneCell' = true) (hr : Rd W A ys)
    (HO : W.ownsRow base e 1 v n xs) (HB : Below base w0 W) (hbase : base ≤ W.heap.size) (hle : (n + m) * bytes ≤ 140737488355328)
    (h : ∀ v1 w1, w1.ownsRow base e 1 v1 (n + m) (xs ++ ys) → Below base w0 w1 → W.grownBy w1 v.ownBlock → (v1.ownBlock = v.ownBlock ∨ v1.ownBlock = some W.heap.size) → K (a.put o.dst v1) w1) :
    if Region.wanted o (yielded ops a.tmps) = true then Oper.wp P o a W K Q else E := by
  obtain ⟨i0, hi, hzz⟩ := Option.map_eq_some_iff.1 hinfo
  simp only [Prod.mk.injEq] at hzz
  obtain ⟨hz0, hz1, hz2⟩ := hzz
  have hlen : n + m ≤ 140737488355328 := Nat.le_trans (Nat.le_mul_of_pos_right _ hb0) hle
  have hrun : ∃ v1 w1, (Builtin.append_ #[t, t] o.type #[v, .slice A m c]).run P W = .ok v1 w1 ∧ w1.ownsRow base e 1 v1 (n + m) (xs ++ ys) ∧ W.grownBy w1 v.ownBlock ∧ (v1.ownBlock = v.ownBlock ∨ v1.ownBlock = some W.heap.size) := by
    have some_case : ∀ ad, A = some ad → (∀ j u, ys[j]? = some u → W.cell? (ad.add j) = some u) → ∃ v1 w1, (Builtin.append_ #[t, t] o.type #[v, .slice A m c]).run P W = .ok v1 w1 ∧ w1.ownsRow base e 1 v1 (n + m) (xs ++ ys) ∧ W.grownBy w1 v.ownBlock ∧ (v1.ownBlock = v.ownBlock ∨ v1.ownBlock = some W.heap.size) := by
      rintro ad rfl hc
      obtain ⟨v1, w1, h2, h3, h4, _, h5⟩ := run_append_own_at (P := P) W base t o.type e i0 z 1 bytes ht hi hz0 hz1 hz2 hzs (by omega) v n xs HO ad m c ys (by simpa using hl) hc h1 (by simp only [maxLen]; omega) hle hbase
      exact ⟨v1, w1, h2, h3, h4, h5⟩
    rcases hr with rfl | ⟨b, off, rfl, hc⟩
    · obtain rfl : m = 0 := by simpa using hl.symm
      cases A with
      | some ad => exact some_case ad rfl (by simp)
      | none =>
        refine ⟨v, W, ?_, by simpa using HO, World.grownBy.refl W _, .inl rfl⟩
        rcases HO.2 with ⟨rfl, hn⟩ | ⟨g, cap, cur, rfl, _, _, hnc, _⟩
        · simp [Builtin.append_, run_underlying ht, sizeOf, typeInfo, hi, Builtin.lenOf, Builtin.firstCells]
        · simp [Builtin.append_, run_underlying ht, sizeOf, typeInfo, hi, Builtin.lenOf, Builtin.firstCells, hnc, storeCells]
    · refine some_case _ rfl (fun j u hu => ?_)
      rw [addr_add]
      rw [hc j (List.getElem?_eq_some_iff.1 hu).1, hu]
  obtain ⟨v1, w1, hr, hown, hg, hat⟩ := hrun
  have hw : Region.wanted o (yielded ops a.tmps) = true := by simp [Region.wanted, hgd]
  rw [if_pos hw]
  unfold Oper.wp execOp
  simp only [ho, resolve, invoke, builtin, Sem.run_bind, Sem.run_pure, Result.andThen_ok, List.map_toArray, List.map_cons, List.map_nil, hs, hx, hr]
  refine h v1 w1 hown (HB.grown hg hbase (fun k hk => (own_lt HO k hk).1)) hg hat
end
end Go.Proofs.Ytobklhnechbpaaa
