import Derived.Test.YtlocogccjlecjaaDoorNum
import Derived.Test.YtlocogccjlecjaaDoorRdO
/- Compile's memory: the places, the ends, the automaton, the states, the map of their numbers. -/
namespace Go.Proofs.YtlocogccjlecjaaDoor
open Go.RowKit
/-- a row's cells: what is written so far, zeros behind it -/
def arrC (t : List Int) : Array Value := (t.map (fun z => Value.int .i64 z) ++ List.replicate (256 - t.length) (Value.int .i64 0)).toArray
theorem arrC_size {t : List Int} (h : t.length ≤ 256) : (arrC t).size = 256 := by
  unfold arrC
  simp only [List.size_toArray, List.length_append, List.length_map, List.length_replicate]
  omega
theorem arrC_nil : arrC [] = Array.replicate 256 (.int .i64 0) := by
  unfold arrC
  rw [List.map_nil, List.nil_append, List.length_nil, Nat.sub_zero, List.toArray_replicate]
theorem arrC_set {t : List Int} (h : t.length < 256) (x : Int) : (arrC t).setIfInBounds t.length (.int .i64 x) = arrC (t ++ [x]) := by
  unfold arrC
  obtain ⟨k, hk⟩ : ∃ k, 256 - t.length = k + 1 := ⟨255 - t.length, by omega⟩
  have h2 : 256 - (t ++ [x]).length = k := by simp; omega
  rw [hk, h2, List.setIfInBounds_toArray, List.replicate_succ]
  congr 1
  rw [List.set_append_right _ _ (by simp)]
  simp
theorem arrC_set2 {t : List Int} (x y : Int) : (arrC (t ++ [x])).setIfInBounds t.length (.int .i64 y) = arrC (t ++ [y]) := by
  unfold arrC
  have h1 : 256 - (t ++ [x]).length = 256 - (t ++ [y]).length := by simp
  rw [h1, List.setIfInBounds_toArray]
  congr 1
  rw [List.set_append_left _ _ (by simp)]
  congr 1
  simp
theorem arrC_at {t : List Int} (h : t.length < 256) : (arrC t)[t.length]? = some (.int .i64 0) := by
  unfold arrC
  rw [List.getElem?_toArray, List.getElem?_append_right (by simp), List.getElem?_replicate, List.length_map, Nat.sub_self, if_pos (by omega)]
theorem arrC_at2 (t : List Int) (x : Int) : (arrC (t ++ [x]))[t.length]? = some (.int .i64 x) := by
  unfold arrC
  rw [List.getElem?_toArray, List.getElem?_append_left (by simp), List.getElem?_map, List.getElem?_append_right (Nat.le_refl _), Nat.sub_self]
  rfl
theorem rowC_all {rs fs : List Nat} {l m : Nat} {J : St → Prop} (hm : ∀ b t, nxt rs fs l m b = some t → J t) : ∀ {b : Nat} {q q' : List St} {t : List Int}, (∀ s ∈ q, J s) → rowC rs fs l m b q = some (q', t) → ∀ s ∈ q', J s := by
  intro b
  induction b with
  | zero => intro q q' t hq h; cases h; exact hq
  | succ b ih =>
    intro q q' t hq h
    obtain ⟨q1, t1, x, h1, rfl, h2⟩ := rowC_succ h
    have h3 := ih hq h1
    rcases h2 with ⟨_, _, rfl⟩ | ⟨s, hs, ⟨_, _, rfl⟩ | ⟨_, _, _, rfl⟩⟩
    · exact h3
    · exact h3
    · intro z hz
      rcases List.mem_append.1 hz with hz | hz
      · exact h3 z hz
      · rw [List.mem_singleton.1 hz]; exact hm _ _ hs
theorem rowC_none {rs fs : List Nat} {l m b c : Nat} {q : List St} (hbc : b ≤ c) (h : rowC rs fs l m b q = none) : rowC rs fs l m c q = none := by
  induction hbc with
  | refl => exact h
  | step _ ih => simp only [rowC, ih]
theorem zero3 (w : World) : (zeroValue 3).run Tryd.prog w = .ok (.int .i64 0) w := by kernel_rfl
theorem arrC_one (t : List Int) : ∀ u ∈ (arrC t).toList, u.oneCell' = true := by
  intro u hu
  simp only [arrC] at hu
  rcases List.mem_append.1 hu with h | h
  · obtain ⟨z, _, rfl⟩ := List.mem_map.1 h; rfl
  · rw [(List.mem_replicate.1 h).2]; rfl
def stC (s : St) : List Value := [.int .u64 ((s.1 : Nat) : Int), .bool s.2]
/-- the states' cells -/
def sC (q : List St) : List Value := q.flatMap stC
theorem sC_snoc (q : List St) (s : St) : sC q ++ stC s = sC (q ++ [s]) := by simp [sC]
theorem sC_get {q : List St} {i : Nat} {s : St} (h : q[i]? = some s) : (sC q)[i * 2]? = some (.int .u64 ((s.1 : Nat) : Int)) ∧ (sC q)[i * 2 + 1]? = some (.bool s.2) := by
  induction q generalizing i with
  | nil => simp at h
  | cons a q ih =>
    cases i with
    | zero => simp at h; subst h; exact ⟨rfl, rfl⟩
    | succ i =>
      have h1 := ih (i := i) (by simpa using h)
      have e1 : (i + 1) * 2 = i * 2 + 2 := by omega
      have e2 : (i + 1) * 2 + 1 = (i * 2 + 1) + 2 := by omega
      rw [e1]
      exact h1
theorem CS_get {rs : List Nat} {i N : Nat} (h : rs[i]? = some N) : (CS rs)[i * 4]? = some (.int .u64 ((wd N 0 : Nat) : Int)) ∧ (CS rs)[i * 4 + 1]? = some (.int .u64 ((wd N 1 : Nat) : Int)) ∧ (CS rs)[i * 4 + 2]? = some (.int .u64 ((wd N 2 : Nat) : Int)) ∧ (CS rs)[i * 4 + 3]? = some (.int .u64 ((wd N 3 : Nat) : Int)) := by
  induction rs generalizing i with
  | nil => simp at h
  | cons a q ih =>
    cases i with
    | zero => simp at h; subst h; exact ⟨rfl, rfl, rfl, rfl⟩
    | succ i =>
      have h1 := ih (i := i) (by simpa using h)
      have e1 : (i + 1) * 4 = i * 4 + 4 := by omega
      have e2 : (i + 1) * 4 + 1 = (i * 4 + 1) + 4 := by omega
      have e3 : (i + 1) * 4 + 2 = (i * 4 + 2) + 4 := by omega
      have e4 : (i + 1) * 4 + 3 = (i * 4 + 3) + 4 := by omega
      rw [e2, e3, e4, e1]
      exact h1
theorem own_cell {w : World} {base size n g c k : Nat} {e : TypeId} {xs : List Value} {v : Value} (h : w.ownsRow base e size (.slice (some ⟨g, 0, none⟩) n c) n xs) (hk : xs[k]? = some v) : w.cell? ⟨g, k, none⟩ = some v := by
  obtain ⟨g', o, he, hy⟩ := (own_rdA h).at k (lt_of_some hk)
  injection he with he
  injection he with e1 e2
  subst e1 e2
  rw [Nat.zero_add] at hy
  rw [hy, ← List.getElem?_eq_getElem (lt_of_some hk), hk]
/-- the rows' cells -/
def rowsC (ls : List (List Int)) : List Value := ls.flatMap fun t => (arrC t).toList
theorem rowsC_snoc (ls : List (List Int)) (t : List Int) : rowsC ls ++ (arrC t).toList = rowsC (ls ++ [t]) := by simp [rowsC]
/-- the first n states: do they accept? -/
def acC (q : List St) (n : Nat) : List Value := (q.take n).map fun s => .bool s.2
theorem acC_snoc {q : List St} {n : Nat} {s : St} (h : q[n]? = some s) : acC q n ++ [.bool s.2] = acC q (n + 1) := by
  unfold acC; rw [takeSucc h]; simp
theorem acC_pre {q q' : List St} {n : Nat} (h : q <+: q') (hn : n ≤ q.length) : acC q' n = acC q n := by
  unfold acC
  obtain ⟨r, rfl⟩ := h
  rw [List.take_append_of_le_length hn]
section
variable {w w' : World} {a b : Nat} {c c' : Array Value} {t t' : TypeId}
theorem Blk.ne (h : Blk w a c t) (h' : Blk w b c' t') (hne : t ≠ t') : a ≠ b := fun e => by
  subst e
  unfold Blk at h h'
  rw [h] at h'
  injection h' with h'
  injection h' with _ h2
  exact hne h2
theorem Blk.not_map (h : Blk w a c t) {P : Program} {k : TypeId} {R : Value → Option (DataW Nat × List MemPlace)} {M n : Nat} {D : DataW Nat} (hM : w.ownsMap P k R M n D) : a ≠ M := fun e => by
  subst e
  obtain ⟨es, clock, hb, _⟩ := hM
  rw [show w.heap[a]? = _ from h] at hb
  cases hb
theorem own_not_map {base size n : Nat} {e : TypeId} {v : Value} {xs : List Value} (h : w.ownsRow base e size v n xs) {P : Program} {k : TypeId} {R : Value → Option (DataW Nat × List MemPlace)} {M m : Nat} {D : DataW Nat} (hM : w.ownsMap P k R M m D) : v.ownBlock ≠ some M := fun hk => by
  rcases h.2 with ⟨rfl, _⟩ | ⟨g, cap, cur, rfl, _, hh, _⟩
  · simp [Value.ownBlock] at hk
  · have hg : g = M := by simpa [Value.ownBlock] using hk
    exact (Blk.not_map (w := w) (a := g) (c := cur) (t := e) hh hM) hg
theorem map_kp {F : Nat → Prop} {P : Program} {k : TypeId} {R : Value → Option (DataW Nat × List MemPlace)} {M n : Nat} {D : DataW Nat} (hM : w.ownsMap P k R M n D) (hk : Kp F w w') (hF : ¬ F M) : w'.ownsMap P k R M n D := by
  have hlt := hM.lt
  obtain ⟨es, clock, hb, r⟩ := hM
  exact ⟨es, clock, (hk.block M hlt hF).trans hb, r⟩
end
/-- 'append' of one element, at an operation of a plain region -/
theorem appL {P : Program} {ops : Array Oper} {rest : List Oper} {o : Oper} {a : Act} {Q : Exit → Act → World → Prop} {W : World} (base : Nat) (hgd : o.guard = none) (s x : Operand) (t e : TypeId) (z : Value) (size bytes : Nat)
    (ho : o.op = .call { callee := .builtin .append, args := #[s, x], argTypes := #[t, t] })
    (ht : P.underlying t = some (.slice e)) (hinfo : (P.info? e).map (fun i => (i.zero, i.size, i.bytes)) = some (some z, size, bytes)) (hzs : z.cells.size = size) (hsz : 0 < size) (hb0 : 0 < bytes)
    (v : Value) (n : Nat) (xs : List Value) (H : Nat) (cs : Array Value) (hs : a.eval s = v) (hx : a.eval x = .slice (some ⟨H, 0, none⟩) 1 1) (hl : cs.size = size) (h1 : ∀ u ∈ cs.toList, u.oneCell' = true)
    (hH : Blk W H cs e) (HO : W.ownsRow base e size v n xs) (hbase : base ≤ W.heap.size) (hle : (n + 1) * bytes ≤ 140737488355328)
    (h : ∀ g cap w1, w1.ownsRow base e size (.slice (some ⟨g, 0, none⟩) (n + 1) cap) (n + 1) (xs ++ cs.toList) → W.grownBy w1 v.ownBlock → (v.ownBlock = some g ∨ g = W.heap.size) → wpList P ops Q rest (a.put o.dst (.slice (some ⟨g, 0, none⟩) (n + 1) cap)) w1) :
    wpList P ops Q (o :: rest) a W := by
  obtain ⟨i0, hi, hzz⟩ := Option.map_eq_some_iff.1 hinfo
  simp only [Prod.mk.injEq] at hzz
  obtain ⟨hz0, hz1, hz2⟩ := hzz
  have hlen : n + 1 ≤ 140737488355328 := Nat.le_trans (Nat.le_mul_of_pos_right _ hb0) hle
  exact wpList_append_lies W hgd s x t ho base e i0 z size bytes ht hi hz0 hz1 hz2 hzs hsz v n xs hs HO ⟨H, 0, none⟩ 1 1 cs.toList hx (by simpa using hl)
    (World.news_of_block (cs := cs) (t := e) (fr := (0, 0)) hH) h1 (by omega) (by simp only [maxLen]; omega) hle hbase W.heap.size rfl (fun g cap w1 h1 h2 h3 _ => h g cap w1 h1 h2 h3)
/-- Compile's memory -/
structure Cm (base X E D M : Nat) (rs fs : List Nat) (en : En) (rv fv st tv av : Value) (q : List St) (ls : List (List Int)) (n : Nat) (w0 w : World) : Prop where
  bx : Blk w X #[rv, fv] 71
  be : Blk w E (enC en) 74
  bd : Blk w D #[tv, av] 81
  or_ : w.ownsRow base 84 4 rv rs.length (CS rs)
  of_ : w.ownsRow base 72 1 fv rs.length (U64 fs)
  os_ : w.ownsRow base 77 2 st q.length (sC q)
  ot : w.ownsRow base 35 256 tv n (rowsC ls)
  oa : w.ownsRow base 4 1 av n (acC q n)
  om : w.ownsMap Tryd.prog 77 (plainElem Tryd.prog 3) M q.length (numD q)
  kp : Below w0.heap.size w0 w
  hb : w0.heap.size ≤ base
  hx : base ≤ X
  he : base ≤ E
  hd : base ≤ D
  hm : base ≤ M
  le : base ≤ w.heap.size
section
variable {base X E D M n : Nat} {rs fs : List Nat} {en : En} {rv fv st tv av : Value} {q : List St} {ls : List (List Int)} {w0 w w' : World}
/-- what is Compile's own: the blocks that Cm speaks of -/
theorem Cm.keep (h : Cm base X E D M rs fs en rv fv st tv av q ls n w0 w) {F : Nat → Prop} (hk : Kp F w w') (hX : ¬ F X) (hE : ¬ F E) (hD : ¬ F D) (hM : ¬ F M) (h1 : ∀ z, rv.ownBlock = some z → ¬ F z) (h2 : ∀ z, fv.ownBlock = some z → ¬ F z) (h3 : ∀ z, st.ownBlock = some z → ¬ F z) (h4 : ∀ z, tv.ownBlock = some z → ¬ F z) (h5 : ∀ z, av.ownBlock = some z → ¬ F z) (h6 : ∀ z, F z → base ≤ z) : Cm base X E D M rs fs en rv fv st tv av q ls n w0 w' :=
  ⟨h.bx.kp hk hX, h.be.kp hk hE, h.bd.kp hk hD, ownKp h.or_ hk h1, ownKp h.of_ hk h2, ownKp h.os_ hk h3, ownKp h.ot hk h4, ownKp h.oa hk h5, map_kp h.om hk hM,
   ⟨hk.os.trans h.kp.os, hk.tape.trans h.kp.tape, hk.output.trans h.kp.output, Nat.le_trans h.kp.size hk.size, fun k hl => (hk.block k (Nat.lt_of_lt_of_le hl h.kp.size) (fun hf => by have := h6 k hf; have := h.hb; omega)).trans (h.kp.block k hl)⟩, h.hb, h.hx, h.he, h.hd, h.hm, Nat.le_trans h.le hk.size⟩
theorem Cm.below (h : Cm base X E D M rs fs en rv fv st tv av q ls n w0 w) (hb : Below w.heap.size w w') : Cm base X E D M rs fs en rv fv st tv av q ls n w0 w' :=
  h.keep (F := fun _ => False) (.of_below hb) (fun e => e) (fun e => e) (fun e => e) (fun e => e) (fun _ _ e => e) (fun _ _ e => e) (fun _ _ e => e) (fun _ _ e => e) (fun _ _ e => e) (fun _ e => e.elim)
theorem Cm.drew (h : Cm base X E D M rs fs en rv fv st tv av q ls n w0 w) : Cm base X E D M rs fs en rv fv st tv av q ls n w0 w.drew :=
  ⟨h.bx, h.be, h.bd, h.or_, h.of_, h.os_, h.ot, h.oa, h.om, ⟨h.kp.os, h.kp.tape, h.kp.output, h.kp.size, h.kp.block⟩, h.hb, h.hx, h.he, h.hd, h.hm, h.le⟩
/-- a cell of a block of another type, that is no row's -/
theorem Cm.other (h : Cm base X E D M rs fs en rv fv st tv av q ls n w0 w) {T : Nat} {c : Array Value} {t : TypeId} (hT : Blk w T c t) (h1 : t ≠ 71 ∧ t ≠ 74 ∧ t ≠ 81 ∧ t ≠ 84 ∧ t ≠ 72 ∧ t ≠ 4) (h2 : st.ownBlock ≠ some T) (h3 : tv.ownBlock ≠ some T) (h4 : base ≤ T) (hk : Kp (fun z => z = T) w w') : Cm base X E D M rs fs en rv fv st tv av q ls n w0 w' :=
  h.keep hk (fun e => (h.bx.ne hT (Ne.symm h1.1)) e) (fun e => (h.be.ne hT (Ne.symm h1.2.1)) e) (fun e => (h.bd.ne hT (Ne.symm h1.2.2.1)) e) (fun e => (hT.not_map h.om) e.symm)
    (fun z hz e => hT.not_row h1.2.2.2.1 h.or_ (by rw [hz, e])) (fun z hz e => hT.not_row h1.2.2.2.2.1 h.of_ (by rw [hz, e])) (fun z hz e => h2 (by rw [hz, e])) (fun z hz e => h3 (by rw [hz, e])) (fun z hz e => hT.not_row h1.2.2.2.2.2 h.oa (by rw [hz, e])) (fun z e => by omega)
theorem grown_map {w w' : World} {M : Nat} (hg : w.grownBy w' (some M)) : Kp (fun z => z = M) w w' := (Kp.of_grown hg).mono (fun z _ e => by injection e with e; exact e.symm)
/-- one state more: its number is laid down, it is appended -/
theorem Cm.snoc (h : Cm base X E D M rs fs en rv fv st tv av q ls n w0 w) {s : St} {w1 w2 w3 : World} {st' : Value} (ho : w1.ownsMap Tryd.prog 77 (plainElem Tryd.prog 3) M (q.length + 1) ((numD q).put (keyL s) (.lit (.int .i64 ((q.length : Nat) : Int))))) (hg : w.grownBy w1 (some M))
    (hb : Below w1.heap.size w1 w2) (hos : w3.ownsRow base 77 2 st' (q.length + 1) (sC q ++ stC s)) (hg3 : w2.grownBy w3 st.ownBlock) (hn : n ≤ q.length) : Cm base X E D M rs fs en rv fv st' tv av (q ++ [s]) ls n w0 w3 := by
  have hk1 : Kp (fun z => z = M) w w1 := grown_map hg
  have hk2 : Kp (fun z => z = M) w w2 := hk1.below hb
  have o2 := ownKp h.os_ hk2 (fun z hz e => own_not_map h.os_ h.om (by rw [hz, e]))
  have hk3 : Kp (fun z => st.ownBlock = some z) w2 w3 := Kp.of_grown hg3
  have F1 : ∀ z, z < w.heap.size → (z = M ∨ st.ownBlock = some z) → base ≤ z := fun z _ e => by
    rcases e with e | e
    · have := h.hm; omega
    · exact (own_lt h.os_ z e).1
  have hk : Kp (fun z => z = M ∨ st.ownBlock = some z) w w3 := (hk2.mono (fun _ _ e => .inl e)).step hk3 (fun _ _ e => .inr e)
  refine ⟨h.bx.kp hk ?_, h.be.kp hk ?_, h.bd.kp hk ?_, ownKp h.or_ hk ?_, ownKp h.of_ hk ?_, ?_, ownKp h.ot hk ?_, ?_, ?_, ?_, h.hb, h.hx, h.he, h.hd, h.hm, Nat.le_trans h.le hk.size⟩
  · exact fun e => e.elim (h.bx.not_map h.om) (fun e => h.bx.not_row (by decide) h.os_ e.symm)
  · exact fun e => e.elim (h.be.not_map h.om) (fun e => h.be.not_row (by decide) h.os_ e.symm)
  · exact fun e => e.elim (h.bd.not_map h.om) (fun e => h.bd.not_row (by decide) h.os_ e.symm)
  · exact fun z hz e => e.elim (fun e => own_not_map h.or_ h.om (by rw [hz, e])) (fun e => by rcases own_type_ne h.or_ h.os_ (by decide) with h1 | h1; rw [h1] at hz; cases hz; exact h1 (hz.trans e.symm))
  · exact fun z hz e => e.elim (fun e => own_not_map h.of_ h.om (by rw [hz, e])) (fun e => by rcases own_type_ne h.of_ h.os_ (by decide) with h1 | h1; rw [h1] at hz; cases hz; exact h1 (hz.trans e.symm))
  · rw [← sC_snoc]; simpa using hos
  · exact fun z hz e => e.elim (fun e => own_not_map h.ot h.om (by rw [hz, e])) (fun e => by rcases own_type_ne h.ot h.os_ (by decide) with h1 | h1; rw [h1] at hz; cases hz; exact h1 (hz.trans e.symm))
  · rw [acC_pre (List.prefix_append _ _) hn]
    exact ownKp h.oa hk (fun z hz e => e.elim (fun e => own_not_map h.oa h.om (by rw [hz, e])) (fun e => by rcases own_type_ne h.oa h.os_ (by decide) with h1 | h1; rw [h1] at hz; cases hz; exact h1 (hz.trans e.symm)))
  · rw [numD_snoc, List.length_append, List.length_singleton]
    have m2 := map_kp ho (Kp.of_below (S := fun _ => False) hb) (fun e => e)
    exact map_kp m2 hk3 (fun e => own_not_map o2 m2 e)
  · refine ⟨hk.os.trans h.kp.os, hk.tape.trans h.kp.tape, hk.output.trans h.kp.output, Nat.le_trans h.kp.size hk.size, fun k hl => (hk.block k (Nat.lt_of_lt_of_le hl h.kp.size) (fun hf => ?_)).trans (h.kp.block k hl)⟩
    have h1 := F1 k (Nat.lt_of_lt_of_le hl h.kp.size) hf
    have h2 := h.hb
    omega
/-- another block, meanwhile -/
theorem Blk.snoc {T : Nat} {c : Array Value} {t : TypeId} (hT : Blk w T c t) (ht : t ≠ 77) (h : Cm base X E D M rs fs en rv fv st tv av q ls n w0 w) {w1 w2 w3 : World} (hg : w.grownBy w1 (some M)) (hb : Below w1.heap.size w1 w2) (hg3 : w2.grownBy w3 st.ownBlock) : Blk w3 T c t := by
  have hk2 : Kp (fun z => z = M) w w2 := (grown_map hg).below hb
  have hk : Kp (fun z => z = M ∨ st.ownBlock = some z) w w3 := (hk2.mono (fun _ _ e => .inl e)).step (Kp.of_grown hg3) (fun _ _ e => .inr e)
  exact hT.kp hk (fun e => e.elim (hT.not_map h.om) (fun e => hT.not_row ht h.os_ e.symm))
end
end Go.Proofs.YtlocogccjlecjaaDoor
