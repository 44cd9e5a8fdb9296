import Derived.Test.YtlocogccjlecjaaDoorCmM
import Derived.Deep.WholeRow
import Derived.Great.BuildSlice
/- Compile: a state's row and its end are appended. -/
namespace Go.Proofs.YtlocogccjlecjaaDoor
open Go.RowKit
theorem size35 : (Tryd.prog.info? 35).map (·.size) = some 256 := by kernel_rfl
theorem exec_load35 {o : Oper} {a : Act} {w : World} {b : Nat} {c : Array Value} (x : Operand) (ho : o.op = .load 35 x) (hx : a.eval x = .pointer (some ⟨b, 0, none⟩)) (hb : Blk w b c 35) (hs : c.size = 256) : (execOp a.eval o).run Tryd.prog w = .ok (.value (.agg c)) w := by
  unfold execOp
  simp only [ho, hx, Instr.loadAt, Instr.sureAddr, Sem.run_bind, Sem.run_pure, Result.andThen_ok, run_loadVar_row w b 35 35 c (0, 0) _ hb Tryd.underlying35 rfl (by rw [hs]; exact size35)]
theorem info35z : ∃ i, Tryd.prog.info? 35 = some i ∧ i.zero = some (.agg (Array.replicate 256 (.int .i64 0))) ∧ i.size = 256 := by
  have h : (Tryd.prog.info? 35).map (fun i => (i.zero, i.size)) = some (some (.agg (Array.replicate 256 (.int .i64 0))), 256) := by kernel_rfl
  obtain ⟨i, hi, hz⟩ := Option.map_eq_some_iff.1 h
  simp only [Prod.mk.injEq] at hz
  exact ⟨i, hi, hz.1, hz.2⟩
theorem wp_bs27 {o : Oper} {a : Act} {w : World} {K : Act → World → Prop} {Q : Exit → Act → World → Prop} (x : Operand) (ho : o.op = .buildSlice 27 1 #[(0, x)]) (c : Array Value) (hx : a.eval x = .agg c) (hs : c.size = 256)
    (h : K (a.put o.dst (.slice (some ⟨w.heap.size, 0, none⟩) 1 1)) (w.alloc (.cells c 35))) : o.wp Tryd.prog a w K Q := by
  obtain ⟨ie, hie, hz, hsz⟩ := info35z
  refine wp_buildSlice 27 35 1 _ ho c ie _ Tryd.underlying27 hie hz (by rw [hsz]; decide) (by rw [hsz]; decide) ?_ h
  rw [hsz]
  have hw := Great.fill_whole (s := 256) (by decide) [Value.agg c] ((Array.range (1 * 256)).map ((Value.agg (Array.replicate 256 (.int .i64 0))).cells[· % (Value.agg (Array.replicate 256 (.int .i64 0))).cells.size]!)) (fun v hv => by rw [List.mem_singleton.1 hv]; exact hs) (by rw [Array.size_map, Array.size_range]; rfl)
  simp only [hx, List.map_toArray, List.map_cons, List.map_nil]
  have e : ([Value.agg c].flatMap fun v => v.cells.toList).toArray = c := by simp [Value.cells]
  rw [e] at hw
  exact hw
/-- Compile's memory, the automaton's cells and lists apart -/
structure Cx (base X E D M : Nat) (rs fs : List Nat) (en : En) (rv fv st : Value) (q : List St) (xv : Array Value) (tv : Value) (nt : Nat) (tl : List Value) (av : Value) (na : Nat) (al : List Value) (w0 w : World) : Prop where
  bx : Blk w X #[rv, fv] 71
  be : Blk w E (enC en) 74
  bd : Blk w D xv 81
  or_ : w.ownsRow base 84 4 rv rs.length (CS rs)
  of_ : w.ownsRow base 72 1 fv rs.length (U64 fs)
  os_ : w.ownsRow base 77 2 st q.length (sC q)
  ot : w.ownsRow base 35 256 tv nt tl
  oa : w.ownsRow base 4 1 av na al
  om : w.ownsMap Tryd.prog 77 (plainElem Tryd.prog 3) M q.length (numD q)
  kp : Below w0.heap.size w0 w
  hb : w0.heap.size ≤ base
  hx : base ≤ X
  he : base ≤ E
  hd : base ≤ D
  hm : base ≤ M
  le : base ≤ w.heap.size
section
variable {base X E D M n nt na : Nat} {rs fs : List Nat} {en : En} {rv fv st tv av : Value} {q : List St} {ls : List (List Int)} {w0 w w' : World} {xv : Array Value} {tl al : List Value}
theorem Cm.cx (h : Cm base X E D M rs fs en rv fv st tv av q ls n w0 w) : Cx base X E D M rs fs en rv fv st q #[tv, av] tv n (rowsC ls) av n (acC q n) w0 w :=
  ⟨h.bx, h.be, h.bd, h.or_, h.of_, h.os_, h.ot, h.oa, h.om, h.kp, h.hb, h.hx, h.he, h.hd, h.hm, h.le⟩
theorem Cx.cm (h : Cx base X E D M rs fs en rv fv st q #[tv, av] tv n (rowsC ls) av n (acC q n) w0 w) : Cm base X E D M rs fs en rv fv st tv av q ls n w0 w :=
  ⟨h.bx, h.be, h.bd, h.or_, h.of_, h.os_, h.ot, h.oa, h.om, h.kp, h.hb, h.hx, h.he, h.hd, h.hm, h.le⟩
theorem below_kp {w0 w w' : World} (h : Below w0.heap.size w0 w) {F : Nat → Prop} (hk : Kp F w w') (hF : ∀ z, F z → w0.heap.size ≤ z) : Below w0.heap.size w0 w' :=
  ⟨hk.os.trans h.os, hk.tape.trans h.tape, hk.output.trans h.output, Nat.le_trans h.size hk.size, fun k hl => (hk.block k (Nat.lt_of_lt_of_le hl h.size) (fun hf => by have := hF k hf; omega)).trans (h.block k hl)⟩
theorem own_ne {w : World} {b b' : Nat} {e e' : TypeId} {s s' n n' : Nat} {v v' : Value} {xs xs' : List Value} (h : w.ownsRow b e s v n xs) (h' : w.ownsRow b' e' s' v' n' xs') (hne : e ≠ e') {z : Nat} (hz : v.ownBlock = some z) : v'.ownBlock ≠ some z := fun e => by
  rcases own_type_ne h h' hne with h1 | h1
  · rw [h1] at hz; cases hz
  · exact h1 (hz.trans e.symm)
theorem Cx.below (h : Cx base X E D M rs fs en rv fv st q xv tv nt tl av na al w0 w) (hb : Below w.heap.size w w') : Cx base X E D M rs fs en rv fv st q xv tv nt tl av na al w0 w' := by
  have hk : Kp (fun _ => False) w w' := .of_below hb
  exact ⟨h.bx.below hb, h.be.below hb, h.bd.below hb, own_below h.or_ hb, own_below h.of_ hb, own_below h.os_ hb, own_below h.ot hb, own_below h.oa hb, map_kp h.om hk (fun e => e), below_kp h.kp hk (fun _ e => e.elim), h.hb, h.hx, h.he, h.hd, h.hm, Nat.le_trans h.le hb.size⟩
theorem Cx.drew (h : Cx base X E D M rs fs en rv fv st q xv tv nt tl av na al w0 w) : Cx base X E D M rs fs en rv fv st q xv tv nt tl av na al w0 w.drew :=
  ⟨h.bx, h.be, h.bd, h.or_, h.of_, h.os_, h.ot, h.oa, h.om, ⟨h.kp.os, h.kp.tape, h.kp.output, h.kp.size, h.kp.block⟩, h.hb, h.hx, h.he, h.hd, h.hm, h.le⟩
theorem Cx.alloc (h : Cx base X E D M rs fs en rv fv st q xv tv nt tl av na al w0 w) (c : Array Value) (t : TypeId) : Cx base X E D M rs fs en rv fv st q xv tv nt tl av na al w0 (w.alloc (.cells c t)) := h.below (by go_grown)
theorem Cx.appT (h : Cx base X E D M rs fs en rv fv st q xv tv nt tl av na al w0 w) {tv' : Value} {nt' : Nat} {tl' : List Value} (ho : w'.ownsRow base 35 256 tv' nt' tl') (hg : w.grownBy w' tv.ownBlock) : Cx base X E D M rs fs en rv fv st q xv tv' nt' tl' av na al w0 w' := by
  have hk := Kp.of_grown hg
  exact ⟨h.bx.kp hk (fun e => h.bx.not_row (by decide) h.ot e.symm), h.be.kp hk (fun e => h.be.not_row (by decide) h.ot e.symm), h.bd.kp hk (fun e => h.bd.not_row (by decide) h.ot e.symm),
    ownKp h.or_ hk (fun z hz => own_ne h.or_ h.ot (by decide) hz), ownKp h.of_ hk (fun z hz => own_ne h.of_ h.ot (by decide) hz), ownKp h.os_ hk (fun z hz => own_ne h.os_ h.ot (by decide) hz), ho, ownKp h.oa hk (fun z hz => own_ne h.oa h.ot (by decide) hz),
    map_kp h.om hk (own_not_map h.ot h.om), below_kp h.kp hk (fun z e => Nat.le_trans h.hb (own_lt h.ot z e).1), h.hb, h.hx, h.he, h.hd, h.hm, Nat.le_trans h.le hk.size⟩
theorem Cx.appA (h : Cx base X E D M rs fs en rv fv st q xv tv nt tl av na al w0 w) {av' : Value} {na' : Nat} {al' : List Value} (ho : w'.ownsRow base 4 1 av' na' al') (hg : w.grownBy w' av.ownBlock) : Cx base X E D M rs fs en rv fv st q xv tv nt tl av' na' al' w0 w' := by
  have hk := Kp.of_grown hg
  exact ⟨h.bx.kp hk (fun e => h.bx.not_row (by decide) h.oa e.symm), h.be.kp hk (fun e => h.be.not_row (by decide) h.oa e.symm), h.bd.kp hk (fun e => h.bd.not_row (by decide) h.oa e.symm),
    ownKp h.or_ hk (fun z hz => own_ne h.or_ h.oa (by decide) hz), ownKp h.of_ hk (fun z hz => own_ne h.of_ h.oa (by decide) hz), ownKp h.os_ hk (fun z hz => own_ne h.os_ h.oa (by decide) hz), ownKp h.ot hk (fun z hz => own_ne h.ot h.oa (by decide) hz), ho,
    map_kp h.om hk (own_not_map h.oa h.om), below_kp h.kp hk (fun z e => Nat.le_trans h.hb (own_lt h.oa z e).1), h.hb, h.hx, h.he, h.hd, h.hm, Nat.le_trans h.le hk.size⟩
theorem Cx.setD (h : Cx base X E D M rs fs en rv fv st q xv tv nt tl av na al w0 w) (i : Nat) (u : Value) : Cx base X E D M rs fs en rv fv st q (xv.setIfInBounds i u) tv nt tl av na al w0 (w.setCell ⟨D, i, none⟩ u) := by
  have hk : Kp (fun z => z = D) w (w.setCell ⟨D, i, none⟩ u) := (Kp.refl _ w).set D i u (fun _ => rfl)
  have nr : ∀ {e : TypeId} {size n : Nat} {v : Value} {xs : List Value}, w.ownsRow base e size v n xs → (81 : TypeId) ≠ e → ∀ z, v.ownBlock = some z → ¬ z = D := fun ho hne z hz e => h.bd.not_row hne ho (by rw [hz, e])
  exact ⟨h.bx.kp hk (h.bx.ne h.bd (by decide)), h.be.kp hk (h.be.ne h.bd (by decide)), h.bd.set i u, ownKp h.or_ hk (nr h.or_ (by decide)), ownKp h.of_ hk (nr h.of_ (by decide)), ownKp h.os_ hk (nr h.os_ (by decide)), ownKp h.ot hk (nr h.ot (by decide)), ownKp h.oa hk (nr h.oa (by decide)),
    map_kp h.om hk (fun e => h.bd.not_map h.om e.symm), below_kp h.kp hk (fun z e => by have := h.hd; have := h.hb; omega), h.hb, h.hx, h.he, h.hd, h.hm, Nat.le_trans h.le hk.size⟩
theorem Cx.fin {t : List Int} {s : St} {tv' av' : Value} (h : Cx base X E D M rs fs en rv fv st q xv tv' (n + 1) (rowsC ls ++ (arrC t).toList) av' (n + 1) (acC q n ++ [.bool s.2]) w0 w) (hx : xv = #[tv', av']) (hs : q[n]? = some s) : Cm base X E D M rs fs en rv fv st tv' av' q (ls ++ [t]) (n + 1) w0 w := by
  subst hx
  rw [rowsC_snoc, acC_snoc hs] at h
  exact h.cm
/-- what the region's loads see -/
def SeX (D T : Nat) (tv av : Value) (c : Array Value) (g k : Nat) (e : Bool) (w : World) : Prop := Blk w D #[tv, av] 81 ∧ Blk w T c 35 ∧ w.cell? ⟨g, k, none⟩ = some (.bool e)
end
end Go.Proofs.YtlocogccjlecjaaDoor
