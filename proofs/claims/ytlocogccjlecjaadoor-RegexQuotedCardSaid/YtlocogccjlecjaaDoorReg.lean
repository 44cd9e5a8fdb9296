import Derived.Test.YtlocogccjlecjaaDoorMem
import Derived.OrdersHeld
/- A region that draws its order, loads cells, and writes the same cells at its end: what holds of the world till operation number k (the first store) has come up. -/
namespace Go.Proofs.YtlocogccjlecjaaDoor
open Go.RowKit
section
variable {P : Program} {ops : Array Oper} {Q : Exit → Act → World → Prop} {md : Region.Mode} {S : World → Prop} {k : Nat}
/-- whatever order is picked; behind each operation S holds, till k has come up -/
def wpS (P : Program) (md : Region.Mode) (ops : Array Oper) (Q : Exit → Act → World → Prop) (k : Nat) (S : World → Prop) : Nat → Array Bool → Act → World → Prop
  | 0, l, a, w => Region.ready md ops l = [] ∧ Q .normal a w
  | f + 1, l, a, w => (Region.ready md ops l = [] → Q .normal a w) ∧
    ∀ i ∈ Region.ready md ops l, wpOp P ops Q i (fun a' w' => ((l.setIfInBounds i true).getD k false = true ∨ S w') ∧ wpS P md ops Q k S f (l.setIfInBounds i true) a' w') a w
theorem wpS.any : ∀ (f : Nat) (l : Array Bool) (a : Act) (w : World), wpS P md ops Q k S f l a w → wpAny P md ops Q f l a w
  | 0, _, _, _, h => h
  | f + 1, _, _, _, h => ⟨h.1, fun i hi => wpOp_mono (fun a' w' h' => h'.2.any f _ a' w') (h.2 i hi)⟩
def Waits (md : Region.Mode) (ops : Array Oper) (k i : Nat) : Prop := ∃ o, ops[k]? = some o ∧ ∃ e ∈ o.after, Region.binds md e = true ∧ e.on = i
theorem unlisted {l : Array Bool} {i : Nat} (h : l.getD i true = false) : l.getD i false = false := by
  rcases Nat.lt_or_ge i l.size with h' | h'
  · simp [h'] at h ⊢; exact h
  · simp [Array.getElem?_eq_none h']
theorem Waits.not {l : Array Bool} {i : Nat} (hw : Waits md ops k i) (hi : l.getD i true = false) : k ∉ Region.ready md ops l := fun h => by
  obtain ⟨_, o, ho, hall⟩ := mem_ready.1 h
  obtain ⟨o2, ho2, e, he, hb, rfl⟩ := hw
  rw [ho] at ho2
  cases ho2
  have := hall e he hb
  rw [unlisted hi] at this
  cases this
theorem wpS_first {S2 : World → Prop} {i : Nat} {oi : Oper} {v : Value} (hi : ops[i]? = some oi) (hsel : ∀ (j : Nat) (o : Oper) cs b, ops[j]? = some o → o.op ≠ .select cs b)
    (hQ : ∀ c a w, Q (.panic c) (a.put oi.dst v) w → Q (.panic c) a w) : ∀ (f : Nat) (l : Array Bool) (a : Act) (w : World),
      (((∀ w, S2 w) ∧ i ≠ k) ∨ (S2 = S ∧ Waits md ops k i ∧ l.getD k false = false)) →
      (∀ j oj, ops[j]? = some oj → j ≠ i → l.getD j true = false → (∀ e ∈ oj.after, Region.binds md e = true → e.on ≠ i) → oi.apart ops oj = true) →
      i ∈ Region.ready md ops l → YieldsIf P ops S2 oi v a → (l.getD k false = true ∨ S w) → S2 w →
      wpS P md ops Q k S f (l.setIfInBounds i true) (a.put oi.dst v) w → wpS P md ops Q k S (f + 1) l a w := by
  intro f
  induction f with
  | zero =>
    intro l a w hm _ hr hy hS0 hS H
    refine ⟨fun h => (by rw [h] at hr; cases hr), fun j hj => ?_⟩
    by_cases hji : j = i
    · subst hji
      exact hy.wpOp hi hS ⟨hS0.imp getD_set_true id, H⟩
    · have := ready_mono hj hji
      rw [H.1] at this
      cases this
  | succ f ih =>
    intro l a w hm hfree hr hy hS0 hS H
    refine ⟨fun h => (by rw [h] at hr; cases hr), fun j hj => ?_⟩
    by_cases hji : j = i
    · subst hji
      exact hy.wpOp hi hS ⟨hS0.imp getD_set_true id, H⟩
    · have h1 := H.2 j (ready_mono hj hji)
      obtain ⟨hjun, oj, hoj, hall⟩ := mem_ready.1 hj
      have hiun := (mem_ready.1 hr).1
      have hnot : ∀ e ∈ oj.after, Region.binds md e = true → e.on ≠ i := fun e he hb heq => by
        have h1 := hall e he hb
        rw [heq, unlisted hiun] at h1
        cases h1
      have h2 := wpOp_putIf hoj (hfree j oj hoj hji hjun hnot) (fun cs b => hsel i oi cs b hi) (fun cs b => hsel j oj cs b hoj) hQ hy h1
      have hfree' : ∀ k ok, ops[k]? = some ok → k ≠ i → (l.setIfInBounds j true).getD k true = false →
          (∀ e ∈ ok.after, Region.binds md e = true → e.on ≠ i) → oi.apart ops ok = true := fun k ok hk hki hun hno => by
        refine hfree k ok hk hki ?_ hno
        by_cases hjk : j = k
        · subst hjk; exact hjun
        · rw [getD_set_ne true hjk] at hun; exact hun
      have hm2 : ((∀ w, S2 w) ∧ i ≠ k) ∨ (S2 = S ∧ Waits md ops k i ∧ (l.setIfInBounds j true).getD k false = false) := by
        refine hm.imp id (fun ⟨e, hw, hk⟩ => ⟨e, hw, ?_⟩)
        have hjk : j ≠ k := fun e => hw.not hiun (e ▸ hj)
        rw [getD_set_ne false hjk]
        exact hk
      refine wpOp_mono (fun a' w' h3 => ?_) h2
      have hR : ((l.setIfInBounds j true).getD k false = true ∨ S w') ∧ S2 w' := by
        rcases hm with ⟨h, hik⟩ | ⟨e, hw, hk⟩
        · refine ⟨?_, h w'⟩
          rcases h3.2.1 with h4 | h4
          · rw [Array.setIfInBounds_comm _ _ (Ne.symm hji), getD_set_ne false hik] at h4
            exact .inl h4
          · exact .inr h4
        · have hik : i ≠ k := fun e => hw.not hiun (e ▸ hr)
          have hjk : j ≠ k := fun e => hw.not hiun (e ▸ hj)
          have h4 : S w' := by
            rcases h3.2.1 with h4 | h4
            · rw [getD_set_ne false hjk, getD_set_ne false hik, hk] at h4
              cases h4
            · exact h4
          exact ⟨.inr h4, e ▸ h4⟩
      refine ⟨hR.1, ih (l.setIfInBounds j true) a' w' hm2 hfree' (ready_mono hr (Ne.symm hji)) h3.1 hR.1 hR.2 ?_⟩
      rw [Array.setIfInBounds_comm _ _ hji]
      exact h3.2.2
def waits (md : Region.Mode) (ops : Array Oper) (k i : Nat) : Bool := ((ops[k]?).map (·.after.any fun e => Region.binds md e && e.on == i)).getD false
theorem waits.is {i : Nat} (h : waits md ops k i = true) : Waits md ops k i := by
  unfold waits at h
  cases ho : ops[k]? with
  | none => rw [ho] at h; cases h
  | some o =>
    rw [ho] at h
    obtain ⟨e, he, hb⟩ := Array.any_eq_true'.1 h
    simp only [Bool.and_eq_true, beq_iff_eq] at hb
    exact ⟨o, ho, e, he, hb⟩
theorem getOp {i : Nat} {oi : Oper} {r : List Oper} (h : ops.toList.drop i = oi :: r) : ops[i]? = some oi := by
  have h1 : (ops.toList.drop i)[0]? = some oi := by rw [h]; rfl
  rw [List.getElem?_drop] at h1
  simpa using h1
/-- taken first: in whatever world -/
theorem wpS_take0 {i : Nat} {oi : Oper} {r : List Oper} {v : Value} {f : Nat} {l : Array Bool} {a : Act} {w : World} (hi : ops.toList.drop i = oi :: r) (hs : Region.noSelect ops = true) (hf : Region.free md ops l i = true)
    (hr : (Region.ready md ops l).contains i = true) (hik : (i == k) = false) (hQ : ∀ c a w, Q (.panic c) (a.put oi.dst v) w → Q (.panic c) a w) (hw : Region.wanted oi (yielded ops a.tmps) = true) (hy : ∀ w, (execOp a.eval oi).run P w = .ok (.value v) w)
    (hS : S w) (h : wpS P md ops Q k S f (l.setIfInBounds i true) (a.put oi.dst v) w) : wpS P md ops Q k S (f + 1) l a w :=
  wpS_first (S2 := fun _ => True) (getOp hi) (Region.noSelect_spec hs) hQ f l a w (.inl ⟨fun _ => trivial, by simpa using hik⟩) (Region.free_spec (getOp hi) hf) (by simpa using hr) (.inl ⟨hw, fun w _ => hy w⟩) (.inr hS) trivial h
/-- taken first: a load -/
theorem wpS_take {i : Nat} {oi : Oper} {r : List Oper} {v : Value} {f : Nat} {l : Array Bool} {a : Act} {w : World} (hi : ops.toList.drop i = oi :: r) (hs : Region.noSelect ops = true) (hf : Region.free md ops l i = true)
    (hr : (Region.ready md ops l).contains i = true) (hwt : waits md ops k i = true) (hk : l.getD k false = false) (hQ : ∀ c a w, Q (.panic c) (a.put oi.dst v) w → Q (.panic c) a w)
    (hw : Region.wanted oi (yielded ops a.tmps) = true) (hy : ∀ w, S w → (execOp a.eval oi).run P w = .ok (.value v) w)
    (hS : S w) (h : wpS P md ops Q k S f (l.setIfInBounds i true) (a.put oi.dst v) w) : wpS P md ops Q k S (f + 1) l a w :=
  wpS_first (getOp hi) (Region.noSelect_spec hs) hQ f l a w (.inr ⟨rfl, waits.is hwt, hk⟩) (Region.free_spec (getOp hi) hf) (by simpa using hr) (.inl ⟨hw, hy⟩) (.inr hS) hS h
/-- what comes up next -/
def Nxt (P : Program) (md : Region.Mode) (ops : Array Oper) (Q : Exit → Act → World → Prop) (k : Nat) (S : World → Prop) (f : Nat) (l : Array Bool) (a : Act) (w : World) (i : Nat) : Prop :=
  wpOp P ops Q i (fun a' w' => ((l.setIfInBounds i true).getD k false = true ∨ S w') ∧ wpS P md ops Q k S f (l.setIfInBounds i true) a' w') a w
theorem Nxt.step {i : Nat} {o : Oper} {r : List Oper} {f : Nat} {l : Array Bool} {a : Act} {w : World} (ho : ops.toList.drop i = o :: r)
    (h : ∀ K' : Act → World → Prop, RowKit.Hid (∀ a w, ((l.setIfInBounds i true).getD k false = true ∨ S w) → wpS P md ops Q k S f (l.setIfInBounds i true) a w → K' a w) → if Region.wanted o (yielded ops a.tmps) = true then Oper.wp P o a w K' Q else K' (a.put o.dst undef) w) : Nxt P md ops Q k S f l a w i :=
  wpOp_step (getOp ho) (fun K' hK => h K' (Lib.hid (fun a w hS hW => hK a w ⟨hS, hW⟩)))
theorem wpS_one {i : Nat} {f : Nat} {l : Array Bool} {a : Act} {w : World} (hr : Region.ready md ops l = [i]) (h : Nxt P md ops Q k S f l a w i) : wpS P md ops Q k S (f + 1) l a w :=
  ⟨fun h0 => (by rw [hr] at h0; cases h0), fun j hj => by rw [hr, List.mem_singleton] at hj; subst hj; exact h⟩
theorem wpS_two {i j : Nat} {f : Nat} {l : Array Bool} {a : Act} {w : World} (hr : Region.ready md ops l = [i, j]) (h : Nxt P md ops Q k S f l a w i) (h2 : Nxt P md ops Q k S f l a w j) : wpS P md ops Q k S (f + 1) l a w :=
  ⟨fun h0 => (by rw [hr] at h0; cases h0), fun m hm => by
    rw [hr] at hm
    rcases List.mem_cons.1 hm with rfl | hm
    · exact h
    · rw [List.mem_singleton] at hm; subst hm; exact h2⟩
theorem wpS_done {l : Array Bool} {a : Act} {w : World} (hr : Region.ready md ops l = []) (h : Q .normal a w) : ∀ f, wpS P md ops Q k S f l a w
  | 0 => ⟨hr, h⟩
  | _ + 1 => ⟨fun _ => h, by rw [hr]; simp⟩
theorem wp_region_S {id : Nat} {a : Act} {w : World} (k : Nat) (S : World → Prop) (hm : P.follows .mixedOrders = true) (h : wpS P .any ops Q k S ops.size (Array.replicate ops.size false) a w.drew) : (Code.region id ops true).wp P Q a w :=
  wp_region_any hm (h.any _ _ _ _)
end
end Go.Proofs.YtlocogccjlecjaaDoor
