import Derived.Test.YtlocogccjlecjaaDoorLivR
import Derived.Test.YtlocogccjlecjaaDoorLivW
/- RegexLives: its walk. -/
namespace Go.Proofs.YtlocogccjlecjaaDoor
open Go.RowKit
def BB (a : List Bool) : List Value := a.map fun x => .bool x
theorem BB_snoc (a : List Bool) (x : Bool) : BB a ++ [.bool x] = BB (a ++ [x]) := by simp [BB]
theorem BB_set (a : List Bool) (i : Nat) (x : Bool) : BB (a.set i x) = (BB a).set i (.bool x) := by simp [BB, List.map_set]
theorem BB_get {a : List Bool} {i : Nat} {x : Bool} (h : a[i]? = some x) : (BB a)[i]? = some (.bool x) := by unfold BB; rw [List.getElem?_map, h]; rfl
/-- two lists of bools, of the law's own -/
structure Lm (B : Nat) (lv mv : Value) (a b : List Bool) (wc w : World) : Prop where
  ol : w.ownsRow B 4 1 lv a.length (BB a)
  om : w.ownsRow B 4 1 mv b.length (BB b)
  ap : ∀ z, lv.ownBlock = some z → mv.ownBlock ≠ some z
  kb : Below wc.heap.size wc w
  hB : wc.heap.size ≤ B
  le : B ≤ w.heap.size
section
variable {B g : Nat} {lv mv v' : Value} {a b : List Bool} {wc w w2 w3 : World} {x : Bool}
theorem Lm.below (h : Lm B lv mv a b wc w) (hb : Below w.heap.size w w2) : Lm B lv mv a b wc w2 :=
  ⟨own_below h.ol hb, own_below h.om hb, h.ap, h.kb.trans (hb.mono h.kb.size), h.hB, Nat.le_trans h.le hb.size⟩
theorem Lm.appL (h : Lm B lv mv a b wc w) {n cap : Nat} (hn : a.length = n) (os : w3.ownsRow B 4 1 (.slice (some ⟨g, 0, none⟩) (n + 1) cap) (n + 1) (BB a ++ [.bool x])) (hg : w.grownBy w3 lv.ownBlock) (hat : lv.ownBlock = some g ∨ g = w.heap.size) : Lm B (.slice (some ⟨g, 0, none⟩) (n + 1) cap) mv (a ++ [x]) b wc w3 := by
  subst hn
  refine ⟨by rw [BB_snoc] at os; rw [List.length_append]; exact os, h.om.kept hg ?_, fun z hz e => ?_, below_kp h.kb (Kp.of_grown hg) (fun z hz => Nat.le_trans h.hB (own_lt h.ol z hz).1), h.hB, Nat.le_trans h.le hg.size⟩
  · cases hm : mv.ownBlock with
    | none => exact .inl rfl
    | some z => exact .inr (fun e => h.ap z e.symm hm)
  · have e2 : g = z := by simpa [Value.ownBlock] using hz
    subst e2
    rcases hat with h1 | h1
    · exact h.ap _ h1 e
    · have := (own_lt h.om _ e).2; omega
theorem Lm.appM (h : Lm B lv mv a b wc w) {n cap : Nat} (hn : b.length = n) (os : w3.ownsRow B 4 1 (.slice (some ⟨g, 0, none⟩) (n + 1) cap) (n + 1) (BB b ++ [.bool x])) (hg : w.grownBy w3 mv.ownBlock) (hat : mv.ownBlock = some g ∨ g = w.heap.size) : Lm B lv (.slice (some ⟨g, 0, none⟩) (n + 1) cap) a (b ++ [x]) wc w3 := by
  subst hn
  refine ⟨h.ol.kept hg ?_, by rw [BB_snoc] at os; rw [List.length_append]; exact os, fun z hz e => ?_, below_kp h.kb (Kp.of_grown hg) (fun z hz => Nat.le_trans h.hB (own_lt h.om z hz).1), h.hB, Nat.le_trans h.le hg.size⟩
  · cases hm : lv.ownBlock with
    | none => exact .inl rfl
    | some z => exact .inr (fun e => h.ap z hm e.symm)
  · have e2 : g = z := by simpa [Value.ownBlock] using e
    subst e2
    rcases hat with h1 | h1
    · exact h.ap _ hz h1
    · have := (own_lt h.ol _ hz).2; omega
theorem Lm.setM {n c i : Nat} (h : Lm B lv (.slice (some ⟨g, 0, none⟩) n c) a b wc w) (hn : b.length = n) : Lm B lv (.slice (some ⟨g, 0, none⟩) n c) a (b.set i x) wc (w.setCell ⟨g, i, none⟩ (.bool x)) := by
  subst hn
  have hb : Kp (fun z => z = g) w (w.setCell ⟨g, i, none⟩ (.bool x)) := (Kp.refl _ w).set g i _ (fun _ => rfl)
  have st := (World.ownsRow.stored h.om i (.bool x)).1
  refine ⟨ownKp h.ol hb (fun z hz e => h.ap z hz (by rw [e]; rfl)), by rw [BB_set, List.length_set]; exact st, h.ap, below_kp h.kb hb (fun z e => by have := (own_lt h.om g rfl).1; have := h.hB; omega), h.hB, by simpa using h.le⟩
theorem Lm.setL {n c i : Nat} (h : Lm B (.slice (some ⟨g, 0, none⟩) n c) mv a b wc w) (hn : a.length = n) : Lm B (.slice (some ⟨g, 0, none⟩) n c) mv (a.set i x) b wc (w.setCell ⟨g, i, none⟩ (.bool x)) := by
  subst hn
  have hb : Kp (fun z => z = g) w (w.setCell ⟨g, i, none⟩ (.bool x)) := (Kp.refl _ w).set g i _ (fun _ => rfl)
  have st := (World.ownsRow.stored h.ol i (.bool x)).1
  refine ⟨by rw [BB_set, List.length_set]; exact st, ownKp h.om hb (fun z hz e => h.ap g rfl (by rw [hz, e])), h.ap, below_kp h.kb hb (fun z e => by have := (own_lt h.ol g rfl).1; have := h.hB; omega), h.hB, by simpa using h.le⟩
theorem own_frozen {n c i : Nat} {e : TypeId} {size : Nat} {xs : List Value} (h : w.ownsRow B e size (.slice (some ⟨g, 0, none⟩) n c) n xs) : w.frozen? ⟨g, i, none⟩ = false := World.ownsRow.frozenAt h i
end
end Go.Proofs.YtlocogccjlecjaaDoor
