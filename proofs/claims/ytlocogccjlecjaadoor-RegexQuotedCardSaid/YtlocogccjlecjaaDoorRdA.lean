import Derived.Test.YtlocogccjlecjaaDoorRdL
/- read's contract; link on the places. -/
namespace Go.Proofs.YtlocogccjlecjaaDoor
open Go.RowKit
/-- read's contract at a tree -/
def RdC (B x : Nat) (t : Rx) : Prop := ∀ (S : Nat → Prop) (v : Value) (rs fs : List Nat) (w : World), Tr (fun b => b < x) w v t → B ≤ w.heap.size → Pl B x S w rs fs → (∀ z, S z → z < w.heap.size) → rs.length + leaves t ≤ 64 → Tab w → t.sz ≤ 1000 →
  Calls Tryd.prog 28 #[.pointer (some ⟨x, 0, none⟩), v] w fun e w' => RdPost B x S t rs fs w e w'
section
variable {B x : Nat} {S S2 : Nat → Prop} {w w' : World} {rs fs : List Nat}
theorem Pl.len (h : Pl B x S w rs fs) : rs.length = fs.length := by
  obtain ⟨_, _, _, _, n, h1, h2, _⟩ := h
  omega
theorem Pl.bx (h : Pl B x S w rs fs) : x < w.heap.size := by
  obtain ⟨_, _, _, _, n, h1, h2, h3, _⟩ := h
  exact h3.lt
theorem Pl.mono (h : Pl B x S w rs fs) (hS : ∀ z, z < w.heap.size → S z → S2 z) : Pl B x S2 w rs fs := by
  obtain ⟨rA, rc, fA, fc, n, h1, h2, h3, h4, h5, h6, h7, h8⟩ := h
  exact ⟨rA, rc, fA, fc, n, h1, h2, h3, h4, h5, fun z hz => hS z (own_lt h4 z hz).2 (h6 z hz), fun z hz => hS z (own_lt h5 z hz).2 (h7 z hz), h8⟩
theorem Pl.kp (h : Pl B x S w rs fs) {F : Nat → Prop} (hk : Kp F w w') (hx : ¬ F x) (hS : ∀ z, S z → B ≤ z → ¬ F z) : Pl B x S w' rs fs := by
  obtain ⟨rA, rc, fA, fc, n, h1, h2, h3, h4, h5, h6, h7, h8⟩ := h
  exact ⟨rA, rc, fA, fc, n, h1, h2, h3.kp hk hx, ownKp h4 hk (fun z hz => hS z (h6 z hz) (own_lt h4 z hz).1), ownKp h5 hk (fun z hz => hS z (h7 z hz) (own_lt h5 z hz).1), h6, h7, h8⟩
theorem Pl.below (h : Pl B x S w rs fs) (hb : Below w.heap.size w w') : Pl B x S w' rs fs := h.kp (F := fun _ => False) (.of_below hb) (fun e => e) (fun _ _ _ e => e)
end
/-- link on the places -/
theorem link_pl {B x : Nat} {S : Nat → Prop} {w : World} {rs fs : List Nat} (hp : Pl B x S w rs fs) (hx : x < B) {a b : Nat} (ha : a < 18446744073709551616) (hb : b < 18446744073709551616) (hab : ∀ j, a.testBit j = true → j < rs.length) (hT : Tab w) :
    Calls Tryd.prog 43 #[.pointer (some ⟨x, 0, none⟩), .int .u64 ((a : Nat) : Int), .int .u64 ((b : Nat) : Int)] w fun e w' => e = .returned (.tuple #[]) ∧ Pl B x S w' rs (linkF fs a b) ∧ Kp (fun z => z = x ∨ (B ≤ z ∧ S z)) w w' := by
  obtain ⟨rA, rc, fA, fc, n, h1, h2, h3, h4, h5, h6, h7, h8⟩ := hp
  refine (link_any x (.slice rA n rc) fA n fc B fs a b w h3 h5 h2 h8 ha hb (fun j hj => by rw [← h1]; exact hab j hj) hT (by omega)).mono ?_
  rintro e w' ⟨rfl, h9, h10, hk⟩
  have hnx : ¬ (Value.slice fA n fc).ownBlock = some x := fun e => h3.not_row (by decide) h5 e.symm
  refine ⟨rfl, ⟨rA, rc, fA, fc, n, h1, by rw [linkF_length]; exact h2, h3.kp hk hnx, ownKp h4 hk (fun z hz e => ?_), h9, h6, h7, h10⟩, hk.mono (fun z _ hz => .inr ⟨(own_lt h5 z hz).1, h7 z hz⟩)⟩
  rcases own_type_ne h4 h5 (by decide) with h | h
  · rw [h] at hz; cases hz
  · exact h (hz.trans e.symm)
theorem rdC_leaf (B x N : Nat) (hx : x < B) : RdC B x (.leaf N) := fun S v rs fs w ht hB hp _ hl _ _ => by
  cases ht with
  | leaf _ _ => exact read_leaf B x N S rs fs w hx hB hp hl
  | row _ _ h => cases h
  | fork _ _ h => cases h
/-- within read: between two parts -/
theorem rd_next {B x H : Nat} {S : Nat → Prop} {w0 w w' : World} (hH : w0.heap.size ≤ H) (hk : Kp (fun z => z = x ∨ (B ≤ z ∧ S z)) w0 w) (h2 : Kp (fun z => z = x ∨ (B ≤ z ∧ ((S z ∨ H ≤ z) ∧ z < w.heap.size))) w w') : Kp (fun z => z = x ∨ (B ≤ z ∧ S z)) w0 w' :=
  hk.step h2 (fun k hl h => h.imp id (fun ⟨a, b, _⟩ => ⟨a, b.resolve_right (by omega)⟩))
end Go.Proofs.YtlocogccjlecjaaDoor
