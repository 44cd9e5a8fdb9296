import Derived.Test.YtlocogccjlecjaaDoorRxP
/- Trees as they lie in memory: the parts' slices in blocks of which P holds. -/
namespace Go.Proofs.YtlocogccjlecjaaDoor
open Go.RowKit
mutual
inductive Tr (P : Nat → Prop) (w : World) : Value → Rx → Prop
  | leaf (N : Nat) (h : N < 2 ^ 256) (h0 : N ≠ 0) : Tr P w (.iface 118 (.agg (setC N))) (.leaf N)
  | row {A : Option Addr} {n c : Nat} {vs : List Value} {t : Rx} (hn : vs.length = n) (hr : Rp P w A vs) (h : RowT P w vs t) : Tr P w (.iface 121 (.agg #[.slice A n c])) t
  | fork {A : Option Addr} {n c : Nat} {vs : List Value} {t : Rx} (hn : vs.length = n) (hr : Rp P w A vs) (h : ForkT P w vs t) : Tr P w (.iface 123 (.agg #[.slice A n c])) t
  | loop {v : Value} {t : Rx} {a b : Bool} (h : Tr P w v t) : Tr P w (.iface 125 (.agg #[v, .bool a, .bool b])) (.loop t a b)
inductive RowT (P : Nat → Prop) (w : World) : List Value → Rx → Prop
  | nil : RowT P w [] .eps
  | snoc {vs : List Value} {v : Value} {t r : Rx} (h : RowT P w vs t) (h2 : Tr P w v r) : RowT P w (vs ++ [v]) (.seq t r)
inductive ForkT (P : Nat → Prop) (w : World) : List Value → Rx → Prop
  | nil : ForkT P w [] .no
  | snoc {vs : List Value} {v : Value} {t r : Rx} (h : ForkT P w vs t) (h2 : Tr P w v r) : ForkT P w (vs ++ [v]) (.alt t r)
end
section
variable {P P2 S : Nat → Prop} {w w' : World}
theorem Rp.kp2 {A : Option Addr} {vs : List Value} (h : Rp P w A vs) (hk : Kp S w w') (hs : ∀ b, b < w.heap.size → P b → ¬ S b) (hp : ∀ b, b < w.heap.size → P b → P2 b) : Rp P2 w' A vs := by
  rcases h with h | ⟨b, o, h1, h3, h2⟩
  · exact .inl h
  · by_cases h0 : vs = []
    · exact .inl h0
    · have hpos := List.length_pos_iff.2 h0
      have h4 := h2 0 hpos
      rw [List.getElem?_eq_getElem hpos] at h4
      have hlt := World.block_lt_of_cell? w _ h4
      refine .inr ⟨b, o, h1, hp b hlt h3, fun i hi => ?_⟩
      rw [World.cell?_of_block (w := w) (hk.block b hlt (hs b hlt h3))]
      exact h2 i hi
theorem tr_kp (hk : Kp S w w') (hs : ∀ b, b < w.heap.size → P b → ¬ S b) (hp : ∀ b, b < w.heap.size → P b → P2 b) (t : Rx) :
    (∀ vs, RowT P w vs t → RowT P2 w' vs t) ∧ (∀ vs, ForkT P w vs t → ForkT P2 w' vs t) ∧ (∀ v, Tr P w v t → Tr P2 w' v t) := by
  have tail : ∀ t : Rx, (∀ vs, RowT P w vs t → RowT P2 w' vs t) → (∀ vs, ForkT P w vs t → ForkT P2 w' vs t) → (∀ v x a b, v = Value.iface 125 (.agg #[x, .bool a, .bool b]) → ∀ r, t = .loop r a b → Tr P w x r → Tr P2 w' x r) → ∀ v, Tr P w v t → Tr P2 w' v t := by
    intro t h1 h2 h3 v h
    cases h with
    | leaf N ha hb => exact .leaf N ha hb
    | row hn hr h => exact .row hn (hr.kp2 hk hs hp) (h1 _ h)
    | fork hn hr h => exact .fork hn (hr.kp2 hk hs hp) (h2 _ h)
    | loop h => exact .loop (h3 _ _ _ _ rfl _ rfl h)
  induction t with
  | leaf n => exact ⟨fun _ h => (nomatch h), fun _ h => (nomatch h), tail _ (fun _ h => (nomatch h)) (fun _ h => (nomatch h)) (fun _ _ _ _ _ _ h => by cases h)⟩
  | eps =>
    have h1 : ∀ vs, RowT P w vs .eps → RowT P2 w' vs .eps := fun _ h => by cases h; exact .nil
    exact ⟨h1, fun _ h => (nomatch h), tail _ h1 (fun _ h => (nomatch h)) (fun _ _ _ _ _ _ h => by cases h)⟩
  | seq a b iha ihb =>
    have h1 : ∀ vs, RowT P w vs (.seq a b) → RowT P2 w' vs (.seq a b) := fun _ h => by
      cases h with
      | snoc h h2 => exact .snoc (iha.1 _ h) (ihb.2.2 _ h2)
    exact ⟨h1, fun _ h => (nomatch h), tail _ h1 (fun _ h => (nomatch h)) (fun _ _ _ _ _ _ h => by cases h)⟩
  | no =>
    have h1 : ∀ vs, ForkT P w vs .no → ForkT P2 w' vs .no := fun _ h => by cases h; exact .nil
    exact ⟨fun _ h => (nomatch h), h1, tail _ (fun _ h => (nomatch h)) h1 (fun _ _ _ _ _ _ h => by cases h)⟩
  | alt a b iha ihb =>
    have h1 : ∀ vs, ForkT P w vs (.alt a b) → ForkT P2 w' vs (.alt a b) := fun _ h => by
      cases h with
      | snoc h h2 => exact .snoc (iha.2.1 _ h) (ihb.2.2 _ h2)
    exact ⟨fun _ h => (nomatch h), h1, tail _ (fun _ h => (nomatch h)) h1 (fun _ _ _ _ _ _ h => by cases h)⟩
  | loop a x y iha =>
    exact ⟨fun _ h => (nomatch h), fun _ h => (nomatch h), tail _ (fun _ h => (nomatch h)) (fun _ h => (nomatch h)) (fun _ _ _ _ _ r h => by
      injection h with h1 h2 h3
      subst h1
      exact iha.2.2 _)⟩
theorem Tr.kp {v : Value} {t : Rx} (h : Tr P w v t) (hk : Kp S w w') (hs : ∀ b, b < w.heap.size → P b → ¬ S b) (hp : ∀ b, b < w.heap.size → P b → P2 b) : Tr P2 w' v t := (tr_kp hk hs hp t).2.2 v h
theorem RowT.kp {vs : List Value} {t : Rx} (h : RowT P w vs t) (hk : Kp S w w') (hs : ∀ b, b < w.heap.size → P b → ¬ S b) (hp : ∀ b, b < w.heap.size → P b → P2 b) : RowT P2 w' vs t := (tr_kp hk hs hp t).1 vs h
theorem ForkT.kp {vs : List Value} {t : Rx} (h : ForkT P w vs t) (hk : Kp S w w') (hs : ∀ b, b < w.heap.size → P b → ¬ S b) (hp : ∀ b, b < w.heap.size → P b → P2 b) : ForkT P2 w' vs t := (tr_kp hk hs hp t).2.1 vs h
end
theorem spanN_ne {a b : Nat} (h : a ≤ b) : spanN a b ≠ 0 := fun e => by
  have h1 := spanN_bit a b a
  rw [e, Nat.zero_testBit, decide_eq_true (Nat.le_refl a), decide_eq_true h] at h1
  cases h1
theorem escF_ne {s : ByteArray} {i N j : Nat} {o : Bool} (h : escF s i = some (N, o, j)) : N ≠ 0 := by
  have hw : wordN ≠ 0 := fun e => by
    have h1 : wordN.testBit 48 = true := by unfold wordN; simp only [Nat.testBit_or, spanN_bit]; decide
    rw [e, Nat.zero_testBit] at h1; cases h1
  have hsp : spaceN ≠ 0 := fun e => by
    have h1 : spaceN.testBit 32 = true := by unfold spaceN; simp only [Nat.testBit_or, spanN_bit]; decide
    rw [e, Nat.zero_testBit] at h1; cases h1
  unfold escF at h
  repeat' (first | (split at h) | (cases h; first | exact spanN_ne (by decide) | exact spanN_ne (Nat.le_refl _) | exact hw | exact hsp) | (cases h))
theorem escF_le {s : ByteArray} {i N j : Nat} {o : Bool} (h : escF s i = some (N, o, j)) : j ≤ s.size := by
  unfold escF at h
  split at h
  · cases h
  rename_i h1
  repeat' (first | (split at h) | (cases h; omega) | (cases h))
theorem innF_le {s : ByteArray} {i N j : Nat} {o : Bool} (h : innF s i = some (N, o, j)) : j ≤ s.size := by
  unfold innF at h
  split at h
  · cases h
  · rename_i hn
    have : ¬ s.size ≤ i := fun e => hn (.inl e)
    split at h
    · exact escF_le h
    · cases h; omega
theorem ClsL_lt {s : ByteArray} {i all : Nat} {f : Bool} {r : Option (Nat × Nat)} (h : ClsL s i f all r) : ∀ a e, r = some (a, e) → e < s.size := by
  induction h with
  | done h _ => intro a e he; cases he; exact h
  | one _ _ _ _ _ ih => exact ih
  | span _ _ _ _ _ _ _ ih => exact ih
  | _ => intro a e he; cases he
theorem Cls_le {s : ByteArray} {i N j : Nat} (h : Cls s i (some (N, j))) : j ≤ s.size ∧ N ≠ 0 := by
  cases h with
  | ok h h0 => exact ⟨ClsL_lt h _ _ rfl, h0⟩
end Go.Proofs.YtlocogccjlecjaaDoor
