import Derived.Test.YtlcgkdhcdldlfaaDoorNodes
namespace Go.Proofs.YtlcgkdhcdldlfaaDoor
open Go.RowKit

/-- is k the node's child with the token? -/
def isKid (t : List Nd) (a : Nat) (x : Int) (k : Nat) : Prop := par t k = (a : Int) ∧ tk t k = x
instance (t : List Nd) (a : Nat) (x : Int) (k : Nat) : Decidable (isKid t a x k) := by unfold isKid; infer_instance
/-- the first child of a node with a token -/
def kid (t : List Nd) (a : Nat) (x : Int) : Option Nat := (List.range t.length).find? fun k => decide (isKid t a x k)
theorem kid_none {t : List Nd} {a : Nat} {x : Int} : kid t a x = none ↔ ∀ k, k < t.length → ¬ isKid t a x k := by
  unfold kid
  rw [List.find?_eq_none]
  constructor
  · intro h k hk hp
    exact h k (List.mem_range.2 hk) (by simpa using hp)
  · intro h k hk hp
    exact h k (List.mem_range.1 hk) (by simpa using hp)
theorem kid_some {t : List Nd} {a : Nat} {x : Int} {k : Nat} : kid t a x = some k ↔ k < t.length ∧ isKid t a x k ∧ ∀ j, j < k → ¬ isKid t a x j := by
  unfold kid
  rw [List.find?_range_eq_some]
  simp
  constructor
  · rintro ⟨h1, h2, h3⟩
    exact ⟨h2, h1, h3⟩
  · rintro ⟨h1, h2, h3⟩
    exact ⟨h2, h1, h3⟩
/-- what is chosen behind a node -/
def chv (ch : List Int) (a : Nat) : Int := ch.getD a 0
theorem chv_get (ch : List Int) (a : Nat) (h : a < ch.length) : ch[a] = chv ch a := by simp [chv, h]
/-- the way from a node on -/
def wayT (t : List Nd) (ch : List Int) : Nat → Nat → List Nat
  | 0, a => [a]
  | f + 1, a => match kid t a (chv ch a) with
    | none => [a]
    | some k => a :: wayT t ch f k
theorem wayT_none {t : List Nd} {ch : List Int} {a : Nat} (h : kid t a (chv ch a) = none) (f : Nat) : wayT t ch f a = [a] := by
  cases f with
  | zero => rfl
  | succ f => simp [wayT, h]
theorem wayT_some {t : List Nd} {ch : List Int} {a k : Nat} (h : kid t a (chv ch a) = some k) (f : Nat) : wayT t ch (f + 1) a = a :: wayT t ch f k := by
  simp [wayT, h]
theorem kid_above {t : List Nd} (hT : isT t) {a k : Nat} {x : Int} (h : kid t a x = some k) : a < k ∧ k < t.length := by
  obtain ⟨h1, h2, _⟩ := kid_some.1 h
  rcases Nat.eq_zero_or_pos k with rfl | h3
  · have := h2.1
    rw [hT.2.2.1] at this
    omega
  · have := (hT.2.2.2.2 k h1 h3).2.1
    rw [h2.1] at this
    omega
/-- no child stands ahead of its parent -/
theorem noKid {t : List Nd} (hT : isT t) {a k : Nat} (x : Int) (hk : k < t.length) (h : k ≤ a) : ¬ isKid t a x k := by
  rintro ⟨h1, _⟩
  rcases Nat.eq_zero_or_pos k with rfl | h3
  · rw [hT.2.2.1] at h1
    omega
  · have := (hT.2.2.2.2 k hk h3).2.1
    omega
theorem wayT_ne (t : List Nd) (ch : List Int) (f a : Nat) : wayT t ch f a ≠ [] := by
  cases f with
  | zero => simp [wayT]
  | succ f =>
    simp only [wayT]
    split <;> simp
/-- the whole way; the last node -/
def way (t : List Nd) (ch : List Int) : List Nat := wayT t ch t.length 0
def lastW (l : List Nat) : Nat := l.getLastD 0
def okW (t : List Nd) (ch : List Int) : Prop := isT t ∧ ch.length = t.length
instance (t : List Nd) (ch : List Int) : Decidable (okW t ch) := by unfold okW; infer_instance
def nats (l : List Nat) : List Int := l.map Int.ofNat
theorem nats_length (l : List Nat) : (nats l).length = l.length := by simp [nats]
def walkL (t : List Nd) (ch : List Int) : List Int := if okW t ch then nats (way t ch) else []
def walkN (t : List Nd) (ch : List Int) : Int := if okW t ch then chv ch (lastW (way t ch)) else 0
def walkE (t : List Nd) (ch : List Int) : Int := if isT t then if ch.length = t.length then 0 else 160 else 140
/-- a way in the making -/
structure Going (t : List Nd) (ch : List Int) (pre : List Nat) (a f : Nat) : Prop where
  all : way t ch = pre ++ wayT t ch f a
  lt : a < t.length
  fuel : t.length ≤ f + a
  len : pre.length ≤ a
theorem Going.start {t : List Nd} {ch : List Int} (h : 0 < t.length) : Going t ch [] 0 t.length := ⟨rfl, h, by omega, by simp⟩
theorem Going.step {t : List Nd} {ch : List Int} {pre : List Nat} {a f k : Nat} (hT : isT t) (g : Going t ch pre a f) (h : kid t a (chv ch a) = some k) : ∃ f', Going t ch (pre ++ [a]) k f' := by
  have := g.fuel
  have hlt := g.lt
  obtain ⟨f', rfl⟩ : ∃ f', f = f' + 1 := ⟨f - 1, by omega⟩
  obtain ⟨h1, h2⟩ := kid_above hT h
  refine ⟨f', ?_, h2, by omega, by have := g.len; simp; omega⟩
  rw [g.all, wayT_some h]
  simp
theorem Going.stop {t : List Nd} {ch : List Int} {pre : List Nat} {a f : Nat} (g : Going t ch pre a f) (h : kid t a (chv ch a) = none) : way t ch = pre ++ [a] := by
  rw [g.all, wayT_none h]
end Go.Proofs.YtlcgkdhcdldlfaaDoor
