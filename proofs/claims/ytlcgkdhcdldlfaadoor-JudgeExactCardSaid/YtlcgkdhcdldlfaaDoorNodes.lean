import Derived.Test.YtlcgkdhcdldlfaaDoorBase
namespace Go.Proofs.YtlcgkdhcdldlfaaDoor
open Go.RowKit

/-- a node: its parent, its token, its depth -/
abbrev Nd := Int × Int × Int
def nd (t : List Nd) (i : Nat) : Nd := t.getD i (0, 0, 0)
def par (t : List Nd) (i : Nat) : Int := (nd t i).1
def tk (t : List Nd) (i : Nat) : Int := (nd t i).2.1
def dep (t : List Nd) (i : Nat) : Int := (nd t i).2.2
theorem nd_get (t : List Nd) (i : Nat) (h : i < t.length) : t[i] = (par t i, tk t i, dep t i) := by simp [par, tk, dep, nd, h]
/-- nodes as cells -/
def NC (t : List Nd) : List Value := t.flatMap fun p => [.int .i64 p.1, .int .i64 p.2.1, .int .i64 p.2.2]
theorem NC_length (t : List Nd) : (NC t).length = 3 * t.length := by
  induction t with
  | nil => rfl
  | cons p r ih => simp only [NC, List.flatMap_cons, List.length_append, List.length_cons, List.length_nil] at *; omega
theorem NC_append (s t : List Nd) : NC (s ++ t) = NC s ++ NC t := by simp [NC]
theorem NC_get (t : List Nd) : ∀ (i : Nat) (h : i < t.length), (NC t)[3 * i]? = some (.int .i64 t[i].1) ∧ (NC t)[3 * i + 1]? = some (.int .i64 t[i].2.1) ∧ (NC t)[3 * i + 2]? = some (.int .i64 t[i].2.2) := by
  induction t with
  | nil => intro i h; simp at h
  | cons p r ih =>
    intro i h
    cases i with
    | zero => simp [NC]
    | succ i =>
      have := ih i (by simpa using h)
      have e : NC (p :: r) = Value.int .i64 p.1 :: Value.int .i64 p.2.1 :: Value.int .i64 p.2.2 :: NC r := by simp [NC]
      rw [e, show 3 * (i + 1) = 3 * i + 1 + 1 + 1 by omega, show 3 * i + 1 + 1 + 1 + 1 = 3 * i + 1 + 1 + 1 + 1 from rfl, show 3 * i + 1 + 1 + 1 + 2 = 3 * i + 2 + 1 + 1 + 1 from rfl]
      simpa using this
theorem NC_at (t : List Nd) (i : Nat) (h : i < t.length) : (NC t)[3 * i]? = some (.int .i64 (par t i)) ∧ (NC t)[3 * i + 1]? = some (.int .i64 (tk t i)) ∧ (NC t)[3 * i + 2]? = some (.int .i64 (dep t i)) := by
  have := NC_get t i h
  rw [nd_get t i h] at this
  exact this
theorem Rd.nd {w : World} {A : Option Addr} {t : List Nd} (h : Rd w A (NC t)) (i : Nat) (hi : i < t.length) :
    ∃ b o, A = some ⟨b, o, none⟩ ∧ w.cell? ⟨b, o + i * 3, none⟩ = some (.int .i64 (par t i)) ∧ w.cell? ⟨b, o + i * 3 + 1, none⟩ = some (.int .i64 (tk t i)) ∧ w.cell? ⟨b, o + i * 3 + 2, none⟩ = some (.int .i64 (dep t i)) := by
  obtain ⟨g0, g1, g2⟩ := NC_at t i hi
  have hl := NC_length t
  rcases h with e | ⟨b, o, e, hc⟩
  · rw [e] at g0
    simp at g0
  · have c0 := hc (3 * i) (by omega)
    have c1 := hc (3 * i + 1) (by omega)
    have c2 := hc (3 * i + 2) (by omega)
    rw [g0, Nat.mul_comm] at c0
    rw [g1, ← Nat.add_assoc, Nat.mul_comm] at c1
    rw [g2, ← Nat.add_assoc, Nat.mul_comm] at c2
    exact ⟨b, o, e, c0, c1, c2⟩
/-- the same, at a known address -/
theorem Rd.ndAt {w : World} {b o : Nat} {t : List Nd} (h : Rd w (some ⟨b, o, none⟩) (NC t)) (i : Nat) (hi : i < t.length) :
    w.cell? ⟨b, o + i * 3, none⟩ = some (.int .i64 (par t i)) ∧ w.cell? ⟨b, o + i * 3 + 1, none⟩ = some (.int .i64 (tk t i)) ∧ w.cell? ⟨b, o + i * 3 + 2, none⟩ = some (.int .i64 (dep t i)) := by
  obtain ⟨b', o', e, h⟩ := h.nd i hi
  injection e with e
  injection e with e1 e2
  subst e1 e2
  exact h
theorem Rd.i64At {w : World} {b o : Nat} {xs : List Int} (h : Rd w (some ⟨b, o, none⟩) (I64 xs)) (i : Nat) (hi : i < xs.length) : w.cell? ⟨b, o + i, none⟩ = some (.int .i64 xs[i]) := by
  obtain ⟨b', o', e, h⟩ := h.i64 i hi
  injection e with e
  injection e with e1 e2
  subst e1 e2
  exact h
theorem Rd.start {w : World} {A : Option Addr} {vs : List Value} (h : Rd w A vs) (h0 : 0 < vs.length) : ∃ b o, A = some ⟨b, o, none⟩ := by
  obtain ⟨b, o, e, _⟩ := h.at 0 h0
  exact ⟨b, o, e⟩

/-- is the i-th node right behind those ahead of it? -/
def good (t : List Nd) (i : Nat) : Prop := 0 ≤ par t i ∧ par t i < (i : Int) ∧ 1 ≤ tk t i ∧ dep t i = dep t (par t i).toNat + 1 ∧ dep t (i - 1) ≤ dep t i ∧ ∀ k, k < i → 1 ≤ k → ¬ (par t k = par t i ∧ tk t k = tk t i)
instance (t : List Nd) (i : Nat) : Decidable (good t i) := by unfold good; infer_instance
/-- is it a tree, in its order? -/
def isT (t : List Nd) : Prop := 1 ≤ t.length ∧ t.length ≤ 32 ∧ par t 0 = -1 ∧ dep t 0 = 0 ∧ ∀ i, i < t.length → 1 ≤ i → good t i
instance (t : List Nd) : Decidable (isT t) := by unfold isT; infer_instance
def errT (t : List Nd) : Int := if isT t then 0 else 140
theorem errT_bad {t : List Nd} (h : ¬ isT t) : errT t = 140 := if_neg h
theorem errT_ok {t : List Nd} (h : isT t) : errT t = 0 := if_pos h
theorem good_not {t : List Nd} {k : Nat} (h1 : 1 ≤ k) (hk : k < t.length) (h : ¬ good t k) : errT t = 140 := errT_bad fun hT => h (hT.2.2.2.2 k hk h1)
/-- depths are small -/
theorem dep_le (t : List Nd) (h0 : dep t 0 = 0) : ∀ (n : Nat), (∀ j, j < n → 1 ≤ j → good t j) → ∀ j, j < n → 0 ≤ dep t j ∧ dep t j ≤ (j : Int) := by
  intro n hg j
  induction j using Nat.strongRecOn with
  | _ j ih =>
    intro hj
    rcases Nat.eq_zero_or_pos j with rfl | h1
    · rw [h0]; omega
    · obtain ⟨g1, g2, _, g4, _⟩ := hg j hj h1
      have h2 := ih (par t j).toNat (by omega) (by omega)
      have : (((par t j).toNat : Nat) : Int) = par t j := Int.toNat_of_nonneg g1
      omega
/-- the numbers are of their kind -/
def WfN (t : List Nd) : Prop := ∀ i, i < t.length → (Lit.int .i64 (par t i)).wf = true ∧ (Lit.int .i64 (tk t i)).wf = true ∧ (Lit.int .i64 (dep t i)).wf = true
end Go.Proofs.YtlcgkdhcdldlfaaDoor
