import Derived.Deep.Slices
import Derived.OpenShut
import Derived.SizedLaws
import Derived.WalkKit
import Derived.ProofKit
import Derived.Test.YtlocogccjlecjaaDoorDfaW
/- A slice of bytes that came in, laid open. -/
namespace Go.Proofs.YtlocogccjlecjaaDoor
open Go.ChangeShapes Go.WideShapes Go.ChangeAt Go.RowKit

section
variable {H : Type} {enc : TypeId × Value → H} {P : Program} {w : World}

/-- A slice that came in, laid open: its cells up to the capacity, element by element. -/
theorem open_rows {held : Bool} {t e : TypeId} {A : Option Addr} {len cap sz : Nat} {d : DataW H} {ps : List MemPlace}
    (ht : P.underlying t = some (.slice e)) (hsz : P.cellsOf e = sz) (h0 : 0 < sz)
    (h : DataW.Trod enc P w 0 (fun _ => true) held t (.slice A len cap) d ps) :
    (A = none ∧ len = 0 ∧ cap = 0 ∧ d = .nil) ∨
    ∃ (b o : Nat) (D : Nat → DataW H), len ≤ cap ∧ cap ≤ maxLen ∧ A.isSome = true ∧ (0 < cap → A = some ⟨b, o, none⟩) ∧
      d = .slice ((List.range len).map D) ((List.range (cap - len)).map fun j => D (len + j)) ∧
      ∀ i, i < cap → ∃ (cs : List Value) (n : Nat) (Pl : List MemPlace), cs.length = sz ∧ (∀ j, j < sz → w.cell? ⟨b, o + i * sz + j, none⟩ = cs[j]?) ∧
        DataW.trod enc P w 0 (fun _ => true) held n e cs = some (D i, Pl) := by
  obtain ⟨fuel, hf⟩ := h
  rcases Go.Deep.open_slice ht hf with ⟨hcs, hx⟩ | ⟨a, l, c, m, n, D, Pl, hcs, _, hl, hm, hmm, hx, hel⟩
  · simp [Value.cells] at hcs
    obtain ⟨rfl, rfl, rfl⟩ := hcs
    exact .inl ⟨rfl, rfl, rfl, by simpa using congrArg Prod.fst hx⟩
  · simp [Value.cells] at hcs
    obtain ⟨rfl, rfl, rfl⟩ := hcs
    simp at hmm
    subst hmm
    right
    have hd : d = .slice ((List.range len).map D) ((List.range (m - len)).map fun j => D (len + j)) := congrArg Prod.fst hx
    rw [hsz] at hel
    obtain ⟨b, o, spot⟩ := a
    refine ⟨b, o, D, hl, hm, rfl, fun hp => ?_, hd, fun i hi => ?_⟩
    · obtain ⟨cs', h1, _⟩ := hel 0 hp
      obtain ⟨_, hlen, hc⟩ := World.cells?_some h1
      have := hc 0 h0
      rw [List.getElem?_eq_getElem (by omega)] at this
      have hs : spot = none := by simpa [Addr.add] using World.cell?_spot this
      rw [hs]
    · obtain ⟨cs', h1, h2⟩ := hel i hi
      obtain ⟨_, hlen, hc⟩ := World.cells?_some h1
      refine ⟨cs', n, Pl i, hlen, fun j hj => ?_, h2⟩
      have h3 := hc j hj
      have hs : spot = none := by
        have h4 := hc 0 h0
        rw [List.getElem?_eq_getElem (by omega)] at h4
        have := World.cell?_spot h4
        rcases Nat.eq_zero_or_pos i with rfl | hi0
        · simpa [Addr.add] using this
        · obtain ⟨cs0, g1, _⟩ := hel 0 (by omega)
          obtain ⟨_, glen, gc⟩ := World.cells?_some g1
          have g4 := gc 0 h0
          rw [List.getElem?_eq_getElem (by omega)] at g4
          simpa [Addr.add] using World.cell?_spot g4
      subst hs
      rw [← h3, ← Go.WideShapes.add_plain, ← Go.WideShapes.add_plain]

/-- How long a slice that came in can be. -/
theorem rows_len {t e : TypeId} {A : Option Addr} {len cap sz B : Nat} {d : DataW H} {ps : List MemPlace} {ts : List TypeId} {ds : List (DataW H)} {j : Nat} {held : Bool}
    (hw : (DataW.weightsEach P ts ds).all (· ≤ reachBytes) = true) (hj : ts[j]? = some t) (hd : ds[j]? = some d)
    (ht : P.underlying t = some (.slice e)) (hsz : P.cellsOf e = sz) (h0 : 0 < sz) (hB : P.bytesOf e = B)
    (h : DataW.Trod enc P w 0 (fun _ => true) held t (.slice A len cap) d ps) : cap * B ≤ 140737488351232 := by
  rcases open_rows ht hsz h0 h with ⟨_, _, rfl, _⟩ | ⟨b, o, D, hl, hm, _, _, rfl, _⟩
  · simp
  · have := sized_slice hw hj hd ht
    rw [hB] at this
    simp at this
    rw [show len + (cap - len) = cap by omega] at this
    exact this
end
theorem choose_list {α : Type} (n : Nat) (p : Nat → α → Prop) (h : ∀ i, i < n → ∃ x, p i x) : ∃ xs : List α, xs.length = n ∧ ∀ (i : Nat) (hi : i < xs.length), p i xs[i] := by
  induction n with
  | zero => exact ⟨[], rfl, fun i hi => by simp at hi⟩
  | succ n ih =>
    obtain ⟨xs, h1, h2⟩ := ih (fun i hi => h i (by omega))
    obtain ⟨x, hx⟩ := h n (by omega)
    refine ⟨xs ++ [x], by simp [h1], fun i hi => ?_⟩
    rcases Nat.lt_or_ge i xs.length with h3 | h3
    · rw [List.getElem_append_left h3]
      exact h2 i h3
    · have : i = xs.length := by simp at hi; omega
      subst this
      simpa [h1] using hx
/-- a slice of bytes that came in -/
theorem bytes_of {H : Type} {enc : TypeId × Value → H} {w : World} {held : Bool} {A : Option Addr} {n c : Nat} {d : DataW H} {p : List MemPlace} (h : DataW.Trod enc Tryd.prog w 0 (fun _ => true) held 37 (.slice A n c) d p) :
    ∃ l : List Nat, l.length = n ∧ Rd w A (U8 l) ∧ (∀ b ∈ l, b < 256) ∧ n ≤ c := by
  rcases open_rows (sz := 1) Tryd.underlying37 (by kernel_rfl) (by decide) h with ⟨rfl, rfl, rfl, _⟩ | ⟨b, o, D, hl, _, _, hA, _, hel⟩
  · exact ⟨[], rfl, .inl rfl, by simp, Nat.le_refl _⟩
  · obtain ⟨xs, h1, h2⟩ := choose_list n (fun i (x : Nat) => w.cell? ⟨b, o + i, none⟩ = some (.int .u8 ((x : Nat) : Int)) ∧ x < 256) (fun i hi => by
      obtain ⟨cs, k, Pl, hc, hcell, htr⟩ := hel i (by omega)
      obtain ⟨x, rfl, _, hw⟩ := DataW.trod_int Tryd.underlying5 htr
      have hx : 0 ≤ x ∧ x ≤ 255 := by simpa [Lit.wf, IntKind.min, IntKind.max, IntKind.signed, IntKind.bits] using hw
      refine ⟨x.toNat, ?_, by omega⟩
      rw [Int.toNat_of_nonneg hx.1]
      simpa using hcell 0 (by decide))
    refine ⟨xs, h1, ?_, ?_, hl⟩
    · rcases Nat.eq_zero_or_pos n with h0 | h0
      · left
        have : xs = [] := List.length_eq_zero_iff.1 (by omega)
        rw [this]; rfl
      · refine .inr ⟨b, o, hA (by omega), fun i hi => ?_⟩
        unfold U8 at hi ⊢
        rw [List.length_map] at hi
        rw [(h2 i hi).1]
        simp [List.getElem?_eq_getElem hi]
    · intro x hx
      obtain ⟨i, hi, rfl⟩ := List.mem_iff_getElem.1 hx
      exact (h2 i hi).2
end Go.Proofs.YtlocogccjlecjaaDoor
