import Derived.Test.YtlcgkdhcdldlfaaDoorOpen
import Derived.Test.YtlcgkdhcdldlfaaDoorMoves
import Derived.Lib.SmallJoins
import Derived.Deep.Strs
namespace Go.Proofs.YtlcgkdhcdldlfaaDoor
open Go.ChangeShapes Go.WideShapes Go.ChangeAt Go.RowKit

theorem choose_list {α : Type} (n : Nat) (p : Nat → α → Prop) (h : ∀ i, i < n → ∃ x, p i x) : ∃ xs : List α, xs.length = n ∧ ∀ (i : Nat) (hi : i < xs.length), p i xs[i] := by
  induction n with
  | zero => exact ⟨[], rfl, fun i hi => by simp at hi⟩
  | succ n ih =>
    obtain ⟨xs, h1, h2⟩ := ih (fun i hi => h i (by omega))
    obtain ⟨x, hx⟩ := h n (by omega)
    refine ⟨xs ++ [x], by simp [h1], fun i hi => ?_⟩
    rcases Nat.lt_or_ge i xs.length with h3 | h3
    · rw [List.getElem_append_left h3]
      exact h2 i h3
    · have : i = xs.length := by simp at hi; omega
      subst this
      simpa [h1] using hx
/-- a slice of numbers that came in -/
theorem ints_of {H : Type} {enc : TypeId × Value → H} {w : World} {held : Bool} {A : Option Addr} {n c : Nat} {d : DataW H} {p : List MemPlace} (h : DataW.Trod enc Tryd.prog w 0 (fun _ => true) held 23 (.slice A n c) d p) :
    ∃ bs : List Int, bs.length = n ∧ Rd w A (I64 bs) ∧ ∀ x ∈ bs, (Lit.int .i64 x).wf = true := by
  rcases open_rows (sz := 1) Tryd.underlying23 (by kernel_rfl) (by decide) h with ⟨rfl, rfl, _, _⟩ | ⟨b, o, D, hl, _, _, hA, _, hel⟩
  · exact ⟨[], rfl, .inl rfl, by simp⟩
  · obtain ⟨xs, h1, h2⟩ := choose_list n (fun i x => w.cell? ⟨b, o + i, none⟩ = some (.int .i64 x) ∧ (Lit.int .i64 x).wf = true) (fun i hi => by
      obtain ⟨cs, k, Pl, hc, hcell, htr⟩ := hel i (by omega)
      obtain ⟨x, rfl, _, hw⟩ := DataW.trod_int Tryd.underlying3 htr
      exact ⟨x, by simpa using hcell 0 (by decide), hw⟩)
    refine ⟨xs, h1, ?_, ?_⟩
    · rcases Nat.eq_zero_or_pos n with h0 | h0
      · left
        have : xs = [] := List.length_eq_zero_iff.1 (by omega)
        rw [this]; rfl
      · refine .inr ⟨b, o, hA (by omega), fun i hi => ?_⟩
        rw [I64_length] at hi
        rw [(h2 i hi).1]
        simp [I64, List.getElem?_eq_getElem hi]
    · intro x hx
      obtain ⟨i, hi, rfl⟩ := List.mem_iff_getElem.1 hx
      exact (h2 i hi).2

theorem node_of {H : Type} {enc : TypeId × Value → H} {w : World} {held : Bool} {k : Nat} {cs : List Value} {x : DataW H × List MemPlace} (hc : cs.length = 3) (h : DataW.trod enc Tryd.prog w 0 (fun _ => true) held k 42 cs = some x) :
    ∃ a b c, cs = [.int .i64 a, .int .i64 b, .int .i64 c] ∧ (Lit.int .i64 a).wf = true ∧ (Lit.int .i64 b).wf = true ∧ (Lit.int .i64 c).wf = true := by
  obtain ⟨c0, c1, c2, rfl⟩ : ∃ c0 c1 c2, cs = [c0, c1, c2] := by
    match cs, hc with
    | [c0, c1, c2], _ => exact ⟨c0, c1, c2, rfl⟩
  have hC : Tryd.prog.cellsOf 3 = 1 := by kernel_rfl
  obtain ⟨y0, y1, y2, m, _, _, h0, h1, h2⟩ := Go.Deep.trod_struct3 Tryd.underlying42 h
  simp [hC] at h0 h1 h2
  obtain ⟨a, ha, _, wa⟩ := DataW.trod_int Tryd.underlying3 h0
  obtain ⟨b, hb, _, wb⟩ := DataW.trod_int Tryd.underlying3 h1
  obtain ⟨c, hc', _, wc⟩ := DataW.trod_int Tryd.underlying3 h2
  simp at ha hb hc'
  subst ha hb hc'
  exact ⟨a, b, c, rfl, wa, wb, wc⟩
/-- a slice of nodes that came in -/
theorem nodes_of {H : Type} {enc : TypeId × Value → H} {w : World} {held : Bool} {A : Option Addr} {n c : Nat} {d : DataW H} {p : List MemPlace} (h : DataW.Trod enc Tryd.prog w 0 (fun _ => true) held 27 (.slice A n c) d p) :
    ∃ t : List Nd, t.length = n ∧ Rd w A (NC t) ∧ WfN t := by
  rcases open_rows (sz := 3) Tryd.underlying27 (by kernel_rfl) (by decide) h with ⟨rfl, rfl, _, _⟩ | ⟨b, o, D, hl, _, _, hA, _, hel⟩
  · exact ⟨[], rfl, .inl rfl, by intro i hi; simp at hi⟩
  · obtain ⟨xs, h1, h2⟩ := choose_list (α := Nd) n (fun i x => w.cell? ⟨b, o + i * 3, none⟩ = some (.int .i64 x.1) ∧ w.cell? ⟨b, o + i * 3 + 1, none⟩ = some (.int .i64 x.2.1) ∧ w.cell? ⟨b, o + i * 3 + 2, none⟩ = some (.int .i64 x.2.2) ∧ (Lit.int .i64 x.1).wf = true ∧ (Lit.int .i64 x.2.1).wf = true ∧ (Lit.int .i64 x.2.2).wf = true) (fun i hi => by
      obtain ⟨cs, k, Pl, hc, hcell, htr⟩ := hel i (by omega)
      obtain ⟨x, y, z, rfl, wx, wy, wz⟩ := node_of hc htr
      exact ⟨(x, y, z), by simpa using hcell 0 (by decide), by simpa using hcell 1 (by decide), by simpa using hcell 2 (by decide), wx, wy, wz⟩)
    refine ⟨xs, h1, ?_, ?_⟩
    · rcases Nat.eq_zero_or_pos n with h0 | h0
      · left
        have : xs = [] := List.length_eq_zero_iff.1 (by omega)
        rw [this]; rfl
      · refine .inr ⟨b, o, hA (by omega), fun i hi => ?_⟩
        rw [NC_length] at hi
        obtain ⟨g0, g1, g2⟩ := NC_get xs (i / 3) (by omega)
        obtain ⟨c0, c1, c2, _⟩ := h2 (i / 3) (by omega)
        have hm : i % 3 = 0 ∨ i % 3 = 1 ∨ i % 3 = 2 := by omega
        rcases hm with hm | hm | hm
        · have e : i = 3 * (i / 3) := by omega
          rw [show o + i = o + i / 3 * 3 by omega, c0, ← g0, ← e]
        · have e : i = 3 * (i / 3) + 1 := by omega
          rw [show o + i = o + i / 3 * 3 + 1 by omega, c1, ← g1, ← e]
        · have e : i = 3 * (i / 3) + 2 := by omega
          rw [show o + i = o + i / 3 * 3 + 2 by omega, c2, ← g2, ← e]
    · intro i hi
      have hg := nd_get xs i hi
      have := (h2 i hi).2.2.2
      rw [hg] at this
      exact this
end Go.Proofs.YtlcgkdhcdldlfaaDoor
