import Derived.Test.YtlcgkdhcdldlfaaDoorArg
namespace Go.Proofs.YtlcgkdhcdldlfaaDoor
open Go.ChangeShapes Go.WideShapes Go.ChangeAt Go.RowKit

theorem rnode_of {H : Type} {enc : TypeId × Value → H} {w : World} {held : Bool} {k : Nat} {cs : List Value} {x : DataW H × List MemPlace} (hc : cs.length = 2) (h : DataW.trod enc Tryd.prog w 0 (fun _ => true) held k 71 cs = some x) :
    ∃ a b, cs = [.int .i64 a, .int .i64 b] ∧ (Lit.int .i64 a).wf = true ∧ (Lit.int .i64 b).wf = true := by
  obtain ⟨c0, c1, rfl⟩ : ∃ c0 c1, cs = [c0, c1] := by
    match cs, hc with
    | [c0, c1], _ => exact ⟨c0, c1, rfl⟩
  have hC : Tryd.prog.cellsOf 3 = 1 := by kernel_rfl
  obtain ⟨y0, y1, m, _, _, h0, h1⟩ := trod_struct2 Tryd.underlying71 h
  simp [hC] at h0 h1
  obtain ⟨a, ha, _, wa⟩ := DataW.trod_int Tryd.underlying3 h0
  obtain ⟨b, hb, _, wb⟩ := DataW.trod_int Tryd.underlying3 h1
  simp at ha hb
  subst ha hb
  exact ⟨a, b, rfl, wa, wb⟩
/-- a slice of raw nodes that came in -/
theorem rnodes_of {H : Type} {enc : TypeId × Value → H} {w : World} {held : Bool} {A : Option Addr} {n c : Nat} {d : DataW H} {p : List MemPlace} (h : DataW.Trod enc Tryd.prog w 0 (fun _ => true) held 24 (.slice A n c) d p) :
    ∃ r : List (Int × Int), r.length = n ∧ Rd w A (PR r) := by
  rcases open_rows (sz := 2) Tryd.underlying24 (by kernel_rfl) (by decide) h with ⟨rfl, rfl, _, _⟩ | ⟨b, o, D, hl, _, _, hA, _, hel⟩
  · exact ⟨[], rfl, .inl rfl⟩
  · obtain ⟨xs, h1, h2⟩ := choose_list (α := Int × Int) n (fun i x => w.cell? ⟨b, o + i * 2, none⟩ = some (.int .i64 x.1) ∧ w.cell? ⟨b, o + i * 2 + 1, none⟩ = some (.int .i64 x.2)) (fun i hi => by
      obtain ⟨cs, k, Pl, hc, hcell, htr⟩ := hel i (by omega)
      obtain ⟨x, y, rfl, _, _⟩ := rnode_of hc htr
      exact ⟨(x, y), by simpa using hcell 0 (by decide), by simpa using hcell 1 (by decide)⟩)
    refine ⟨xs, h1, ?_⟩
    rcases Nat.eq_zero_or_pos n with h0 | h0
    · left
      have : xs = [] := List.length_eq_zero_iff.1 (by omega)
      rw [this]; rfl
    · refine .inr ⟨b, o, hA (by omega), fun i hi => ?_⟩
      rw [PR_length] at hi
      obtain ⟨g0, g1⟩ := PR_get xs (i / 2) (by omega)
      obtain ⟨c0, c1⟩ := h2 (i / 2) (by omega)
      have hm : i % 2 = 0 ∨ i % 2 = 1 := by omega
      rcases hm with hm | hm
      · have e : i = 2 * (i / 2) := by omega
        rw [show o + i = o + i / 2 * 2 by omega, c0, ← g0, ← e]
      · have e : i = 2 * (i / 2) + 1 := by omega
        rw [show o + i = o + i / 2 * 2 + 1 by omega, c1, ← g1, ← e]
end Go.Proofs.YtlcgkdhcdldlfaaDoor
