import Derived.Test.YtlcgkdhcdldlfaaDoorCards
import Derived.Test.YtlcgkdhcdldlfaaDoorTie
import Derived.Test.YtlcgkdhcdldlfaaDoorBelow
import Derived.ProofKit
import Derived.OpenShut
import Derived.ChangeOld
import Derived.Below
import Derived.SizedLaws
import Derived.Deep.DeepHandedRow
import Derived.Lib.LaidTab
namespace Go.Proofs.YtlcgkdhcdldlfaaDoor
open Go.ChangeShapes Go.WideShapes Go.ChangeAt Go.RowKit

theorem own : ownKnob Tryd.prog.godebug = none := by kernel_rfl
theorem gRounds : Tryd.prog.globalNamed "augur/draw.rounds" = some 0 := by kernel_rfl
theorem tRounds : (Tryd.prog.globals[0]?).map (·.type) = some 65 := by kernel_rfl
theorem cells65 : Tryd.prog.cellsOf 65 = 6 := by kernel_rfl
theorem cells64 : Tryd.prog.cellsOf 64 = 2 := by kernel_rfl
theorem cells63 : Tryd.prog.cellsOf 63 = 1 := by kernel_rfl
theorem cells22 : Tryd.prog.cellsOf 22 = 1 := by kernel_rfl

/-- the two cells of one round's numbers -/
theorem pair_cells {H : Type} {enc : TypeId × Value → H} {w : World} {base fuel : Nat} {sp : Nat → Bool} {held : Bool} {cs : List Value} {a b : Int} {p : List MemPlace}
    (h : DataW.trod enc Tryd.prog w base sp held fuel 64 cs = some (.agg [.lit (.int .u64 a), .lit (.int .u64 b)], p)) : cs = [.int .u64 a, .int .u64 b] := by
  obtain ⟨y0, y1, n, hx, hl, h0, h1⟩ := trod_struct2 Tryd.underlying64 h
  simp only [cells64, cells63, cells22] at hl h0 h1
  obtain ⟨n0, e0, x0, _⟩ := DataW.trod_int Tryd.underlying63 h0
  obtain ⟨n1, e1, x1, _⟩ := DataW.trod_int Tryd.underlying22 h1
  rw [x0, x1] at hx
  simp at hx
  match cs, hl with
  | [c0, c1], _ =>
    simp at e0 e1
    rw [e0, e1, hx.1.1, hx.1.2]

theorem table_of {W : World} (h : laidMetH Tryd.prog Rows.judgeExactRow.laid W) : Table W := by
  rw [MakeChecks.laidMetH_plain _ _ _ (by kernel_rfl)] at h
  obtain ⟨ps, ⟨g0, t0, cs0, f0, p0, q0, hg0, ht0, hv0, hd0, _⟩, _⟩ := h
  obtain rfl := Option.some.inj (gRounds.symm.trans hg0)
  obtain rfl := Option.some.inj (tRounds.symm.trans ht0)
  obtain ⟨xs, m, _, hx, hl, hn, hel⟩ := DataW.trod_array Tryd.underlying65 hd0
  rw [cells65] at hl
  simp only [cells64] at hel
  have hx1 := congrArg Prod.fst hx
  simp only [Rows.laid_augur_draw_rounds, DataW.agg.injEq] at hx1
  match xs, hn with
  | [y0, y1, y2], _ =>
    simp only [List.map_cons, List.map_nil, List.cons.injEq] at hx1
    have e0 := hel 0 (by omega)
    have e1 := hel 1 (by omega)
    have e2 := hel 2 (by omega)
    obtain ⟨a0, b0⟩ := y0
    obtain ⟨a1, b1⟩ := y1
    obtain ⟨a2, b2⟩ := y2
    obtain ⟨h0, h1, h2, _⟩ := hx1
    simp only at h0 h1 h2
    subst h0 h1 h2
    have f0 := pair_cells e0
    have f1 := pair_cells e1
    have f2 := pair_cells e2
    obtain ⟨l⟩ := cs0
    match l, hl with
    | [c0, c1, c2, c3, c4, c5], _ =>
      simp at f0 f1 f2
      obtain ⟨rfl, rfl⟩ := f0
      obtain ⟨rfl, rfl⟩ := f1
      obtain ⟨rfl, rfl⟩ := f2
      have hc := fun j => World.var?_cell hg0 hv0 j
      exact ⟨by simpa using hc 0, by simpa using hc 1, by simpa using hc 2, by simpa using hc 3, by simpa using hc 4, by simpa using hc 5⟩

theorem inU_of_wf {x : Int} (h : (Lit.int .u64 x).wf = true) : InU x := by
  simp [Lit.wf, IntKind.min, IntKind.max, IntKind.signed, IntKind.bits] at h
  unfold InU
  omega
/-- A WORLD FOR THE WITNESS: the settled one, the variable (block 0) holding what its initialiser lays. -/
noncomputable def laidWorld (os : Os) : World :=
  { World.holding Tryd.prog os ⟨#[], #[], []⟩ with heap := (World.holding Tryd.prog os ⟨#[], #[], []⟩).heap.modify 0 fun
      | .cells _ t frozen => .cells #[.int .u64 30, .int .u64 13787848793156543929, .int .u64 27, .int .u64 10723151780598845931, .int .u64 31, .int .u64 1] t frozen
      | o => o }
end Go.Proofs.YtlcgkdhcdldlfaaDoor
