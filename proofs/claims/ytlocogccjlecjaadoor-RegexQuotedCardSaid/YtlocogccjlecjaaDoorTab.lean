import Derived.Test.YtlocogccjlecjaaDoorCards
import Derived.Test.YtlocogccjlecjaaDoorTie
import Derived.Test.YtlocogccjlecjaaDoorStr
import Derived.ProofKit
import Derived.OpenShut
import Derived.ChangeOld
import Derived.Below
import Derived.SizedLaws
import Derived.Deep.DeepHandedRow
import Derived.Lib.LaidTab
/- What the row lists of the table of math/bits, as the walks ask it; a world for the witness. -/
namespace Go.Proofs.YtlocogccjlecjaaDoor
open Go.ChangeShapes Go.WideShapes Go.ChangeAt Go.RowKit
theorem own : ownKnob Tryd.prog.godebug = none := by kernel_rfl
theorem gTab : Tryd.prog.globalNamed "math/bits.deBruijn64tab" = some 0 := by kernel_rfl
theorem tTab : (Tryd.prog.globals[0]?).map (·.type) = some 126 := by kernel_rfl
theorem cells126 : Tryd.prog.cellsOf 126 = 64 := by kernel_rfl
theorem cells5 : Tryd.prog.cellsOf 5 = 1 := by kernel_rfl
theorem tabD : (Rows.laid_math_bits_deBruijn64tab : DataW Unit) = Lib.tabData .u8 (Lib.deBruijn64tab.map fun n => ((n : Nat) : Int)) := by kernel_rfl
theorem table_of {W : World} (h : laidMetH Tryd.prog [("math/bits.deBruijn64tab", Rows.laid_math_bits_deBruijn64tab)] W) : Tab W := by
  rw [MakeChecks.laidMetH_plain _ _ _ (by kernel_rfl), tabD] at h
  have h1 := Lib.tabIs_of_head gTab tTab Tryd.underlying126 Tryd.underlying5 cells5 cells126 h
  intro j hj
  have h2 := h1.cell gTab j (by rw [List.length_map]; exact hj)
  rw [h2]
  simp only [List.getD_eq_getElem?_getD, List.getElem?_map, List.getElem?_eq_getElem hj]
  rfl
theorem laidOut : laidOutB Tryd.prog = true := by kernel_rfl
/-- the settled world, the table (block 0) holding what its initialiser lays -/
noncomputable def laidWorld (os : Os) : World :=
  { World.holding Tryd.prog os ⟨#[], #[], []⟩ with heap := (World.holding Tryd.prog os ⟨#[], #[], []⟩).heap.modify 0 fun
      | .cells _ t frozen => .cells (Lib.deBruijn64tab.map fun n => Value.int .u8 ((n : Nat) : Int)).toArray t frozen
      | o => o }
end Go.Proofs.YtlocogccjlecjaaDoor
