/-
  NARROWER THAN 'FOR EVERY INPUT', by the rows' own cells (each row's printed sentence says how): DrawMixes: laid · DrawUnmixes: laid · DrawAts: laid · DrawApart: laid · DrawKnown: laid.
  DERIVED. THE GIVEN ROWS OF THIS SEAT. 5 by the template 'for every input the law returns true; each argument reads behind the call as it read before'; 0 by the template 'total and deterministic' (their statements: YtbkphkbkfhpaaaaDoorTotals.lean).
  GIVEN WITH THE SEED: the statements are not yours to turn. If you find one false, say at which input.
  Laid BY PROGRAM, IN A SANDBOX (cutbox-rows.mjs): the forced cells as the released guide's own fill.sh prints them over the translation 7bac423f260ed733… (all of the seat's roots in one cut). By AI agents, Wed Nov 11 2026. No macro, syntax, notation, axiom, sorry.
-/
import Derived.Test.YtbkphkbkfhpaaaaDoorChecked
import GoSem.Claim
import GoSem.ClaimJoined
import GoSem.ClaimMapViews
import Derived.JoinedTies
import Derived.KernelRfl
namespace Go.Proofs.YtbkphkbkfhpaaaaDoor
/- THE CELL 'sum', in the pinned program and in every row, IS THE sha256 OF THE DUMP (.gsa) THAT YtbkphkbkfhpaaaaDoorProg.lean LOADS. Nothing in Lean hashes anything: it is a label: what it is worth is what the hold of that sum in a sandbox is worth. -/
noncomputable def Tryd.pinned : Pinned := { name := "ytbkphkbkfhpaaaadoor", sum := "7bac423f260ed733f1015494f843c38b2ff193865ca9631d230cc384c218d135", checked := Tryd.checked }
namespace Rows
def none {H : Type} : Left H := { results := [], args := [] }

/- WHAT THE LISTED PACKAGE-LEVEL VARIABLES READ AS WHEN THE CALL BEGINS. Each datum BY PROGRAM (the guide's laid-datum.mjs) off the statement by which the dump's own 'gosem.cut.vars' lays the variable. In a bare row this is a premise. The card (YtbkphkbkfhpaaaaDoorCards.lean) ties it to the program's text. -/
def laid_augur_draw_rounds {H : Type} : DataW H := .agg [.agg [.lit (.int .u64 30), .lit (.int .u64 13787848793156543929)], .agg [.lit (.int .u64 27), .lit (.int .u64 10723151780598845931)], .agg [.lit (.int .u64 31), .lit (.int .u64 1)]]

/-- 'augurlaw02.DrawMixes': WHATEVER THE INPUT: true; the input reads as it did. -/
def drawMixesSpec : ChangeSpec := { name := "drawMixes", fn := fun _ => fun
  | [d] => { results := [.lit (.bool true)], args := [d] }
  | _ => none }
def drawMixesRow : OpenClaim := { program := "ytbkphkbkfhpaaaadoor", sum := "7bac423f260ed733f1015494f843c38b2ff193865ca9631d230cc384c218d135", func := "augur/augurlaw02.DrawMixes", spec := "drawMixes", named := ["augur/draw.rounds"], apart := false, laid := [("augur/draw.rounds", laid_augur_draw_rounds)] }
def DrawMixesSaid : Prop := drawMixesRow.holds Tryd.pinned (OpenSpec.ofChange drawMixesSpec)

/-- ITS FALSE NEIGHBOUR: 'it returns false'. Refute it at one input. -/
def drawMixesWrong : ChangeSpec := { name := "drawMixes", fn := fun _ => fun
  | [d] => { results := [.lit (.bool false)], args := [d] }
  | _ => none }
def DrawMixesWrongFalsely : Prop := drawMixesRow.holds Tryd.pinned (OpenSpec.ofChange drawMixesWrong)

/-- 'augurlaw02.DrawUnmixes': WHATEVER THE INPUT: true; the input reads as it did. -/
def drawUnmixesSpec : ChangeSpec := { name := "drawUnmixes", fn := fun _ => fun
  | [d] => { results := [.lit (.bool true)], args := [d] }
  | _ => none }
def drawUnmixesRow : OpenClaim := { program := "ytbkphkbkfhpaaaadoor", sum := "7bac423f260ed733f1015494f843c38b2ff193865ca9631d230cc384c218d135", func := "augur/augurlaw02.DrawUnmixes", spec := "drawUnmixes", named := ["augur/draw.rounds"], apart := false, laid := [("augur/draw.rounds", laid_augur_draw_rounds)] }
def DrawUnmixesSaid : Prop := drawUnmixesRow.holds Tryd.pinned (OpenSpec.ofChange drawUnmixesSpec)

/-- ITS FALSE NEIGHBOUR: 'it returns false'. Refute it at one input. -/
def drawUnmixesWrong : ChangeSpec := { name := "drawUnmixes", fn := fun _ => fun
  | [d] => { results := [.lit (.bool false)], args := [d] }
  | _ => none }
def DrawUnmixesWrongFalsely : Prop := drawUnmixesRow.holds Tryd.pinned (OpenSpec.ofChange drawUnmixesWrong)

/-- 'augurlaw02.DrawAts': WHATEVER THE INPUT: true; the input reads as it did. -/
def drawAtsSpec : ChangeSpec := { name := "drawAts", fn := fun _ => fun
  | [d] => { results := [.lit (.bool true)], args := [d] }
  | _ => none }
def drawAtsRow : OpenClaim := { program := "ytbkphkbkfhpaaaadoor", sum := "7bac423f260ed733f1015494f843c38b2ff193865ca9631d230cc384c218d135", func := "augur/augurlaw02.DrawAts", spec := "drawAts", named := ["augur/draw.rounds"], apart := false, laid := [("augur/draw.rounds", laid_augur_draw_rounds)] }
def DrawAtsSaid : Prop := drawAtsRow.holds Tryd.pinned (OpenSpec.ofChange drawAtsSpec)

/-- ITS FALSE NEIGHBOUR: 'it returns false'. Refute it at one input. -/
def drawAtsWrong : ChangeSpec := { name := "drawAts", fn := fun _ => fun
  | [d] => { results := [.lit (.bool false)], args := [d] }
  | _ => none }
def DrawAtsWrongFalsely : Prop := drawAtsRow.holds Tryd.pinned (OpenSpec.ofChange drawAtsWrong)

/-- 'augurlaw02.DrawApart': WHATEVER THE INPUT: true; the input reads as it did. -/
def drawApartSpec : ChangeSpec := { name := "drawApart", fn := fun _ => fun
  | [d1, d2] => { results := [.lit (.bool true)], args := [d1, d2] }
  | _ => none }
def drawApartRow : OpenClaim := { program := "ytbkphkbkfhpaaaadoor", sum := "7bac423f260ed733f1015494f843c38b2ff193865ca9631d230cc384c218d135", func := "augur/augurlaw02.DrawApart", spec := "drawApart", named := ["augur/draw.rounds"], apart := false, laid := [("augur/draw.rounds", laid_augur_draw_rounds)] }
def DrawApartSaid : Prop := drawApartRow.holds Tryd.pinned (OpenSpec.ofChange drawApartSpec)

/-- ITS FALSE NEIGHBOUR: 'it returns false'. Refute it at one input. -/
def drawApartWrong : ChangeSpec := { name := "drawApart", fn := fun _ => fun
  | [d1, d2] => { results := [.lit (.bool false)], args := [d1, d2] }
  | _ => none }
def DrawApartWrongFalsely : Prop := drawApartRow.holds Tryd.pinned (OpenSpec.ofChange drawApartWrong)

/-- 'augurlaw02.DrawKnown': WHATEVER THE INPUT: true; the input reads as it did. -/
def drawKnownSpec : ChangeSpec := { name := "drawKnown", fn := fun _ => fun
  | [] => { results := [.lit (.bool true)], args := [] }
  | _ => none }
def drawKnownRow : OpenClaim := { program := "ytbkphkbkfhpaaaadoor", sum := "7bac423f260ed733f1015494f843c38b2ff193865ca9631d230cc384c218d135", func := "augur/augurlaw02.DrawKnown", spec := "drawKnown", named := ["augur/draw.rounds"], apart := false, laid := [("augur/draw.rounds", laid_augur_draw_rounds)] }
def DrawKnownSaid : Prop := drawKnownRow.holds Tryd.pinned (OpenSpec.ofChange drawKnownSpec)

/-- ITS FALSE NEIGHBOUR: 'it returns false'. Refute it at one input. -/
def drawKnownWrong : ChangeSpec := { name := "drawKnown", fn := fun _ => fun
  | [] => { results := [.lit (.bool false)], args := [] }
  | _ => none }
def DrawKnownWrongFalsely : Prop := drawKnownRow.holds Tryd.pinned (OpenSpec.ofChange drawKnownWrong)

/- THE SECOND FORM. 'bulk': how many values and letters a reading holds, each counted each time it is reached (what is shared counts as often as it is met; a slice's spare places count too). A statement '..UptoSaid' is the law's where the arguments, and the package variables that the reading takes, are together of bulk at most 1048576: NARROWER than '..Said'. Prove '..Said' where nothing that the law and all that it calls make is longer than what came in: it says more and counts as full. Else prove '..UptoSaid'. A law counts once. -/
mutual
def uptoBulk {H : Type} : DataW H → Nat
  | .lit (.string bytes) => bytes.length + 1
  | .lit _ => 1
  | .nil => 1
  | .ptr d => uptoBulk d + 1
  | .slice elems spare => uptoBulkAll elems + uptoBulkAll spare + 1
  | .agg parts => uptoBulkAll parts + 1
  | .iface _ d => uptoBulk d + 1
  | .map entries => uptoBulkEntries entries + 1
  | .held _ => 1
def uptoBulkAll {H : Type} : List (DataW H) → Nat
  | [] => 0
  | d :: r => uptoBulk d + uptoBulkAll r
def uptoBulkEntries {H : Type} : List (Lit × DataW H) → Nat
  | [] => 0
  | x :: r => uptoBulkEntry x + uptoBulkEntries r
def uptoBulkEntry {H : Type} : Lit × DataW H → Nat
  | (.string bytes, d) => bytes.length + uptoBulk d + 1
  | (_, d) => uptoBulk d + 1
 end
def uptoSmall : (H : Type) → List (DataW H) → Bool := fun _ ds => decide (uptoBulkAll ds ≤ 1048576)
def OpenSpec.upto (s : _root_.Go.ChangeSpec) : _root_.Go.OpenSpec := { _root_.Go.OpenSpec.ofChange s with cond := some uptoSmall }

/-- 'augurlaw02.DrawMixes', WHERE WHAT IT READS IS OF BULK AT MOST 1048576: true; the input reads as it did. -/
def drawMixesUptoRow : OpenClaim := { program := "ytbkphkbkfhpaaaadoor", sum := "7bac423f260ed733f1015494f843c38b2ff193865ca9631d230cc384c218d135", func := "augur/augurlaw02.DrawMixes", spec := "drawMixes", named := ["augur/draw.rounds"], apart := false, laid := [("augur/draw.rounds", laid_augur_draw_rounds)], narrowed := true }
def DrawMixesUptoSaid : Prop := drawMixesUptoRow.holds Tryd.pinned (OpenSpec.upto drawMixesSpec)

/-- 'augurlaw02.DrawUnmixes', WHERE WHAT IT READS IS OF BULK AT MOST 1048576: true; the input reads as it did. -/
def drawUnmixesUptoRow : OpenClaim := { program := "ytbkphkbkfhpaaaadoor", sum := "7bac423f260ed733f1015494f843c38b2ff193865ca9631d230cc384c218d135", func := "augur/augurlaw02.DrawUnmixes", spec := "drawUnmixes", named := ["augur/draw.rounds"], apart := false, laid := [("augur/draw.rounds", laid_augur_draw_rounds)], narrowed := true }
def DrawUnmixesUptoSaid : Prop := drawUnmixesUptoRow.holds Tryd.pinned (OpenSpec.upto drawUnmixesSpec)

/-- 'augurlaw02.DrawAts', WHERE WHAT IT READS IS OF BULK AT MOST 1048576: true; the input reads as it did. -/
def drawAtsUptoRow : OpenClaim := { program := "ytbkphkbkfhpaaaadoor", sum := "7bac423f260ed733f1015494f843c38b2ff193865ca9631d230cc384c218d135", func := "augur/augurlaw02.DrawAts", spec := "drawAts", named := ["augur/draw.rounds"], apart := false, laid := [("augur/draw.rounds", laid_augur_draw_rounds)], narrowed := true }
def DrawAtsUptoSaid : Prop := drawAtsUptoRow.holds Tryd.pinned (OpenSpec.upto drawAtsSpec)

/-- 'augurlaw02.DrawApart', WHERE WHAT IT READS IS OF BULK AT MOST 1048576: true; the input reads as it did. -/
def drawApartUptoRow : OpenClaim := { program := "ytbkphkbkfhpaaaadoor", sum := "7bac423f260ed733f1015494f843c38b2ff193865ca9631d230cc384c218d135", func := "augur/augurlaw02.DrawApart", spec := "drawApart", named := ["augur/draw.rounds"], apart := false, laid := [("augur/draw.rounds", laid_augur_draw_rounds)], narrowed := true }
def DrawApartUptoSaid : Prop := drawApartUptoRow.holds Tryd.pinned (OpenSpec.upto drawApartSpec)

/-- 'augurlaw02.DrawKnown', WHERE WHAT IT READS IS OF BULK AT MOST 1048576: true; the input reads as it did. -/
def drawKnownUptoRow : OpenClaim := { program := "ytbkphkbkfhpaaaadoor", sum := "7bac423f260ed733f1015494f843c38b2ff193865ca9631d230cc384c218d135", func := "augur/augurlaw02.DrawKnown", spec := "drawKnown", named := ["augur/draw.rounds"], apart := false, laid := [("augur/draw.rounds", laid_augur_draw_rounds)], narrowed := true }
def DrawKnownUptoSaid : Prop := drawKnownUptoRow.holds Tryd.pinned (OpenSpec.upto drawKnownSpec)

end Rows
end Go.Proofs.YtbkphkbkfhpaaaaDoor
