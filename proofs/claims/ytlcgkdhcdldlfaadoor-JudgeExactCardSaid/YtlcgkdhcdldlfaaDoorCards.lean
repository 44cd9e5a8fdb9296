/-
  DERIVED. GIVEN WITH THE SEED: THE CARDS: each row of YtlcgkdhcdldlfaaDoorRows.lean that lists a variable, with what it lists TIED to the program's text (the seventh form; the later family's looks); each row that meets fmt, with fmt's text TOLD by the authors' own Lean function (tested against real Go, not proved from fmt's source: count such statements apart). THE CARD IS WHAT COUNTS. Prove the row's statement (the work); the ties are given (YtlcgkdhcdldlfaaDoorTie.lean); close each card by the builder's one call (the guide's Derived/Test/ToyasCard.lean, 'card_holds'). Laid BY PROGRAM, IN A SANDBOX (cutbox-door.mjs). By AI agents, Wed Nov 11 2026. No macro, syntax, notation, axiom, sorry.
-/
import Derived.Test.YtlcgkdhcdldlfaaDoorRows
import GoSem.ClaimSeven
namespace Go.Proofs.YtlcgkdhcdldlfaaDoor
namespace Rows

/-- THE TIED CARD OF 'augurlaw16.JudgeExact'. -/
def judgeExactCard : Claim7 := { stood := { row := judgeExactRow, standIns := [], harness := (true, "96d23a8fd47b1ce82a39fb0e88458732e887bf2205cec236787bfe48c1e273ab"), looks := false }, kinds := [], alts := [], laidByText := true, laidKinds := [.data], laidTests := true, laidLooks := .later }
def JudgeExactCardSaid : Prop := Claim7.holds Tryd.pinned (.plain (OpenSpec.ofChange judgeExactSpec)) judgeExactCard

/-- THE SECOND FORM's CARD OF 'augurlaw16.JudgeExact'. -/
def judgeExactUptoCard : Claim7 := { stood := { row := judgeExactUptoRow, standIns := [], harness := (true, "96d23a8fd47b1ce82a39fb0e88458732e887bf2205cec236787bfe48c1e273ab"), looks := false }, kinds := [], alts := [], laidByText := true, laidKinds := [.data], laidTests := true, laidLooks := .later }
def JudgeExactUptoCardSaid : Prop := Claim7.holds Tryd.pinned (.plain (OpenSpec.upto judgeExactSpec)) judgeExactUptoCard
end Rows
end Go.Proofs.YtlcgkdhcdldlfaaDoor
