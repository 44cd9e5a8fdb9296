/-
  No cell of these rows narrows 'for every input' (looked for: loops, veiled, ifaces, maps, wideKeys, modest, calm, conditions, laid).
  DERIVED. THE GIVEN ROWS OF THIS SEAT. 6 by the template 'for every input the law returns true; each argument reads behind the call as it read before'; 0 by the template 'total and deterministic' (their statements: YtlcgkdhcdldlfaaTotals.lean).
  GIVEN WITH THE SEED: the statements are not yours to turn. If you find one false, say at which input.
  Laid BY PROGRAM, IN A SANDBOX (cutbox-rows.mjs): the forced cells as the released guide's own fill.sh prints them over the translation b04677a98df10f5e… (all of the seat's roots in one cut). By AI agents, Wed Nov 11 2026. No macro, syntax, notation, axiom, sorry.
-/
import Derived.Test.YtlcgkdhcdldlfaaChecked
import GoSem.Claim
import GoSem.ClaimJoined
import GoSem.ClaimMapViews
import Derived.JoinedTies
import Derived.KernelRfl
namespace Go.Proofs.Ytlcgkdhcdldlfaa
/- THE CELL 'sum', in the pinned program and in every row, IS THE sha256 OF THE DUMP (.gsa) THAT YtlcgkdhcdldlfaaProg.lean LOADS. Nothing in Lean hashes anything: it is a label: what it is worth is what the hold of that sum in a sandbox is worth. -/
noncomputable def Try.pinned : Pinned := { name := "ytlcgkdhcdldlfaa", sum := "b04677a98df10f5e6a7c8142ad40249853b559138c9e8d7dfffc77d057a2fbd1", checked := Try.checked }
namespace Rows
def none {H : Type} : Left H := { results := [], args := [] }

/-- 'augurlaw16.JudgeWalks': WHATEVER THE INPUT: true; the input reads as it did. -/
def judgeWalksSpec : ChangeSpec := { name := "judgeWalks", fn := fun _ => fun
  | [d1, d2] => { results := [.lit (.bool true)], args := [d1, d2] }
  | _ => none }
def judgeWalksRow : OpenClaim := { program := "ytlcgkdhcdldlfaa", sum := "b04677a98df10f5e6a7c8142ad40249853b559138c9e8d7dfffc77d057a2fbd1", func := "augur/augurlaw16.JudgeWalks", spec := "judgeWalks", plainKeys := false, apart := false }
def JudgeWalksSaid : Prop := judgeWalksRow.holds Try.pinned (OpenSpec.ofChange judgeWalksSpec)

/-- ITS FALSE NEIGHBOUR: 'it returns false'. Refute it at one input. -/
def judgeWalksWrong : ChangeSpec := { name := "judgeWalks", fn := fun _ => fun
  | [d1, d2] => { results := [.lit (.bool false)], args := [d1, d2] }
  | _ => none }
def JudgeWalksWrongFalsely : Prop := judgeWalksRow.holds Try.pinned (OpenSpec.ofChange judgeWalksWrong)

/-- 'augurlaw16.JudgeTakes': WHATEVER THE INPUT: true; the input reads as it did. -/
def judgeTakesSpec : ChangeSpec := { name := "judgeTakes", fn := fun _ => fun
  | [d1, d2, d3, d4] => { results := [.lit (.bool true)], args := [d1, d2, d3, d4] }
  | _ => none }
def judgeTakesRow : OpenClaim := { program := "ytlcgkdhcdldlfaa", sum := "b04677a98df10f5e6a7c8142ad40249853b559138c9e8d7dfffc77d057a2fbd1", func := "augur/augurlaw16.JudgeTakes", spec := "judgeTakes", plainKeys := false, apart := false }
def JudgeTakesSaid : Prop := judgeTakesRow.holds Try.pinned (OpenSpec.ofChange judgeTakesSpec)

/-- ITS FALSE NEIGHBOUR: 'it returns false'. Refute it at one input. -/
def judgeTakesWrong : ChangeSpec := { name := "judgeTakes", fn := fun _ => fun
  | [d1, d2, d3, d4] => { results := [.lit (.bool false)], args := [d1, d2, d3, d4] }
  | _ => none }
def JudgeTakesWrongFalsely : Prop := judgeTakesRow.holds Try.pinned (OpenSpec.ofChange judgeTakesWrong)

/-- 'augurlaw16.JudgePlans': WHATEVER THE INPUT: true; the input reads as it did. -/
def judgePlansSpec : ChangeSpec := { name := "judgePlans", fn := fun _ => fun
  | [d1, d2, d3] => { results := [.lit (.bool true)], args := [d1, d2, d3] }
  | _ => none }
def judgePlansRow : OpenClaim := { program := "ytlcgkdhcdldlfaa", sum := "b04677a98df10f5e6a7c8142ad40249853b559138c9e8d7dfffc77d057a2fbd1", func := "augur/augurlaw16.JudgePlans", spec := "judgePlans", plainKeys := false, apart := false }
def JudgePlansSaid : Prop := judgePlansRow.holds Try.pinned (OpenSpec.ofChange judgePlansSpec)

/-- ITS FALSE NEIGHBOUR: 'it returns false'. Refute it at one input. -/
def judgePlansWrong : ChangeSpec := { name := "judgePlans", fn := fun _ => fun
  | [d1, d2, d3] => { results := [.lit (.bool false)], args := [d1, d2, d3] }
  | _ => none }
def JudgePlansWrongFalsely : Prop := judgePlansRow.holds Try.pinned (OpenSpec.ofChange judgePlansWrong)

/-- 'augurlaw16.JudgeLists': WHATEVER THE INPUT: true; the input reads as it did. -/
def judgeListsSpec : ChangeSpec := { name := "judgeLists", fn := fun _ => fun
  | [d1, d2, d3, d4, d5] => { results := [.lit (.bool true)], args := [d1, d2, d3, d4, d5] }
  | _ => none }
def judgeListsRow : OpenClaim := { program := "ytlcgkdhcdldlfaa", sum := "b04677a98df10f5e6a7c8142ad40249853b559138c9e8d7dfffc77d057a2fbd1", func := "augur/augurlaw16.JudgeLists", spec := "judgeLists", plainKeys := false, apart := false }
def JudgeListsSaid : Prop := judgeListsRow.holds Try.pinned (OpenSpec.ofChange judgeListsSpec)

/-- ITS FALSE NEIGHBOUR: 'it returns false'. Refute it at one input. -/
def judgeListsWrong : ChangeSpec := { name := "judgeLists", fn := fun _ => fun
  | [d1, d2, d3, d4, d5] => { results := [.lit (.bool false)], args := [d1, d2, d3, d4, d5] }
  | _ => none }
def JudgeListsWrongFalsely : Prop := judgeListsRow.holds Try.pinned (OpenSpec.ofChange judgeListsWrong)

/-- 'augurlaw16.JudgeLongest': WHATEVER THE INPUT: true; the input reads as it did. -/
def judgeLongestSpec : ChangeSpec := { name := "judgeLongest", fn := fun _ => fun
  | [d1, d2, d3] => { results := [.lit (.bool true)], args := [d1, d2, d3] }
  | _ => none }
def judgeLongestRow : OpenClaim := { program := "ytlcgkdhcdldlfaa", sum := "b04677a98df10f5e6a7c8142ad40249853b559138c9e8d7dfffc77d057a2fbd1", func := "augur/augurlaw16.JudgeLongest", spec := "judgeLongest", recurses := true, plainKeys := false, apart := false }
def JudgeLongestSaid : Prop := judgeLongestRow.holds Try.pinned (OpenSpec.ofChange judgeLongestSpec)

/-- ITS FALSE NEIGHBOUR: 'it returns false'. Refute it at one input. -/
def judgeLongestWrong : ChangeSpec := { name := "judgeLongest", fn := fun _ => fun
  | [d1, d2, d3] => { results := [.lit (.bool false)], args := [d1, d2, d3] }
  | _ => none }
def JudgeLongestWrongFalsely : Prop := judgeLongestRow.holds Try.pinned (OpenSpec.ofChange judgeLongestWrong)

/-- 'augurlaw16.JudgeMoves': WHATEVER THE INPUT: true; the input reads as it did. -/
def judgeMovesSpec : ChangeSpec := { name := "judgeMoves", fn := fun _ => fun
  | [d1, d2, d3, d4] => { results := [.lit (.bool true)], args := [d1, d2, d3, d4] }
  | _ => none }
def judgeMovesRow : OpenClaim := { program := "ytlcgkdhcdldlfaa", sum := "b04677a98df10f5e6a7c8142ad40249853b559138c9e8d7dfffc77d057a2fbd1", func := "augur/augurlaw16.JudgeMoves", spec := "judgeMoves", plainKeys := false, apart := false }
def JudgeMovesSaid : Prop := judgeMovesRow.holds Try.pinned (OpenSpec.ofChange judgeMovesSpec)

/-- ITS FALSE NEIGHBOUR: 'it returns false'. Refute it at one input. -/
def judgeMovesWrong : ChangeSpec := { name := "judgeMoves", fn := fun _ => fun
  | [d1, d2, d3, d4] => { results := [.lit (.bool false)], args := [d1, d2, d3, d4] }
  | _ => none }
def JudgeMovesWrongFalsely : Prop := judgeMovesRow.holds Try.pinned (OpenSpec.ofChange judgeMovesWrong)

/- THE SECOND FORM. 'bulk': how many values and letters a reading holds, each counted each time it is reached (what is shared counts as often as it is met; a slice's spare places count too). A statement '..UptoSaid' is the law's where the arguments, and the package variables that the reading takes, are together of bulk at most 1048576: NARROWER than '..Said'. Prove '..Said' where nothing that the law and all that it calls make is longer than what came in: it says more and counts as full. Else prove '..UptoSaid'. A law counts once. -/
mutual
def uptoBulk {H : Type} : DataW H → Nat
  | .lit (.string bytes) => bytes.length + 1
  | .lit _ => 1
  | .nil => 1
  | .ptr d => uptoBulk d + 1
  | .slice elems spare => uptoBulkAll elems + uptoBulkAll spare + 1
  | .agg parts => uptoBulkAll parts + 1
  | .iface _ d => uptoBulk d + 1
  | .map entries => uptoBulkEntries entries + 1
  | .held _ => 1
def uptoBulkAll {H : Type} : List (DataW H) → Nat
  | [] => 0
  | d :: r => uptoBulk d + uptoBulkAll r
def uptoBulkEntries {H : Type} : List (Lit × DataW H) → Nat
  | [] => 0
  | x :: r => uptoBulkEntry x + uptoBulkEntries r
def uptoBulkEntry {H : Type} : Lit × DataW H → Nat
  | (.string bytes, d) => bytes.length + uptoBulk d + 1
  | (_, d) => uptoBulk d + 1
 end
def uptoSmall : (H : Type) → List (DataW H) → Bool := fun _ ds => decide (uptoBulkAll ds ≤ 1048576)
def OpenSpec.upto (s : _root_.Go.ChangeSpec) : _root_.Go.OpenSpec := { _root_.Go.OpenSpec.ofChange s with cond := some uptoSmall }

/-- 'augurlaw16.JudgeWalks', WHERE WHAT IT READS IS OF BULK AT MOST 1048576: true; the input reads as it did. -/
def judgeWalksUptoRow : OpenClaim := { program := "ytlcgkdhcdldlfaa", sum := "b04677a98df10f5e6a7c8142ad40249853b559138c9e8d7dfffc77d057a2fbd1", func := "augur/augurlaw16.JudgeWalks", spec := "judgeWalks", plainKeys := false, apart := false, narrowed := true }
def JudgeWalksUptoSaid : Prop := judgeWalksUptoRow.holds Try.pinned (OpenSpec.upto judgeWalksSpec)

/-- 'augurlaw16.JudgeTakes', WHERE WHAT IT READS IS OF BULK AT MOST 1048576: true; the input reads as it did. -/
def judgeTakesUptoRow : OpenClaim := { program := "ytlcgkdhcdldlfaa", sum := "b04677a98df10f5e6a7c8142ad40249853b559138c9e8d7dfffc77d057a2fbd1", func := "augur/augurlaw16.JudgeTakes", spec := "judgeTakes", plainKeys := false, apart := false, narrowed := true }
def JudgeTakesUptoSaid : Prop := judgeTakesUptoRow.holds Try.pinned (OpenSpec.upto judgeTakesSpec)

/-- 'augurlaw16.JudgePlans', WHERE WHAT IT READS IS OF BULK AT MOST 1048576: true; the input reads as it did. -/
def judgePlansUptoRow : OpenClaim := { program := "ytlcgkdhcdldlfaa", sum := "b04677a98df10f5e6a7c8142ad40249853b559138c9e8d7dfffc77d057a2fbd1", func := "augur/augurlaw16.JudgePlans", spec := "judgePlans", plainKeys := false, apart := false, narrowed := true }
def JudgePlansUptoSaid : Prop := judgePlansUptoRow.holds Try.pinned (OpenSpec.upto judgePlansSpec)

/-- 'augurlaw16.JudgeLists', WHERE WHAT IT READS IS OF BULK AT MOST 1048576: true; the input reads as it did. -/
def judgeListsUptoRow : OpenClaim := { program := "ytlcgkdhcdldlfaa", sum := "b04677a98df10f5e6a7c8142ad40249853b559138c9e8d7dfffc77d057a2fbd1", func := "augur/augurlaw16.JudgeLists", spec := "judgeLists", plainKeys := false, apart := false, narrowed := true }
def JudgeListsUptoSaid : Prop := judgeListsUptoRow.holds Try.pinned (OpenSpec.upto judgeListsSpec)

/-- 'augurlaw16.JudgeLongest', WHERE WHAT IT READS IS OF BULK AT MOST 1048576: true; the input reads as it did. -/
def judgeLongestUptoRow : OpenClaim := { program := "ytlcgkdhcdldlfaa", sum := "b04677a98df10f5e6a7c8142ad40249853b559138c9e8d7dfffc77d057a2fbd1", func := "augur/augurlaw16.JudgeLongest", spec := "judgeLongest", recurses := true, plainKeys := false, apart := false, narrowed := true }
def JudgeLongestUptoSaid : Prop := judgeLongestUptoRow.holds Try.pinned (OpenSpec.upto judgeLongestSpec)

/-- 'augurlaw16.JudgeMoves', WHERE WHAT IT READS IS OF BULK AT MOST 1048576: true; the input reads as it did. -/
def judgeMovesUptoRow : OpenClaim := { program := "ytlcgkdhcdldlfaa", sum := "b04677a98df10f5e6a7c8142ad40249853b559138c9e8d7dfffc77d057a2fbd1", func := "augur/augurlaw16.JudgeMoves", spec := "judgeMoves", plainKeys := false, apart := false, narrowed := true }
def JudgeMovesUptoSaid : Prop := judgeMovesUptoRow.holds Try.pinned (OpenSpec.upto judgeMovesSpec)

end Rows
end Go.Proofs.Ytlcgkdhcdldlfaa
