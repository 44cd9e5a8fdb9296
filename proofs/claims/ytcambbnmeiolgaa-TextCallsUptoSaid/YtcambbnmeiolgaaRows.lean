/-
  No cell of these rows narrows 'for every input' (looked for: loops, veiled, ifaces, maps, wideKeys, modest, calm, conditions, laid).
  DERIVED. THE GIVEN ROWS OF THIS SEAT. 8 by the template 'for every input the law returns true; each argument reads behind the call as it read before'; 0 by the template 'total and deterministic' (their statements: YtcambbnmeiolgaaTotals.lean).
  GIVEN WITH THE SEED: the statements are not yours to turn. If you find one false, say at which input.
  Laid BY PROGRAM, IN A SANDBOX (cutbox-rows.mjs): the forced cells as the released guide's own fill.sh prints them over the translation f348ea90d5d02a9e… (all of the seat's roots in one cut). By AI agents, Wed Nov 11 2026. No macro, syntax, notation, axiom, sorry.
-/
import Derived.Test.YtcambbnmeiolgaaChecked
import GoSem.Claim
import GoSem.ClaimJoined
import GoSem.ClaimMapViews
import Derived.JoinedTies
import Derived.KernelRfl
namespace Go.Proofs.Ytcambbnmeiolgaa
/- THE CELL 'sum', in the pinned program and in every row, IS THE sha256 OF THE DUMP (.gsa) THAT YtcambbnmeiolgaaProg.lean LOADS. Nothing in Lean hashes anything: it is a label: what it is worth is what the hold of that sum in a sandbox is worth. -/
noncomputable def Try.pinned : Pinned := { name := "ytcambbnmeiolgaa", sum := "f348ea90d5d02a9eb6a6624f64fe5bb3f3b35b695ad69a531d1b2787b6b9f0c8", checked := Try.checked }
namespace Rows
def none {H : Type} : Left H := { results := [], args := [] }

/-- 'augurlaw18.TextCalls': WHATEVER THE INPUT: true; the input reads as it did. -/
def textCallsSpec : ChangeSpec := { name := "textCalls", fn := fun _ => fun
  | [d] => { results := [.lit (.bool true)], args := [d] }
  | _ => none }
def textCallsRow : OpenClaim := { program := "ytcambbnmeiolgaa", sum := "f348ea90d5d02a9eb6a6624f64fe5bb3f3b35b695ad69a531d1b2787b6b9f0c8", func := "augur/augurlaw18.TextCalls", spec := "textCalls", inPlace := ["internal/abi.NoEscape", "internal/bytealg.MakeNoZero"], unfollowed := true, recurses := true, plainKeys := false, apart := false }
def TextCallsSaid : Prop := textCallsRow.holds Try.pinned (OpenSpec.ofChange textCallsSpec)

/-- ITS FALSE NEIGHBOUR: 'it returns false'. Refute it at one input. -/
def textCallsWrong : ChangeSpec := { name := "textCalls", fn := fun _ => fun
  | [d] => { results := [.lit (.bool false)], args := [d] }
  | _ => none }
def TextCallsWrongFalsely : Prop := textCallsRow.holds Try.pinned (OpenSpec.ofChange textCallsWrong)

/-- 'augurlaw18.TextPieces': WHATEVER THE INPUT: true; the input reads as it did. -/
def textPiecesSpec : ChangeSpec := { name := "textPieces", fn := fun _ => fun
  | [d1, d2, d3, d4] => { results := [.lit (.bool true)], args := [d1, d2, d3, d4] }
  | _ => none }
def textPiecesRow : OpenClaim := { program := "ytcambbnmeiolgaa", sum := "f348ea90d5d02a9eb6a6624f64fe5bb3f3b35b695ad69a531d1b2787b6b9f0c8", func := "augur/augurlaw18.TextPieces", spec := "textPieces", inPlace := ["internal/abi.NoEscape", "internal/bytealg.MakeNoZero"], unfollowed := true, recurses := true, plainKeys := false, apart := false }
def TextPiecesSaid : Prop := textPiecesRow.holds Try.pinned (OpenSpec.ofChange textPiecesSpec)

/-- ITS FALSE NEIGHBOUR: 'it returns false'. Refute it at one input. -/
def textPiecesWrong : ChangeSpec := { name := "textPieces", fn := fun _ => fun
  | [d1, d2, d3, d4] => { results := [.lit (.bool false)], args := [d1, d2, d3, d4] }
  | _ => none }
def TextPiecesWrongFalsely : Prop := textPiecesRow.holds Try.pinned (OpenSpec.ofChange textPiecesWrong)

/-- 'augurlaw18.TextApart': WHATEVER THE INPUT: true; the input reads as it did. -/
def textApartSpec : ChangeSpec := { name := "textApart", fn := fun _ => fun
  | [d1, d2, d3, d4] => { results := [.lit (.bool true)], args := [d1, d2, d3, d4] }
  | _ => none }
def textApartRow : OpenClaim := { program := "ytcambbnmeiolgaa", sum := "f348ea90d5d02a9eb6a6624f64fe5bb3f3b35b695ad69a531d1b2787b6b9f0c8", func := "augur/augurlaw18.TextApart", spec := "textApart", inPlace := ["internal/abi.NoEscape", "internal/bytealg.MakeNoZero"], unfollowed := true, recurses := true, plainKeys := false, apart := false }
def TextApartSaid : Prop := textApartRow.holds Try.pinned (OpenSpec.ofChange textApartSpec)

/-- ITS FALSE NEIGHBOUR: 'it returns false'. Refute it at one input. -/
def textApartWrong : ChangeSpec := { name := "textApart", fn := fun _ => fun
  | [d1, d2, d3, d4] => { results := [.lit (.bool false)], args := [d1, d2, d3, d4] }
  | _ => none }
def TextApartWrongFalsely : Prop := textApartRow.holds Try.pinned (OpenSpec.ofChange textApartWrong)

/-- 'augurlaw18.TextLate': WHATEVER THE INPUT: true; the input reads as it did. -/
def textLateSpec : ChangeSpec := { name := "textLate", fn := fun _ => fun
  | [d1, d2, d3, d4] => { results := [.lit (.bool true)], args := [d1, d2, d3, d4] }
  | _ => none }
def textLateRow : OpenClaim := { program := "ytcambbnmeiolgaa", sum := "f348ea90d5d02a9eb6a6624f64fe5bb3f3b35b695ad69a531d1b2787b6b9f0c8", func := "augur/augurlaw18.TextLate", spec := "textLate", inPlace := ["internal/abi.NoEscape", "internal/bytealg.MakeNoZero"], unfollowed := true, recurses := true, plainKeys := false, apart := false }
def TextLateSaid : Prop := textLateRow.holds Try.pinned (OpenSpec.ofChange textLateSpec)

/-- ITS FALSE NEIGHBOUR: 'it returns false'. Refute it at one input. -/
def textLateWrong : ChangeSpec := { name := "textLate", fn := fun _ => fun
  | [d1, d2, d3, d4] => { results := [.lit (.bool false)], args := [d1, d2, d3, d4] }
  | _ => none }
def TextLateWrongFalsely : Prop := textLateRow.holds Try.pinned (OpenSpec.ofChange textLateWrong)

/-- 'augurlaw18.TextWaits': WHATEVER THE INPUT: true; the input reads as it did. -/
def textWaitsSpec : ChangeSpec := { name := "textWaits", fn := fun _ => fun
  | [d1, d2, d3] => { results := [.lit (.bool true)], args := [d1, d2, d3] }
  | _ => none }
def textWaitsRow : OpenClaim := { program := "ytcambbnmeiolgaa", sum := "f348ea90d5d02a9eb6a6624f64fe5bb3f3b35b695ad69a531d1b2787b6b9f0c8", func := "augur/augurlaw18.TextWaits", spec := "textWaits", inPlace := ["internal/abi.NoEscape", "internal/bytealg.MakeNoZero"], unfollowed := true, recurses := true, plainKeys := false, apart := false }
def TextWaitsSaid : Prop := textWaitsRow.holds Try.pinned (OpenSpec.ofChange textWaitsSpec)

/-- ITS FALSE NEIGHBOUR: 'it returns false'. Refute it at one input. -/
def textWaitsWrong : ChangeSpec := { name := "textWaits", fn := fun _ => fun
  | [d1, d2, d3] => { results := [.lit (.bool false)], args := [d1, d2, d3] }
  | _ => none }
def TextWaitsWrongFalsely : Prop := textWaitsRow.holds Try.pinned (OpenSpec.ofChange textWaitsWrong)

/-- 'augurlaw18.TextStops': WHATEVER THE INPUT: true; the input reads as it did. -/
def textStopsSpec : ChangeSpec := { name := "textStops", fn := fun _ => fun
  | [d1, d2, d3] => { results := [.lit (.bool true)], args := [d1, d2, d3] }
  | _ => none }
def textStopsRow : OpenClaim := { program := "ytcambbnmeiolgaa", sum := "f348ea90d5d02a9eb6a6624f64fe5bb3f3b35b695ad69a531d1b2787b6b9f0c8", func := "augur/augurlaw18.TextStops", spec := "textStops", inPlace := ["internal/abi.NoEscape", "internal/bytealg.MakeNoZero"], unfollowed := true, recurses := true, plainKeys := false, apart := false }
def TextStopsSaid : Prop := textStopsRow.holds Try.pinned (OpenSpec.ofChange textStopsSpec)

/-- ITS FALSE NEIGHBOUR: 'it returns false'. Refute it at one input. -/
def textStopsWrong : ChangeSpec := { name := "textStops", fn := fun _ => fun
  | [d1, d2, d3] => { results := [.lit (.bool false)], args := [d1, d2, d3] }
  | _ => none }
def TextStopsWrongFalsely : Prop := textStopsRow.holds Try.pinned (OpenSpec.ofChange textStopsWrong)

/-- 'augurlaw18.TextRunes': WHATEVER THE INPUT: true; the input reads as it did. -/
def textRunesSpec : ChangeSpec := { name := "textRunes", fn := fun _ => fun
  | [d1, d2, d3] => { results := [.lit (.bool true)], args := [d1, d2, d3] }
  | _ => none }
def textRunesRow : OpenClaim := { program := "ytcambbnmeiolgaa", sum := "f348ea90d5d02a9eb6a6624f64fe5bb3f3b35b695ad69a531d1b2787b6b9f0c8", func := "augur/augurlaw18.TextRunes", spec := "textRunes", inPlace := ["internal/abi.NoEscape", "internal/bytealg.MakeNoZero"], unfollowed := true, recurses := true, plainKeys := false, apart := false }
def TextRunesSaid : Prop := textRunesRow.holds Try.pinned (OpenSpec.ofChange textRunesSpec)

/-- ITS FALSE NEIGHBOUR: 'it returns false'. Refute it at one input. -/
def textRunesWrong : ChangeSpec := { name := "textRunes", fn := fun _ => fun
  | [d1, d2, d3] => { results := [.lit (.bool false)], args := [d1, d2, d3] }
  | _ => none }
def TextRunesWrongFalsely : Prop := textRunesRow.holds Try.pinned (OpenSpec.ofChange textRunesWrong)

/-- 'augurlaw18.TextWhole': WHATEVER THE INPUT: true; the input reads as it did. -/
def textWholeSpec : ChangeSpec := { name := "textWhole", fn := fun _ => fun
  | [d1, d2, d3] => { results := [.lit (.bool true)], args := [d1, d2, d3] }
  | _ => none }
def textWholeRow : OpenClaim := { program := "ytcambbnmeiolgaa", sum := "f348ea90d5d02a9eb6a6624f64fe5bb3f3b35b695ad69a531d1b2787b6b9f0c8", func := "augur/augurlaw18.TextWhole", spec := "textWhole", inPlace := ["internal/abi.NoEscape", "internal/bytealg.MakeNoZero"], unfollowed := true, recurses := true, plainKeys := false, apart := false }
def TextWholeSaid : Prop := textWholeRow.holds Try.pinned (OpenSpec.ofChange textWholeSpec)

/-- ITS FALSE NEIGHBOUR: 'it returns false'. Refute it at one input. -/
def textWholeWrong : ChangeSpec := { name := "textWhole", fn := fun _ => fun
  | [d1, d2, d3] => { results := [.lit (.bool false)], args := [d1, d2, d3] }
  | _ => none }
def TextWholeWrongFalsely : Prop := textWholeRow.holds Try.pinned (OpenSpec.ofChange textWholeWrong)

/- THE SECOND FORM. 'bulk': how many values and letters a reading holds, each counted each time it is reached (what is shared counts as often as it is met; a slice's spare places count too). A statement '..UptoSaid' is the law's where the arguments, and the package variables that the reading takes, are together of bulk at most 1048576: NARROWER than '..Said'. Prove '..Said' where nothing that the law and all that it calls make is longer than what came in: it says more and counts as full. Else prove '..UptoSaid'. A law counts once. -/
mutual
def uptoBulk {H : Type} : DataW H → Nat
  | .lit (.string bytes) => bytes.length + 1
  | .lit _ => 1
  | .nil => 1
  | .ptr d => uptoBulk d + 1
  | .slice elems spare => uptoBulkAll elems + uptoBulkAll spare + 1
  | .agg parts => uptoBulkAll parts + 1
  | .iface _ d => uptoBulk d + 1
  | .map entries => uptoBulkEntries entries + 1
  | .held _ => 1
def uptoBulkAll {H : Type} : List (DataW H) → Nat
  | [] => 0
  | d :: r => uptoBulk d + uptoBulkAll r
def uptoBulkEntries {H : Type} : List (Lit × DataW H) → Nat
  | [] => 0
  | x :: r => uptoBulkEntry x + uptoBulkEntries r
def uptoBulkEntry {H : Type} : Lit × DataW H → Nat
  | (.string bytes, d) => bytes.length + uptoBulk d + 1
  | (_, d) => uptoBulk d + 1
 end
def uptoSmall : (H : Type) → List (DataW H) → Bool := fun _ ds => decide (uptoBulkAll ds ≤ 1048576)
def OpenSpec.upto (s : _root_.Go.ChangeSpec) : _root_.Go.OpenSpec := { _root_.Go.OpenSpec.ofChange s with cond := some uptoSmall }

/-- 'augurlaw18.TextCalls', WHERE WHAT IT READS IS OF BULK AT MOST 1048576: true; the input reads as it did. -/
def textCallsUptoRow : OpenClaim := { program := "ytcambbnmeiolgaa", sum := "f348ea90d5d02a9eb6a6624f64fe5bb3f3b35b695ad69a531d1b2787b6b9f0c8", func := "augur/augurlaw18.TextCalls", spec := "textCalls", inPlace := ["internal/abi.NoEscape", "internal/bytealg.MakeNoZero"], unfollowed := true, recurses := true, plainKeys := false, apart := false, narrowed := true }
def TextCallsUptoSaid : Prop := textCallsUptoRow.holds Try.pinned (OpenSpec.upto textCallsSpec)

/-- 'augurlaw18.TextPieces', WHERE WHAT IT READS IS OF BULK AT MOST 1048576: true; the input reads as it did. -/
def textPiecesUptoRow : OpenClaim := { program := "ytcambbnmeiolgaa", sum := "f348ea90d5d02a9eb6a6624f64fe5bb3f3b35b695ad69a531d1b2787b6b9f0c8", func := "augur/augurlaw18.TextPieces", spec := "textPieces", inPlace := ["internal/abi.NoEscape", "internal/bytealg.MakeNoZero"], unfollowed := true, recurses := true, plainKeys := false, apart := false, narrowed := true }
def TextPiecesUptoSaid : Prop := textPiecesUptoRow.holds Try.pinned (OpenSpec.upto textPiecesSpec)

/-- 'augurlaw18.TextApart', WHERE WHAT IT READS IS OF BULK AT MOST 1048576: true; the input reads as it did. -/
def textApartUptoRow : OpenClaim := { program := "ytcambbnmeiolgaa", sum := "f348ea90d5d02a9eb6a6624f64fe5bb3f3b35b695ad69a531d1b2787b6b9f0c8", func := "augur/augurlaw18.TextApart", spec := "textApart", inPlace := ["internal/abi.NoEscape", "internal/bytealg.MakeNoZero"], unfollowed := true, recurses := true, plainKeys := false, apart := false, narrowed := true }
def TextApartUptoSaid : Prop := textApartUptoRow.holds Try.pinned (OpenSpec.upto textApartSpec)

/-- 'augurlaw18.TextLate', WHERE WHAT IT READS IS OF BULK AT MOST 1048576: true; the input reads as it did. -/
def textLateUptoRow : OpenClaim := { program := "ytcambbnmeiolgaa", sum := "f348ea90d5d02a9eb6a6624f64fe5bb3f3b35b695ad69a531d1b2787b6b9f0c8", func := "augur/augurlaw18.TextLate", spec := "textLate", inPlace := ["internal/abi.NoEscape", "internal/bytealg.MakeNoZero"], unfollowed := true, recurses := true, plainKeys := false, apart := false, narrowed := true }
def TextLateUptoSaid : Prop := textLateUptoRow.holds Try.pinned (OpenSpec.upto textLateSpec)

/-- 'augurlaw18.TextWaits', WHERE WHAT IT READS IS OF BULK AT MOST 1048576: true; the input reads as it did. -/
def textWaitsUptoRow : OpenClaim := { program := "ytcambbnmeiolgaa", sum := "f348ea90d5d02a9eb6a6624f64fe5bb3f3b35b695ad69a531d1b2787b6b9f0c8", func := "augur/augurlaw18.TextWaits", spec := "textWaits", inPlace := ["internal/abi.NoEscape", "internal/bytealg.MakeNoZero"], unfollowed := true, recurses := true, plainKeys := false, apart := false, narrowed := true }
def TextWaitsUptoSaid : Prop := textWaitsUptoRow.holds Try.pinned (OpenSpec.upto textWaitsSpec)

/-- 'augurlaw18.TextStops', WHERE WHAT IT READS IS OF BULK AT MOST 1048576: true; the input reads as it did. -/
def textStopsUptoRow : OpenClaim := { program := "ytcambbnmeiolgaa", sum := "f348ea90d5d02a9eb6a6624f64fe5bb3f3b35b695ad69a531d1b2787b6b9f0c8", func := "augur/augurlaw18.TextStops", spec := "textStops", inPlace := ["internal/abi.NoEscape", "internal/bytealg.MakeNoZero"], unfollowed := true, recurses := true, plainKeys := false, apart := false, narrowed := true }
def TextStopsUptoSaid : Prop := textStopsUptoRow.holds Try.pinned (OpenSpec.upto textStopsSpec)

/-- 'augurlaw18.TextRunes', WHERE WHAT IT READS IS OF BULK AT MOST 1048576: true; the input reads as it did. -/
def textRunesUptoRow : OpenClaim := { program := "ytcambbnmeiolgaa", sum := "f348ea90d5d02a9eb6a6624f64fe5bb3f3b35b695ad69a531d1b2787b6b9f0c8", func := "augur/augurlaw18.TextRunes", spec := "textRunes", inPlace := ["internal/abi.NoEscape", "internal/bytealg.MakeNoZero"], unfollowed := true, recurses := true, plainKeys := false, apart := false, narrowed := true }
def TextRunesUptoSaid : Prop := textRunesUptoRow.holds Try.pinned (OpenSpec.upto textRunesSpec)

/-- 'augurlaw18.TextWhole', WHERE WHAT IT READS IS OF BULK AT MOST 1048576: true; the input reads as it did. -/
def textWholeUptoRow : OpenClaim := { program := "ytcambbnmeiolgaa", sum := "f348ea90d5d02a9eb6a6624f64fe5bb3f3b35b695ad69a531d1b2787b6b9f0c8", func := "augur/augurlaw18.TextWhole", spec := "textWhole", inPlace := ["internal/abi.NoEscape", "internal/bytealg.MakeNoZero"], unfollowed := true, recurses := true, plainKeys := false, apart := false, narrowed := true }
def TextWholeUptoSaid : Prop := textWholeUptoRow.holds Try.pinned (OpenSpec.upto textWholeSpec)

end Rows
end Go.Proofs.Ytcambbnmeiolgaa
