/-
  NARROWER THAN 'FOR EVERY INPUT', by the rows' own cells (each row's printed sentence says how): RegexNexts: laid · RegexQuoted: laid · RegexCompiles: laid · RegexMatches: laid · RegexJoins: laid · RegexBegins: laid · RegexLives: laid.
  DERIVED. THE GIVEN ROWS OF THIS SEAT. 7 by the template 'for every input the law returns true; each argument reads behind the call as it read before'; 0 by the template 'total and deterministic' (their statements: YtlocogccjlecjaaDoorTotals.lean).
  GIVEN WITH THE SEED: the statements are not yours to turn. If you find one false, say at which input.
  Laid BY PROGRAM, IN A SANDBOX (cutbox-rows.mjs): the forced cells as the released guide's own fill.sh prints them over the translation 05a4f189bdf61249… (all of the seat's roots in one cut). By AI agents, Wed Nov 11 2026. No macro, syntax, notation, axiom, sorry.
-/
import Derived.Test.YtlocogccjlecjaaDoorChecked
import GoSem.Claim
import GoSem.ClaimJoined
import GoSem.ClaimMapViews
import Derived.JoinedTies
import Derived.KernelRfl
namespace Go.Proofs.YtlocogccjlecjaaDoor
/- THE CELL 'sum', in the pinned program and in every row, IS THE sha256 OF THE DUMP (.gsa) THAT YtlocogccjlecjaaDoorProg.lean LOADS. Nothing in Lean hashes anything: it is a label: what it is worth is what the hold of that sum in a sandbox is worth. -/
noncomputable def Tryd.pinned : Pinned := { name := "ytlocogccjlecjaadoor", sum := "05a4f189bdf612494481a7970f35e26125504938783bc85a30b99401cc22f01f", checked := Tryd.checked }
namespace Rows
def none {H : Type} : Left H := { results := [], args := [] }

/- WHAT THE LISTED PACKAGE-LEVEL VARIABLES READ AS WHEN THE CALL BEGINS. Each datum BY PROGRAM (the guide's laid-datum.mjs) off the statement by which the dump's own 'gosem.cut.vars' lays the variable. In a bare row this is a premise. The card (YtlocogccjlecjaaDoorCards.lean) ties it to the program's text. -/
def laid_math_bits_deBruijn64tab {H : Type} : DataW H := .agg [.lit (.int .u8 0), .lit (.int .u8 1), .lit (.int .u8 56), .lit (.int .u8 2), .lit (.int .u8 57), .lit (.int .u8 49), .lit (.int .u8 28), .lit (.int .u8 3), .lit (.int .u8 61), .lit (.int .u8 58), .lit (.int .u8 42), .lit (.int .u8 50), .lit (.int .u8 38), .lit (.int .u8 29), .lit (.int .u8 17), .lit (.int .u8 4), .lit (.int .u8 62), .lit (.int .u8 47), .lit (.int .u8 59), .lit (.int .u8 36), .lit (.int .u8 45), .lit (.int .u8 43), .lit (.int .u8 51), .lit (.int .u8 22), .lit (.int .u8 53), .lit (.int .u8 39), .lit (.int .u8 33), .lit (.int .u8 30), .lit (.int .u8 24), .lit (.int .u8 18), .lit (.int .u8 12), .lit (.int .u8 5), .lit (.int .u8 63), .lit (.int .u8 55), .lit (.int .u8 48), .lit (.int .u8 27), .lit (.int .u8 60), .lit (.int .u8 41), .lit (.int .u8 37), .lit (.int .u8 16), .lit (.int .u8 46), .lit (.int .u8 35), .lit (.int .u8 44), .lit (.int .u8 21), .lit (.int .u8 52), .lit (.int .u8 32), .lit (.int .u8 23), .lit (.int .u8 11), .lit (.int .u8 54), .lit (.int .u8 26), .lit (.int .u8 40), .lit (.int .u8 15), .lit (.int .u8 34), .lit (.int .u8 20), .lit (.int .u8 31), .lit (.int .u8 10), .lit (.int .u8 25), .lit (.int .u8 14), .lit (.int .u8 19), .lit (.int .u8 9), .lit (.int .u8 13), .lit (.int .u8 8), .lit (.int .u8 7), .lit (.int .u8 6)]

/-- 'augurlaw11.RegexNexts': WHATEVER THE INPUT: true; the input reads as it did. -/
def regexNextsSpec : ChangeSpec := { name := "regexNexts", fn := fun _ => fun
  | [d1, d2] => { results := [.lit (.bool true)], args := [d1, d2] }
  | _ => none }
def regexNextsRow : OpenClaim := { program := "ytlocogccjlecjaadoor", sum := "05a4f189bdf612494481a7970f35e26125504938783bc85a30b99401cc22f01f", func := "augur/augurlaw11.RegexNexts", spec := "regexNexts", inPlace := ["internal/bytealg.IndexByteString", "internal/bytealg.IndexString"], unfollowed := true, recurses := true, named := ["internal/bytealg.MaxLen", "math/bits.deBruijn64tab"], plainKeys := false, apart := false, laid := [("math/bits.deBruijn64tab", laid_math_bits_deBruijn64tab)] }
def RegexNextsSaid : Prop := regexNextsRow.holds Tryd.pinned (OpenSpec.ofChange regexNextsSpec)

/-- ITS FALSE NEIGHBOUR: 'it returns false'. Refute it at one input. -/
def regexNextsWrong : ChangeSpec := { name := "regexNexts", fn := fun _ => fun
  | [d1, d2] => { results := [.lit (.bool false)], args := [d1, d2] }
  | _ => none }
def RegexNextsWrongFalsely : Prop := regexNextsRow.holds Tryd.pinned (OpenSpec.ofChange regexNextsWrong)

/-- 'augurlaw11.RegexQuoted': WHATEVER THE INPUT: true; the input reads as it did. -/
def regexQuotedSpec : ChangeSpec := { name := "regexQuoted", fn := fun _ => fun
  | [d1, d2, d3] => { results := [.lit (.bool true)], args := [d1, d2, d3] }
  | _ => none }
def regexQuotedRow : OpenClaim := { program := "ytlocogccjlecjaadoor", sum := "05a4f189bdf612494481a7970f35e26125504938783bc85a30b99401cc22f01f", func := "augur/augurlaw11.RegexQuoted", spec := "regexQuoted", inPlace := ["internal/bytealg.IndexByteString", "internal/bytealg.IndexString"], unfollowed := true, recurses := true, named := ["internal/bytealg.MaxLen", "math/bits.deBruijn64tab"], plainKeys := false, apart := false, laid := [("math/bits.deBruijn64tab", laid_math_bits_deBruijn64tab)] }
def RegexQuotedSaid : Prop := regexQuotedRow.holds Tryd.pinned (OpenSpec.ofChange regexQuotedSpec)

/-- ITS FALSE NEIGHBOUR: 'it returns false'. Refute it at one input. -/
def regexQuotedWrong : ChangeSpec := { name := "regexQuoted", fn := fun _ => fun
  | [d1, d2, d3] => { results := [.lit (.bool false)], args := [d1, d2, d3] }
  | _ => none }
def RegexQuotedWrongFalsely : Prop := regexQuotedRow.holds Tryd.pinned (OpenSpec.ofChange regexQuotedWrong)

/-- 'augurlaw11.RegexCompiles': WHATEVER THE INPUT: true; the input reads as it did. -/
def regexCompilesSpec : ChangeSpec := { name := "regexCompiles", fn := fun _ => fun
  | [d] => { results := [.lit (.bool true)], args := [d] }
  | _ => none }
def regexCompilesRow : OpenClaim := { program := "ytlocogccjlecjaadoor", sum := "05a4f189bdf612494481a7970f35e26125504938783bc85a30b99401cc22f01f", func := "augur/augurlaw11.RegexCompiles", spec := "regexCompiles", inPlace := ["internal/bytealg.IndexByteString", "internal/bytealg.IndexString"], unfollowed := true, recurses := true, named := ["internal/bytealg.MaxLen", "math/bits.deBruijn64tab"], plainKeys := false, apart := false, laid := [("math/bits.deBruijn64tab", laid_math_bits_deBruijn64tab)] }
def RegexCompilesSaid : Prop := regexCompilesRow.holds Tryd.pinned (OpenSpec.ofChange regexCompilesSpec)

/-- ITS FALSE NEIGHBOUR: 'it returns false'. Refute it at one input. -/
def regexCompilesWrong : ChangeSpec := { name := "regexCompiles", fn := fun _ => fun
  | [d] => { results := [.lit (.bool false)], args := [d] }
  | _ => none }
def RegexCompilesWrongFalsely : Prop := regexCompilesRow.holds Tryd.pinned (OpenSpec.ofChange regexCompilesWrong)

/-- 'augurlaw11.RegexMatches': WHATEVER THE INPUT: true; the input reads as it did. -/
def regexMatchesSpec : ChangeSpec := { name := "regexMatches", fn := fun _ => fun
  | [d1, d2] => { results := [.lit (.bool true)], args := [d1, d2] }
  | _ => none }
def regexMatchesRow : OpenClaim := { program := "ytlocogccjlecjaadoor", sum := "05a4f189bdf612494481a7970f35e26125504938783bc85a30b99401cc22f01f", func := "augur/augurlaw11.RegexMatches", spec := "regexMatches", inPlace := ["internal/bytealg.IndexByteString", "internal/bytealg.IndexString"], unfollowed := true, recurses := true, named := ["internal/bytealg.MaxLen", "math/bits.deBruijn64tab"], plainKeys := false, apart := false, laid := [("math/bits.deBruijn64tab", laid_math_bits_deBruijn64tab)] }
def RegexMatchesSaid : Prop := regexMatchesRow.holds Tryd.pinned (OpenSpec.ofChange regexMatchesSpec)

/-- ITS FALSE NEIGHBOUR: 'it returns false'. Refute it at one input. -/
def regexMatchesWrong : ChangeSpec := { name := "regexMatches", fn := fun _ => fun
  | [d1, d2] => { results := [.lit (.bool false)], args := [d1, d2] }
  | _ => none }
def RegexMatchesWrongFalsely : Prop := regexMatchesRow.holds Tryd.pinned (OpenSpec.ofChange regexMatchesWrong)

/-- 'augurlaw11.RegexJoins': WHATEVER THE INPUT: true; the input reads as it did. -/
def regexJoinsSpec : ChangeSpec := { name := "regexJoins", fn := fun _ => fun
  | [d1, d2, d3] => { results := [.lit (.bool true)], args := [d1, d2, d3] }
  | _ => none }
def regexJoinsRow : OpenClaim := { program := "ytlocogccjlecjaadoor", sum := "05a4f189bdf612494481a7970f35e26125504938783bc85a30b99401cc22f01f", func := "augur/augurlaw11.RegexJoins", spec := "regexJoins", inPlace := ["internal/bytealg.IndexByteString", "internal/bytealg.IndexString"], unfollowed := true, recurses := true, named := ["internal/bytealg.MaxLen", "math/bits.deBruijn64tab"], plainKeys := false, apart := false, laid := [("math/bits.deBruijn64tab", laid_math_bits_deBruijn64tab)] }
def RegexJoinsSaid : Prop := regexJoinsRow.holds Tryd.pinned (OpenSpec.ofChange regexJoinsSpec)

/-- ITS FALSE NEIGHBOUR: 'it returns false'. Refute it at one input. -/
def regexJoinsWrong : ChangeSpec := { name := "regexJoins", fn := fun _ => fun
  | [d1, d2, d3] => { results := [.lit (.bool false)], args := [d1, d2, d3] }
  | _ => none }
def RegexJoinsWrongFalsely : Prop := regexJoinsRow.holds Tryd.pinned (OpenSpec.ofChange regexJoinsWrong)

/-- 'augurlaw11.RegexBegins': WHATEVER THE INPUT: true; the input reads as it did. -/
def regexBeginsSpec : ChangeSpec := { name := "regexBegins", fn := fun _ => fun
  | [d1, d2] => { results := [.lit (.bool true)], args := [d1, d2] }
  | _ => none }
def regexBeginsRow : OpenClaim := { program := "ytlocogccjlecjaadoor", sum := "05a4f189bdf612494481a7970f35e26125504938783bc85a30b99401cc22f01f", func := "augur/augurlaw11.RegexBegins", spec := "regexBegins", inPlace := ["internal/bytealg.IndexByteString", "internal/bytealg.IndexString"], unfollowed := true, recurses := true, named := ["internal/bytealg.MaxLen", "math/bits.deBruijn64tab"], plainKeys := false, apart := false, laid := [("math/bits.deBruijn64tab", laid_math_bits_deBruijn64tab)] }
def RegexBeginsSaid : Prop := regexBeginsRow.holds Tryd.pinned (OpenSpec.ofChange regexBeginsSpec)

/-- ITS FALSE NEIGHBOUR: 'it returns false'. Refute it at one input. -/
def regexBeginsWrong : ChangeSpec := { name := "regexBegins", fn := fun _ => fun
  | [d1, d2] => { results := [.lit (.bool false)], args := [d1, d2] }
  | _ => none }
def RegexBeginsWrongFalsely : Prop := regexBeginsRow.holds Tryd.pinned (OpenSpec.ofChange regexBeginsWrong)

/-- 'augurlaw11.RegexLives': WHATEVER THE INPUT: true; the input reads as it did. -/
def regexLivesSpec : ChangeSpec := { name := "regexLives", fn := fun _ => fun
  | [d] => { results := [.lit (.bool true)], args := [d] }
  | _ => none }
def regexLivesRow : OpenClaim := { program := "ytlocogccjlecjaadoor", sum := "05a4f189bdf612494481a7970f35e26125504938783bc85a30b99401cc22f01f", func := "augur/augurlaw11.RegexLives", spec := "regexLives", inPlace := ["internal/bytealg.IndexByteString", "internal/bytealg.IndexString"], unfollowed := true, recurses := true, named := ["internal/bytealg.MaxLen", "math/bits.deBruijn64tab"], plainKeys := false, apart := false, laid := [("math/bits.deBruijn64tab", laid_math_bits_deBruijn64tab)] }
def RegexLivesSaid : Prop := regexLivesRow.holds Tryd.pinned (OpenSpec.ofChange regexLivesSpec)

/-- ITS FALSE NEIGHBOUR: 'it returns false'. Refute it at one input. -/
def regexLivesWrong : ChangeSpec := { name := "regexLives", fn := fun _ => fun
  | [d] => { results := [.lit (.bool false)], args := [d] }
  | _ => none }
def RegexLivesWrongFalsely : Prop := regexLivesRow.holds Tryd.pinned (OpenSpec.ofChange regexLivesWrong)

/- THE SECOND FORM. 'bulk': how many values and letters a reading holds, each counted each time it is reached (what is shared counts as often as it is met; a slice's spare places count too). A statement '..UptoSaid' is the law's where the arguments, and the package variables that the reading takes, are together of bulk at most 1048576: NARROWER than '..Said'. Prove '..Said' where nothing that the law and all that it calls make is longer than what came in: it says more and counts as full. Else prove '..UptoSaid'. A law counts once. -/
mutual
def uptoBulk {H : Type} : DataW H → Nat
  | .lit (.string bytes) => bytes.length + 1
  | .lit _ => 1
  | .nil => 1
  | .ptr d => uptoBulk d + 1
  | .slice elems spare => uptoBulkAll elems + uptoBulkAll spare + 1
  | .agg parts => uptoBulkAll parts + 1
  | .iface _ d => uptoBulk d + 1
  | .map entries => uptoBulkEntries entries + 1
  | .held _ => 1
def uptoBulkAll {H : Type} : List (DataW H) → Nat
  | [] => 0
  | d :: r => uptoBulk d + uptoBulkAll r
def uptoBulkEntries {H : Type} : List (Lit × DataW H) → Nat
  | [] => 0
  | x :: r => uptoBulkEntry x + uptoBulkEntries r
def uptoBulkEntry {H : Type} : Lit × DataW H → Nat
  | (.string bytes, d) => bytes.length + uptoBulk d + 1
  | (_, d) => uptoBulk d + 1
 end
def uptoSmall : (H : Type) → List (DataW H) → Bool := fun _ ds => decide (uptoBulkAll ds ≤ 1048576)
def OpenSpec.upto (s : _root_.Go.ChangeSpec) : _root_.Go.OpenSpec := { _root_.Go.OpenSpec.ofChange s with cond := some uptoSmall }

/-- 'augurlaw11.RegexNexts', WHERE WHAT IT READS IS OF BULK AT MOST 1048576: true; the input reads as it did. -/
def regexNextsUptoRow : OpenClaim := { program := "ytlocogccjlecjaadoor", sum := "05a4f189bdf612494481a7970f35e26125504938783bc85a30b99401cc22f01f", func := "augur/augurlaw11.RegexNexts", spec := "regexNexts", inPlace := ["internal/bytealg.IndexByteString", "internal/bytealg.IndexString"], unfollowed := true, recurses := true, named := ["internal/bytealg.MaxLen", "math/bits.deBruijn64tab"], plainKeys := false, apart := false, laid := [("math/bits.deBruijn64tab", laid_math_bits_deBruijn64tab)], narrowed := true }
def RegexNextsUptoSaid : Prop := regexNextsUptoRow.holds Tryd.pinned (OpenSpec.upto regexNextsSpec)

/-- 'augurlaw11.RegexQuoted', WHERE WHAT IT READS IS OF BULK AT MOST 1048576: true; the input reads as it did. -/
def regexQuotedUptoRow : OpenClaim := { program := "ytlocogccjlecjaadoor", sum := "05a4f189bdf612494481a7970f35e26125504938783bc85a30b99401cc22f01f", func := "augur/augurlaw11.RegexQuoted", spec := "regexQuoted", inPlace := ["internal/bytealg.IndexByteString", "internal/bytealg.IndexString"], unfollowed := true, recurses := true, named := ["internal/bytealg.MaxLen", "math/bits.deBruijn64tab"], plainKeys := false, apart := false, laid := [("math/bits.deBruijn64tab", laid_math_bits_deBruijn64tab)], narrowed := true }
def RegexQuotedUptoSaid : Prop := regexQuotedUptoRow.holds Tryd.pinned (OpenSpec.upto regexQuotedSpec)

/-- 'augurlaw11.RegexCompiles', WHERE WHAT IT READS IS OF BULK AT MOST 1048576: true; the input reads as it did. -/
def regexCompilesUptoRow : OpenClaim := { program := "ytlocogccjlecjaadoor", sum := "05a4f189bdf612494481a7970f35e26125504938783bc85a30b99401cc22f01f", func := "augur/augurlaw11.RegexCompiles", spec := "regexCompiles", inPlace := ["internal/bytealg.IndexByteString", "internal/bytealg.IndexString"], unfollowed := true, recurses := true, named := ["internal/bytealg.MaxLen", "math/bits.deBruijn64tab"], plainKeys := false, apart := false, laid := [("math/bits.deBruijn64tab", laid_math_bits_deBruijn64tab)], narrowed := true }
def RegexCompilesUptoSaid : Prop := regexCompilesUptoRow.holds Tryd.pinned (OpenSpec.upto regexCompilesSpec)

/-- 'augurlaw11.RegexMatches', WHERE WHAT IT READS IS OF BULK AT MOST 1048576: true; the input reads as it did. -/
def regexMatchesUptoRow : OpenClaim := { program := "ytlocogccjlecjaadoor", sum := "05a4f189bdf612494481a7970f35e26125504938783bc85a30b99401cc22f01f", func := "augur/augurlaw11.RegexMatches", spec := "regexMatches", inPlace := ["internal/bytealg.IndexByteString", "internal/bytealg.IndexString"], unfollowed := true, recurses := true, named := ["internal/bytealg.MaxLen", "math/bits.deBruijn64tab"], plainKeys := false, apart := false, laid := [("math/bits.deBruijn64tab", laid_math_bits_deBruijn64tab)], narrowed := true }
def RegexMatchesUptoSaid : Prop := regexMatchesUptoRow.holds Tryd.pinned (OpenSpec.upto regexMatchesSpec)

/-- 'augurlaw11.RegexJoins', WHERE WHAT IT READS IS OF BULK AT MOST 1048576: true; the input reads as it did. -/
def regexJoinsUptoRow : OpenClaim := { program := "ytlocogccjlecjaadoor", sum := "05a4f189bdf612494481a7970f35e26125504938783bc85a30b99401cc22f01f", func := "augur/augurlaw11.RegexJoins", spec := "regexJoins", inPlace := ["internal/bytealg.IndexByteString", "internal/bytealg.IndexString"], unfollowed := true, recurses := true, named := ["internal/bytealg.MaxLen", "math/bits.deBruijn64tab"], plainKeys := false, apart := false, laid := [("math/bits.deBruijn64tab", laid_math_bits_deBruijn64tab)], narrowed := true }
def RegexJoinsUptoSaid : Prop := regexJoinsUptoRow.holds Tryd.pinned (OpenSpec.upto regexJoinsSpec)

/-- 'augurlaw11.RegexBegins', WHERE WHAT IT READS IS OF BULK AT MOST 1048576: true; the input reads as it did. -/
def regexBeginsUptoRow : OpenClaim := { program := "ytlocogccjlecjaadoor", sum := "05a4f189bdf612494481a7970f35e26125504938783bc85a30b99401cc22f01f", func := "augur/augurlaw11.RegexBegins", spec := "regexBegins", inPlace := ["internal/bytealg.IndexByteString", "internal/bytealg.IndexString"], unfollowed := true, recurses := true, named := ["internal/bytealg.MaxLen", "math/bits.deBruijn64tab"], plainKeys := false, apart := false, laid := [("math/bits.deBruijn64tab", laid_math_bits_deBruijn64tab)], narrowed := true }
def RegexBeginsUptoSaid : Prop := regexBeginsUptoRow.holds Tryd.pinned (OpenSpec.upto regexBeginsSpec)

/-- 'augurlaw11.RegexLives', WHERE WHAT IT READS IS OF BULK AT MOST 1048576: true; the input reads as it did. -/
def regexLivesUptoRow : OpenClaim := { program := "ytlocogccjlecjaadoor", sum := "05a4f189bdf612494481a7970f35e26125504938783bc85a30b99401cc22f01f", func := "augur/augurlaw11.RegexLives", spec := "regexLives", inPlace := ["internal/bytealg.IndexByteString", "internal/bytealg.IndexString"], unfollowed := true, recurses := true, named := ["internal/bytealg.MaxLen", "math/bits.deBruijn64tab"], plainKeys := false, apart := false, laid := [("math/bits.deBruijn64tab", laid_math_bits_deBruijn64tab)], narrowed := true }
def RegexLivesUptoSaid : Prop := regexLivesUptoRow.holds Tryd.pinned (OpenSpec.upto regexLivesSpec)

end Rows
end Go.Proofs.YtlocogccjlecjaaDoor
