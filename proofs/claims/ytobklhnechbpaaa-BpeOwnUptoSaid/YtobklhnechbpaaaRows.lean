/-
  No cell of these rows narrows 'for every input' (looked for: loops, veiled, ifaces, maps, wideKeys, modest, calm, conditions, laid).
  DERIVED. THE GIVEN ROWS OF THIS SEAT. 8 by the template 'for every input the law returns true; each argument reads behind the call as it read before'; 0 by the template 'total and deterministic' (their statements: YtobklhnechbpaaaTotals.lean).
  GIVEN WITH THE SEED: the statements are not yours to turn. If you find one false, say at which input.
  Laid BY PROGRAM, IN A SANDBOX (cutbox-rows.mjs): the forced cells as the released guide's own fill.sh prints them over the translation a355da29f0b25398… (all of the seat's roots in one cut). By AI agents, Wed Nov 11 2026. No macro, syntax, notation, axiom, sorry.
-/
import Derived.Test.YtobklhnechbpaaaChecked
import GoSem.Claim
import GoSem.ClaimJoined
import GoSem.ClaimMapViews
import Derived.JoinedTies
import Derived.KernelRfl
namespace Go.Proofs.Ytobklhnechbpaaa
/- THE CELL 'sum', in the pinned program and in every row, IS THE sha256 OF THE DUMP (.gsa) THAT YtobklhnechbpaaaProg.lean LOADS. Nothing in Lean hashes anything: it is a label: what it is worth is what the hold of that sum in a sandbox is worth. -/
noncomputable def Try.pinned : Pinned := { name := "ytobklhnechbpaaa", sum := "a355da29f0b25398008ca763210df3183e6ce51cdf0fb6af62ba9dd6148cf755", checked := Try.checked }
namespace Rows
def none {H : Type} : Left H := { results := [], args := [] }

/-- 'augurlaw05.BpeChecks': WHATEVER THE INPUT: true; the input reads as it did. -/
def bpeChecksSpec : ChangeSpec := { name := "bpeChecks", fn := fun _ => fun
  | [d] => { results := [.lit (.bool true)], args := [d] }
  | _ => none }
def bpeChecksRow : OpenClaim := { program := "ytobklhnechbpaaa", sum := "a355da29f0b25398008ca763210df3183e6ce51cdf0fb6af62ba9dd6148cf755", func := "augur/augurlaw05.BpeChecks", spec := "bpeChecks", plainKeys := false, apart := false }
def BpeChecksSaid : Prop := bpeChecksRow.holds Try.pinned (OpenSpec.ofChange bpeChecksSpec)

/-- ITS FALSE NEIGHBOUR: 'it returns false'. Refute it at one input. -/
def bpeChecksWrong : ChangeSpec := { name := "bpeChecks", fn := fun _ => fun
  | [d] => { results := [.lit (.bool false)], args := [d] }
  | _ => none }
def BpeChecksWrongFalsely : Prop := bpeChecksRow.holds Try.pinned (OpenSpec.ofChange bpeChecksWrong)

/-- 'augurlaw05.BpeAlls': WHATEVER THE INPUT: true; the input reads as it did. -/
def bpeAllsSpec : ChangeSpec := { name := "bpeAlls", fn := fun _ => fun
  | [d1, d2] => { results := [.lit (.bool true)], args := [d1, d2] }
  | _ => none }
def bpeAllsRow : OpenClaim := { program := "ytobklhnechbpaaa", sum := "a355da29f0b25398008ca763210df3183e6ce51cdf0fb6af62ba9dd6148cf755", func := "augur/augurlaw05.BpeAlls", spec := "bpeAlls", unfollowed := true, recurses := true, plainKeys := false, apart := false }
def BpeAllsSaid : Prop := bpeAllsRow.holds Try.pinned (OpenSpec.ofChange bpeAllsSpec)

/-- ITS FALSE NEIGHBOUR: 'it returns false'. Refute it at one input. -/
def bpeAllsWrong : ChangeSpec := { name := "bpeAlls", fn := fun _ => fun
  | [d1, d2] => { results := [.lit (.bool false)], args := [d1, d2] }
  | _ => none }
def BpeAllsWrongFalsely : Prop := bpeAllsRow.holds Try.pinned (OpenSpec.ofChange bpeAllsWrong)

/-- 'augurlaw05.BpeBytes': WHATEVER THE INPUT: true; the input reads as it did. -/
def bpeBytesSpec : ChangeSpec := { name := "bpeBytes", fn := fun _ => fun
  | [d1, d2] => { results := [.lit (.bool true)], args := [d1, d2] }
  | _ => none }
def bpeBytesRow : OpenClaim := { program := "ytobklhnechbpaaa", sum := "a355da29f0b25398008ca763210df3183e6ce51cdf0fb6af62ba9dd6148cf755", func := "augur/augurlaw05.BpeBytes", spec := "bpeBytes", recurses := true, plainKeys := false, apart := false }
def BpeBytesSaid : Prop := bpeBytesRow.holds Try.pinned (OpenSpec.ofChange bpeBytesSpec)

/-- ITS FALSE NEIGHBOUR: 'it returns false'. Refute it at one input. -/
def bpeBytesWrong : ChangeSpec := { name := "bpeBytes", fn := fun _ => fun
  | [d1, d2] => { results := [.lit (.bool false)], args := [d1, d2] }
  | _ => none }
def BpeBytesWrongFalsely : Prop := bpeBytesRow.holds Try.pinned (OpenSpec.ofChange bpeBytesWrong)

/-- 'augurlaw05.BpeDecodes': WHATEVER THE INPUT: true; the input reads as it did. -/
def bpeDecodesSpec : ChangeSpec := { name := "bpeDecodes", fn := fun _ => fun
  | [d1, d2] => { results := [.lit (.bool true)], args := [d1, d2] }
  | _ => none }
def bpeDecodesRow : OpenClaim := { program := "ytobklhnechbpaaa", sum := "a355da29f0b25398008ca763210df3183e6ce51cdf0fb6af62ba9dd6148cf755", func := "augur/augurlaw05.BpeDecodes", spec := "bpeDecodes", recurses := true, plainKeys := false, apart := false }
def BpeDecodesSaid : Prop := bpeDecodesRow.holds Try.pinned (OpenSpec.ofChange bpeDecodesSpec)

/-- ITS FALSE NEIGHBOUR: 'it returns false'. Refute it at one input. -/
def bpeDecodesWrong : ChangeSpec := { name := "bpeDecodes", fn := fun _ => fun
  | [d1, d2] => { results := [.lit (.bool false)], args := [d1, d2] }
  | _ => none }
def BpeDecodesWrongFalsely : Prop := bpeDecodesRow.holds Try.pinned (OpenSpec.ofChange bpeDecodesWrong)

/-- 'augurlaw05.BpeEncodes': WHATEVER THE INPUT: true; the input reads as it did. -/
def bpeEncodesSpec : ChangeSpec := { name := "bpeEncodes", fn := fun _ => fun
  | [d1, d2] => { results := [.lit (.bool true)], args := [d1, d2] }
  | _ => none }
def bpeEncodesRow : OpenClaim := { program := "ytobklhnechbpaaa", sum := "a355da29f0b25398008ca763210df3183e6ce51cdf0fb6af62ba9dd6148cf755", func := "augur/augurlaw05.BpeEncodes", spec := "bpeEncodes", unfollowed := true, recurses := true, plainKeys := false, apart := false }
def BpeEncodesSaid : Prop := bpeEncodesRow.holds Try.pinned (OpenSpec.ofChange bpeEncodesSpec)

/-- ITS FALSE NEIGHBOUR: 'it returns false'. Refute it at one input. -/
def bpeEncodesWrong : ChangeSpec := { name := "bpeEncodes", fn := fun _ => fun
  | [d1, d2] => { results := [.lit (.bool false)], args := [d1, d2] }
  | _ => none }
def BpeEncodesWrongFalsely : Prop := bpeEncodesRow.holds Try.pinned (OpenSpec.ofChange bpeEncodesWrong)

/-- 'augurlaw05.BpeRound': WHATEVER THE INPUT: true; the input reads as it did. -/
def bpeRoundSpec : ChangeSpec := { name := "bpeRound", fn := fun _ => fun
  | [d1, d2] => { results := [.lit (.bool true)], args := [d1, d2] }
  | _ => none }
def bpeRoundRow : OpenClaim := { program := "ytobklhnechbpaaa", sum := "a355da29f0b25398008ca763210df3183e6ce51cdf0fb6af62ba9dd6148cf755", func := "augur/augurlaw05.BpeRound", spec := "bpeRound", unfollowed := true, recurses := true, plainKeys := false, apart := false }
def BpeRoundSaid : Prop := bpeRoundRow.holds Try.pinned (OpenSpec.ofChange bpeRoundSpec)

/-- ITS FALSE NEIGHBOUR: 'it returns false'. Refute it at one input. -/
def bpeRoundWrong : ChangeSpec := { name := "bpeRound", fn := fun _ => fun
  | [d1, d2] => { results := [.lit (.bool false)], args := [d1, d2] }
  | _ => none }
def BpeRoundWrongFalsely : Prop := bpeRoundRow.holds Try.pinned (OpenSpec.ofChange bpeRoundWrong)

/-- 'augurlaw05.BpeSettles': WHATEVER THE INPUT: true; the input reads as it did. -/
def bpeSettlesSpec : ChangeSpec := { name := "bpeSettles", fn := fun _ => fun
  | [d1, d2, d3] => { results := [.lit (.bool true)], args := [d1, d2, d3] }
  | _ => none }
def bpeSettlesRow : OpenClaim := { program := "ytobklhnechbpaaa", sum := "a355da29f0b25398008ca763210df3183e6ce51cdf0fb6af62ba9dd6148cf755", func := "augur/augurlaw05.BpeSettles", spec := "bpeSettles", unfollowed := true, recurses := true, plainKeys := false, apart := false }
def BpeSettlesSaid : Prop := bpeSettlesRow.holds Try.pinned (OpenSpec.ofChange bpeSettlesSpec)

/-- ITS FALSE NEIGHBOUR: 'it returns false'. Refute it at one input. -/
def bpeSettlesWrong : ChangeSpec := { name := "bpeSettles", fn := fun _ => fun
  | [d1, d2, d3] => { results := [.lit (.bool false)], args := [d1, d2, d3] }
  | _ => none }
def BpeSettlesWrongFalsely : Prop := bpeSettlesRow.holds Try.pinned (OpenSpec.ofChange bpeSettlesWrong)

/-- 'augurlaw05.BpeOwn': WHATEVER THE INPUT: true; the input reads as it did. -/
def bpeOwnSpec : ChangeSpec := { name := "bpeOwn", fn := fun _ => fun
  | [d1, d2] => { results := [.lit (.bool true)], args := [d1, d2] }
  | _ => none }
def bpeOwnRow : OpenClaim := { program := "ytobklhnechbpaaa", sum := "a355da29f0b25398008ca763210df3183e6ce51cdf0fb6af62ba9dd6148cf755", func := "augur/augurlaw05.BpeOwn", spec := "bpeOwn", unfollowed := true, recurses := true, plainKeys := false, apart := false }
def BpeOwnSaid : Prop := bpeOwnRow.holds Try.pinned (OpenSpec.ofChange bpeOwnSpec)

/-- ITS FALSE NEIGHBOUR: 'it returns false'. Refute it at one input. -/
def bpeOwnWrong : ChangeSpec := { name := "bpeOwn", fn := fun _ => fun
  | [d1, d2] => { results := [.lit (.bool false)], args := [d1, d2] }
  | _ => none }
def BpeOwnWrongFalsely : Prop := bpeOwnRow.holds Try.pinned (OpenSpec.ofChange bpeOwnWrong)

/- THE SECOND FORM. 'bulk': how many values and letters a reading holds, each counted each time it is reached (what is shared counts as often as it is met; a slice's spare places count too). A statement '..UptoSaid' is the law's where the arguments, and the package variables that the reading takes, are together of bulk at most 1048576: NARROWER than '..Said'. Prove '..Said' where nothing that the law and all that it calls make is longer than what came in: it says more and counts as full. Else prove '..UptoSaid'. A law counts once. -/
mutual
def uptoBulk {H : Type} : DataW H → Nat
  | .lit (.string bytes) => bytes.length + 1
  | .lit _ => 1
  | .nil => 1
  | .ptr d => uptoBulk d + 1
  | .slice elems spare => uptoBulkAll elems + uptoBulkAll spare + 1
  | .agg parts => uptoBulkAll parts + 1
  | .iface _ d => uptoBulk d + 1
  | .map entries => uptoBulkEntries entries + 1
  | .held _ => 1
def uptoBulkAll {H : Type} : List (DataW H) → Nat
  | [] => 0
  | d :: r => uptoBulk d + uptoBulkAll r
def uptoBulkEntries {H : Type} : List (Lit × DataW H) → Nat
  | [] => 0
  | x :: r => uptoBulkEntry x + uptoBulkEntries r
def uptoBulkEntry {H : Type} : Lit × DataW H → Nat
  | (.string bytes, d) => bytes.length + uptoBulk d + 1
  | (_, d) => uptoBulk d + 1
 end
def uptoSmall : (H : Type) → List (DataW H) → Bool := fun _ ds => decide (uptoBulkAll ds ≤ 1048576)
def OpenSpec.upto (s : _root_.Go.ChangeSpec) : _root_.Go.OpenSpec := { _root_.Go.OpenSpec.ofChange s with cond := some uptoSmall }

/-- 'augurlaw05.BpeChecks', WHERE WHAT IT READS IS OF BULK AT MOST 1048576: true; the input reads as it did. -/
def bpeChecksUptoRow : OpenClaim := { program := "ytobklhnechbpaaa", sum := "a355da29f0b25398008ca763210df3183e6ce51cdf0fb6af62ba9dd6148cf755", func := "augur/augurlaw05.BpeChecks", spec := "bpeChecks", plainKeys := false, apart := false, narrowed := true }
def BpeChecksUptoSaid : Prop := bpeChecksUptoRow.holds Try.pinned (OpenSpec.upto bpeChecksSpec)

/-- 'augurlaw05.BpeAlls', WHERE WHAT IT READS IS OF BULK AT MOST 1048576: true; the input reads as it did. -/
def bpeAllsUptoRow : OpenClaim := { program := "ytobklhnechbpaaa", sum := "a355da29f0b25398008ca763210df3183e6ce51cdf0fb6af62ba9dd6148cf755", func := "augur/augurlaw05.BpeAlls", spec := "bpeAlls", unfollowed := true, recurses := true, plainKeys := false, apart := false, narrowed := true }
def BpeAllsUptoSaid : Prop := bpeAllsUptoRow.holds Try.pinned (OpenSpec.upto bpeAllsSpec)

/-- 'augurlaw05.BpeBytes', WHERE WHAT IT READS IS OF BULK AT MOST 1048576: true; the input reads as it did. -/
def bpeBytesUptoRow : OpenClaim := { program := "ytobklhnechbpaaa", sum := "a355da29f0b25398008ca763210df3183e6ce51cdf0fb6af62ba9dd6148cf755", func := "augur/augurlaw05.BpeBytes", spec := "bpeBytes", recurses := true, plainKeys := false, apart := false, narrowed := true }
def BpeBytesUptoSaid : Prop := bpeBytesUptoRow.holds Try.pinned (OpenSpec.upto bpeBytesSpec)

/-- 'augurlaw05.BpeDecodes', WHERE WHAT IT READS IS OF BULK AT MOST 1048576: true; the input reads as it did. -/
def bpeDecodesUptoRow : OpenClaim := { program := "ytobklhnechbpaaa", sum := "a355da29f0b25398008ca763210df3183e6ce51cdf0fb6af62ba9dd6148cf755", func := "augur/augurlaw05.BpeDecodes", spec := "bpeDecodes", recurses := true, plainKeys := false, apart := false, narrowed := true }
def BpeDecodesUptoSaid : Prop := bpeDecodesUptoRow.holds Try.pinned (OpenSpec.upto bpeDecodesSpec)

/-- 'augurlaw05.BpeEncodes', WHERE WHAT IT READS IS OF BULK AT MOST 1048576: true; the input reads as it did. -/
def bpeEncodesUptoRow : OpenClaim := { program := "ytobklhnechbpaaa", sum := "a355da29f0b25398008ca763210df3183e6ce51cdf0fb6af62ba9dd6148cf755", func := "augur/augurlaw05.BpeEncodes", spec := "bpeEncodes", unfollowed := true, recurses := true, plainKeys := false, apart := false, narrowed := true }
def BpeEncodesUptoSaid : Prop := bpeEncodesUptoRow.holds Try.pinned (OpenSpec.upto bpeEncodesSpec)

/-- 'augurlaw05.BpeRound', WHERE WHAT IT READS IS OF BULK AT MOST 1048576: true; the input reads as it did. -/
def bpeRoundUptoRow : OpenClaim := { program := "ytobklhnechbpaaa", sum := "a355da29f0b25398008ca763210df3183e6ce51cdf0fb6af62ba9dd6148cf755", func := "augur/augurlaw05.BpeRound", spec := "bpeRound", unfollowed := true, recurses := true, plainKeys := false, apart := false, narrowed := true }
def BpeRoundUptoSaid : Prop := bpeRoundUptoRow.holds Try.pinned (OpenSpec.upto bpeRoundSpec)

/-- 'augurlaw05.BpeSettles', WHERE WHAT IT READS IS OF BULK AT MOST 1048576: true; the input reads as it did. -/
def bpeSettlesUptoRow : OpenClaim := { program := "ytobklhnechbpaaa", sum := "a355da29f0b25398008ca763210df3183e6ce51cdf0fb6af62ba9dd6148cf755", func := "augur/augurlaw05.BpeSettles", spec := "bpeSettles", unfollowed := true, recurses := true, plainKeys := false, apart := false, narrowed := true }
def BpeSettlesUptoSaid : Prop := bpeSettlesUptoRow.holds Try.pinned (OpenSpec.upto bpeSettlesSpec)

/-- 'augurlaw05.BpeOwn', WHERE WHAT IT READS IS OF BULK AT MOST 1048576: true; the input reads as it did. -/
def bpeOwnUptoRow : OpenClaim := { program := "ytobklhnechbpaaa", sum := "a355da29f0b25398008ca763210df3183e6ce51cdf0fb6af62ba9dd6148cf755", func := "augur/augurlaw05.BpeOwn", spec := "bpeOwn", unfollowed := true, recurses := true, plainKeys := false, apart := false, narrowed := true }
def BpeOwnUptoSaid : Prop := bpeOwnUptoRow.holds Try.pinned (OpenSpec.upto bpeOwnSpec)

end Rows
end Go.Proofs.Ytobklhnechbpaaa
