/-
  No cell of these rows narrows 'for every input' (looked for: loops, veiled, ifaces, maps, wideKeys, modest, calm, conditions, laid).
  DERIVED. THE GIVEN ROWS OF THIS SEAT. 3 by the template 'for every input the law returns true; each argument reads behind the call as it read before'; 0 by the template 'total and deterministic' (their statements: YtbkphkbkfhpaaaaTotals.lean).
  GIVEN WITH THE SEED: the statements are not yours to turn. If you find one false, say at which input.
  Laid BY PROGRAM, IN A SANDBOX (cutbox-rows.mjs): the forced cells as the released guide's own fill.sh prints them over the translation 19bff8f35029bde9… (all of the seat's roots in one cut). By AI agents, Wed Nov 11 2026. No macro, syntax, notation, axiom, sorry.
-/
import Derived.Test.YtbkphkbkfhpaaaaChecked
import GoSem.Claim
import GoSem.ClaimJoined
import GoSem.ClaimMapViews
import Derived.JoinedTies
import Derived.KernelRfl
namespace Go.Proofs.Ytbkphkbkfhpaaaa
/- THE CELL 'sum', in the pinned program and in every row, IS THE sha256 OF THE DUMP (.gsa) THAT YtbkphkbkfhpaaaaProg.lean LOADS. Nothing in Lean hashes anything: it is a label: what it is worth is what the hold of that sum in a sandbox is worth. -/
noncomputable def Try.pinned : Pinned := { name := "ytbkphkbkfhpaaaa", sum := "19bff8f35029bde9246387c2b41eeccfb232e5c5f3e33a390fab868d991f340d", checked := Try.checked }
namespace Rows
def none {H : Type} : Left H := { results := [], args := [] }

/-- 'augurlaw02.DrawBelows': WHATEVER THE INPUT: true; the input reads as it did. -/
def drawBelowsSpec : ChangeSpec := { name := "drawBelows", fn := fun _ => fun
  | [d1, d2] => { results := [.lit (.bool true)], args := [d1, d2] }
  | _ => none }
def drawBelowsRow : OpenClaim := { program := "ytbkphkbkfhpaaaa", sum := "19bff8f35029bde9246387c2b41eeccfb232e5c5f3e33a390fab868d991f340d", func := "augur/augurlaw02.DrawBelows", spec := "drawBelows", apart := false }
def DrawBelowsSaid : Prop := drawBelowsRow.holds Try.pinned (OpenSpec.ofChange drawBelowsSpec)

/-- ITS FALSE NEIGHBOUR: 'it returns false'. Refute it at one input. -/
def drawBelowsWrong : ChangeSpec := { name := "drawBelows", fn := fun _ => fun
  | [d1, d2] => { results := [.lit (.bool false)], args := [d1, d2] }
  | _ => none }
def DrawBelowsWrongFalsely : Prop := drawBelowsRow.holds Try.pinned (OpenSpec.ofChange drawBelowsWrong)

/-- 'augurlaw02.DrawEven': WHATEVER THE INPUT: true; the input reads as it did. -/
def drawEvenSpec : ChangeSpec := { name := "drawEven", fn := fun _ => fun
  | [d] => { results := [.lit (.bool true)], args := [d] }
  | _ => none }
def drawEvenRow : OpenClaim := { program := "ytbkphkbkfhpaaaa", sum := "19bff8f35029bde9246387c2b41eeccfb232e5c5f3e33a390fab868d991f340d", func := "augur/augurlaw02.DrawEven", spec := "drawEven", apart := false }
def DrawEvenSaid : Prop := drawEvenRow.holds Try.pinned (OpenSpec.ofChange drawEvenSpec)

/-- ITS FALSE NEIGHBOUR: 'it returns false'. Refute it at one input. -/
def drawEvenWrong : ChangeSpec := { name := "drawEven", fn := fun _ => fun
  | [d] => { results := [.lit (.bool false)], args := [d] }
  | _ => none }
def DrawEvenWrongFalsely : Prop := drawEvenRow.holds Try.pinned (OpenSpec.ofChange drawEvenWrong)

/-- 'augurlaw02.DrawNests': WHATEVER THE INPUT: true; the input reads as it did. -/
def drawNestsSpec : ChangeSpec := { name := "drawNests", fn := fun _ => fun
  | [d1, d2, d3] => { results := [.lit (.bool true)], args := [d1, d2, d3] }
  | _ => none }
def drawNestsRow : OpenClaim := { program := "ytbkphkbkfhpaaaa", sum := "19bff8f35029bde9246387c2b41eeccfb232e5c5f3e33a390fab868d991f340d", func := "augur/augurlaw02.DrawNests", spec := "drawNests", apart := false }
def DrawNestsSaid : Prop := drawNestsRow.holds Try.pinned (OpenSpec.ofChange drawNestsSpec)

/-- ITS FALSE NEIGHBOUR: 'it returns false'. Refute it at one input. -/
def drawNestsWrong : ChangeSpec := { name := "drawNests", fn := fun _ => fun
  | [d1, d2, d3] => { results := [.lit (.bool false)], args := [d1, d2, d3] }
  | _ => none }
def DrawNestsWrongFalsely : Prop := drawNestsRow.holds Try.pinned (OpenSpec.ofChange drawNestsWrong)

/- THE SECOND FORM. 'bulk': how many values and letters a reading holds, each counted each time it is reached (what is shared counts as often as it is met; a slice's spare places count too). A statement '..UptoSaid' is the law's where the arguments, and the package variables that the reading takes, are together of bulk at most 1048576: NARROWER than '..Said'. Prove '..Said' where nothing that the law and all that it calls make is longer than what came in: it says more and counts as full. Else prove '..UptoSaid'. A law counts once. -/
mutual
def uptoBulk {H : Type} : DataW H → Nat
  | .lit (.string bytes) => bytes.length + 1
  | .lit _ => 1
  | .nil => 1
  | .ptr d => uptoBulk d + 1
  | .slice elems spare => uptoBulkAll elems + uptoBulkAll spare + 1
  | .agg parts => uptoBulkAll parts + 1
  | .iface _ d => uptoBulk d + 1
  | .map entries => uptoBulkEntries entries + 1
  | .held _ => 1
def uptoBulkAll {H : Type} : List (DataW H) → Nat
  | [] => 0
  | d :: r => uptoBulk d + uptoBulkAll r
def uptoBulkEntries {H : Type} : List (Lit × DataW H) → Nat
  | [] => 0
  | x :: r => uptoBulkEntry x + uptoBulkEntries r
def uptoBulkEntry {H : Type} : Lit × DataW H → Nat
  | (.string bytes, d) => bytes.length + uptoBulk d + 1
  | (_, d) => uptoBulk d + 1
 end
def uptoSmall : (H : Type) → List (DataW H) → Bool := fun _ ds => decide (uptoBulkAll ds ≤ 1048576)
def OpenSpec.upto (s : _root_.Go.ChangeSpec) : _root_.Go.OpenSpec := { _root_.Go.OpenSpec.ofChange s with cond := some uptoSmall }

/-- 'augurlaw02.DrawBelows', WHERE WHAT IT READS IS OF BULK AT MOST 1048576: true; the input reads as it did. -/
def drawBelowsUptoRow : OpenClaim := { program := "ytbkphkbkfhpaaaa", sum := "19bff8f35029bde9246387c2b41eeccfb232e5c5f3e33a390fab868d991f340d", func := "augur/augurlaw02.DrawBelows", spec := "drawBelows", apart := false, narrowed := true }
def DrawBelowsUptoSaid : Prop := drawBelowsUptoRow.holds Try.pinned (OpenSpec.upto drawBelowsSpec)

/-- 'augurlaw02.DrawEven', WHERE WHAT IT READS IS OF BULK AT MOST 1048576: true; the input reads as it did. -/
def drawEvenUptoRow : OpenClaim := { program := "ytbkphkbkfhpaaaa", sum := "19bff8f35029bde9246387c2b41eeccfb232e5c5f3e33a390fab868d991f340d", func := "augur/augurlaw02.DrawEven", spec := "drawEven", apart := false, narrowed := true }
def DrawEvenUptoSaid : Prop := drawEvenUptoRow.holds Try.pinned (OpenSpec.upto drawEvenSpec)

/-- 'augurlaw02.DrawNests', WHERE WHAT IT READS IS OF BULK AT MOST 1048576: true; the input reads as it did. -/
def drawNestsUptoRow : OpenClaim := { program := "ytbkphkbkfhpaaaa", sum := "19bff8f35029bde9246387c2b41eeccfb232e5c5f3e33a390fab868d991f340d", func := "augur/augurlaw02.DrawNests", spec := "drawNests", apart := false, narrowed := true }
def DrawNestsUptoSaid : Prop := drawNestsUptoRow.holds Try.pinned (OpenSpec.upto drawNestsSpec)

end Rows
end Go.Proofs.Ytbkphkbkfhpaaaa
