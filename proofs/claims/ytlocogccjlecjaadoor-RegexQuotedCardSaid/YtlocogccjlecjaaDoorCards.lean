/-
  DERIVED. GIVEN WITH THE SEED: THE CARDS: each row of YtlocogccjlecjaaDoorRows.lean that lists a variable, with what it lists TIED to the program's text (the seventh form; the later family's looks); each row that meets fmt, with fmt's text TOLD by the authors' own Lean function (tested against real Go, not proved from fmt's source: count such statements apart). THE CARD IS WHAT COUNTS. Prove the row's statement (the work); the ties are given (YtlocogccjlecjaaDoorTie.lean); close each card by the builder's one call (the guide's Derived/Test/ToyasCard.lean, 'card_holds'). Laid BY PROGRAM, IN A SANDBOX (cutbox-door.mjs). By AI agents, Wed Nov 11 2026. No macro, syntax, notation, axiom, sorry.
-/
import Derived.Test.YtlocogccjlecjaaDoorRows
import GoSem.ClaimSeven
namespace Go.Proofs.YtlocogccjlecjaaDoor
namespace Rows

/-- THE TIED CARD OF 'augurlaw11.RegexNexts'. -/
def regexNextsCard : Claim7 := { stood := { row := regexNextsRow, standIns := [], harness := (true, "a113cf6893e0deceffd7eb519a68d5cfe6bcff046830490d044b56bbac270e57"), looks := true }, kinds := [], alts := [], laidByText := true, laidKinds := [.data], laidTests := true, laidLooks := .later }
def RegexNextsCardSaid : Prop := Claim7.holds Tryd.pinned (.plain (OpenSpec.ofChange regexNextsSpec)) regexNextsCard

/-- THE TIED CARD OF 'augurlaw11.RegexQuoted'. -/
def regexQuotedCard : Claim7 := { stood := { row := regexQuotedRow, standIns := [], harness := (true, "a113cf6893e0deceffd7eb519a68d5cfe6bcff046830490d044b56bbac270e57"), looks := true }, kinds := [], alts := [], laidByText := true, laidKinds := [.data], laidTests := true, laidLooks := .later }
def RegexQuotedCardSaid : Prop := Claim7.holds Tryd.pinned (.plain (OpenSpec.ofChange regexQuotedSpec)) regexQuotedCard

/-- THE TIED CARD OF 'augurlaw11.RegexCompiles'. -/
def regexCompilesCard : Claim7 := { stood := { row := regexCompilesRow, standIns := [], harness := (true, "a113cf6893e0deceffd7eb519a68d5cfe6bcff046830490d044b56bbac270e57"), looks := true }, kinds := [], alts := [], laidByText := true, laidKinds := [.data], laidTests := true, laidLooks := .later }
def RegexCompilesCardSaid : Prop := Claim7.holds Tryd.pinned (.plain (OpenSpec.ofChange regexCompilesSpec)) regexCompilesCard

/-- THE TIED CARD OF 'augurlaw11.RegexMatches'. -/
def regexMatchesCard : Claim7 := { stood := { row := regexMatchesRow, standIns := [], harness := (true, "a113cf6893e0deceffd7eb519a68d5cfe6bcff046830490d044b56bbac270e57"), looks := true }, kinds := [], alts := [], laidByText := true, laidKinds := [.data], laidTests := true, laidLooks := .later }
def RegexMatchesCardSaid : Prop := Claim7.holds Tryd.pinned (.plain (OpenSpec.ofChange regexMatchesSpec)) regexMatchesCard

/-- THE TIED CARD OF 'augurlaw11.RegexJoins'. -/
def regexJoinsCard : Claim7 := { stood := { row := regexJoinsRow, standIns := [], harness := (true, "a113cf6893e0deceffd7eb519a68d5cfe6bcff046830490d044b56bbac270e57"), looks := true }, kinds := [], alts := [], laidByText := true, laidKinds := [.data], laidTests := true, laidLooks := .later }
def RegexJoinsCardSaid : Prop := Claim7.holds Tryd.pinned (.plain (OpenSpec.ofChange regexJoinsSpec)) regexJoinsCard

/-- THE TIED CARD OF 'augurlaw11.RegexBegins'. -/
def regexBeginsCard : Claim7 := { stood := { row := regexBeginsRow, standIns := [], harness := (true, "a113cf6893e0deceffd7eb519a68d5cfe6bcff046830490d044b56bbac270e57"), looks := true }, kinds := [], alts := [], laidByText := true, laidKinds := [.data], laidTests := true, laidLooks := .later }
def RegexBeginsCardSaid : Prop := Claim7.holds Tryd.pinned (.plain (OpenSpec.ofChange regexBeginsSpec)) regexBeginsCard

/-- THE TIED CARD OF 'augurlaw11.RegexLives'. -/
def regexLivesCard : Claim7 := { stood := { row := regexLivesRow, standIns := [], harness := (true, "a113cf6893e0deceffd7eb519a68d5cfe6bcff046830490d044b56bbac270e57"), looks := true }, kinds := [], alts := [], laidByText := true, laidKinds := [.data], laidTests := true, laidLooks := .later }
def RegexLivesCardSaid : Prop := Claim7.holds Tryd.pinned (.plain (OpenSpec.ofChange regexLivesSpec)) regexLivesCard

/-- THE SECOND FORM's CARD OF 'augurlaw11.RegexNexts'. -/
def regexNextsUptoCard : Claim7 := { stood := { row := regexNextsUptoRow, standIns := [], harness := (true, "a113cf6893e0deceffd7eb519a68d5cfe6bcff046830490d044b56bbac270e57"), looks := true }, kinds := [], alts := [], laidByText := true, laidKinds := [.data], laidTests := true, laidLooks := .later }
def RegexNextsUptoCardSaid : Prop := Claim7.holds Tryd.pinned (.plain (OpenSpec.upto regexNextsSpec)) regexNextsUptoCard

/-- THE SECOND FORM's CARD OF 'augurlaw11.RegexQuoted'. -/
def regexQuotedUptoCard : Claim7 := { stood := { row := regexQuotedUptoRow, standIns := [], harness := (true, "a113cf6893e0deceffd7eb519a68d5cfe6bcff046830490d044b56bbac270e57"), looks := true }, kinds := [], alts := [], laidByText := true, laidKinds := [.data], laidTests := true, laidLooks := .later }
def RegexQuotedUptoCardSaid : Prop := Claim7.holds Tryd.pinned (.plain (OpenSpec.upto regexQuotedSpec)) regexQuotedUptoCard

/-- THE SECOND FORM's CARD OF 'augurlaw11.RegexCompiles'. -/
def regexCompilesUptoCard : Claim7 := { stood := { row := regexCompilesUptoRow, standIns := [], harness := (true, "a113cf6893e0deceffd7eb519a68d5cfe6bcff046830490d044b56bbac270e57"), looks := true }, kinds := [], alts := [], laidByText := true, laidKinds := [.data], laidTests := true, laidLooks := .later }
def RegexCompilesUptoCardSaid : Prop := Claim7.holds Tryd.pinned (.plain (OpenSpec.upto regexCompilesSpec)) regexCompilesUptoCard

/-- THE SECOND FORM's CARD OF 'augurlaw11.RegexMatches'. -/
def regexMatchesUptoCard : Claim7 := { stood := { row := regexMatchesUptoRow, standIns := [], harness := (true, "a113cf6893e0deceffd7eb519a68d5cfe6bcff046830490d044b56bbac270e57"), looks := true }, kinds := [], alts := [], laidByText := true, laidKinds := [.data], laidTests := true, laidLooks := .later }
def RegexMatchesUptoCardSaid : Prop := Claim7.holds Tryd.pinned (.plain (OpenSpec.upto regexMatchesSpec)) regexMatchesUptoCard

/-- THE SECOND FORM's CARD OF 'augurlaw11.RegexJoins'. -/
def regexJoinsUptoCard : Claim7 := { stood := { row := regexJoinsUptoRow, standIns := [], harness := (true, "a113cf6893e0deceffd7eb519a68d5cfe6bcff046830490d044b56bbac270e57"), looks := true }, kinds := [], alts := [], laidByText := true, laidKinds := [.data], laidTests := true, laidLooks := .later }
def RegexJoinsUptoCardSaid : Prop := Claim7.holds Tryd.pinned (.plain (OpenSpec.upto regexJoinsSpec)) regexJoinsUptoCard

/-- THE SECOND FORM's CARD OF 'augurlaw11.RegexBegins'. -/
def regexBeginsUptoCard : Claim7 := { stood := { row := regexBeginsUptoRow, standIns := [], harness := (true, "a113cf6893e0deceffd7eb519a68d5cfe6bcff046830490d044b56bbac270e57"), looks := true }, kinds := [], alts := [], laidByText := true, laidKinds := [.data], laidTests := true, laidLooks := .later }
def RegexBeginsUptoCardSaid : Prop := Claim7.holds Tryd.pinned (.plain (OpenSpec.upto regexBeginsSpec)) regexBeginsUptoCard

/-- THE SECOND FORM's CARD OF 'augurlaw11.RegexLives'. -/
def regexLivesUptoCard : Claim7 := { stood := { row := regexLivesUptoRow, standIns := [], harness := (true, "a113cf6893e0deceffd7eb519a68d5cfe6bcff046830490d044b56bbac270e57"), looks := true }, kinds := [], alts := [], laidByText := true, laidKinds := [.data], laidTests := true, laidLooks := .later }
def RegexLivesUptoCardSaid : Prop := Claim7.holds Tryd.pinned (.plain (OpenSpec.upto regexLivesSpec)) regexLivesUptoCard
end Rows
end Go.Proofs.YtlocogccjlecjaaDoor
