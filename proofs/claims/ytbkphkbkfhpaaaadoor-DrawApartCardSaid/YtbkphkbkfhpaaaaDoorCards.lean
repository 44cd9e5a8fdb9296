/-
  DERIVED. GIVEN WITH THE SEED: THE CARDS: each row of YtbkphkbkfhpaaaaDoorRows.lean that lists a variable, with what it lists TIED to the program's text (the seventh form; the later family's looks); each row that meets fmt, with fmt's text TOLD by the authors' own Lean function (tested against real Go, not proved from fmt's source: count such statements apart). THE CARD IS WHAT COUNTS. Prove the row's statement (the work); the ties are given (YtbkphkbkfhpaaaaDoorTie.lean); close each card by the builder's one call (the guide's Derived/Test/ToyasCard.lean, 'card_holds'). Laid BY PROGRAM, IN A SANDBOX (cutbox-door.mjs). By AI agents, Wed Nov 11 2026. No macro, syntax, notation, axiom, sorry.
-/
import Derived.Test.YtbkphkbkfhpaaaaDoorRows
import GoSem.ClaimSeven
namespace Go.Proofs.YtbkphkbkfhpaaaaDoor
namespace Rows

/-- THE TIED CARD OF 'augurlaw02.DrawMixes'. -/
def drawMixesCard : Claim7 := { stood := { row := drawMixesRow, standIns := [], harness := (true, "81de0c721b34c99a9206ba407fbd44da002fa810f00417a87ee841ba02be82cd"), looks := false }, kinds := [], alts := [], laidByText := true, laidKinds := [.data], laidTests := true, laidLooks := .later }
def DrawMixesCardSaid : Prop := Claim7.holds Tryd.pinned (.plain (OpenSpec.ofChange drawMixesSpec)) drawMixesCard

/-- THE TIED CARD OF 'augurlaw02.DrawUnmixes'. -/
def drawUnmixesCard : Claim7 := { stood := { row := drawUnmixesRow, standIns := [], harness := (true, "81de0c721b34c99a9206ba407fbd44da002fa810f00417a87ee841ba02be82cd"), looks := false }, kinds := [], alts := [], laidByText := true, laidKinds := [.data], laidTests := true, laidLooks := .later }
def DrawUnmixesCardSaid : Prop := Claim7.holds Tryd.pinned (.plain (OpenSpec.ofChange drawUnmixesSpec)) drawUnmixesCard

/-- THE TIED CARD OF 'augurlaw02.DrawAts'. -/
def drawAtsCard : Claim7 := { stood := { row := drawAtsRow, standIns := [], harness := (true, "81de0c721b34c99a9206ba407fbd44da002fa810f00417a87ee841ba02be82cd"), looks := false }, kinds := [], alts := [], laidByText := true, laidKinds := [.data], laidTests := true, laidLooks := .later }
def DrawAtsCardSaid : Prop := Claim7.holds Tryd.pinned (.plain (OpenSpec.ofChange drawAtsSpec)) drawAtsCard

/-- THE TIED CARD OF 'augurlaw02.DrawApart'. -/
def drawApartCard : Claim7 := { stood := { row := drawApartRow, standIns := [], harness := (true, "81de0c721b34c99a9206ba407fbd44da002fa810f00417a87ee841ba02be82cd"), looks := false }, kinds := [], alts := [], laidByText := true, laidKinds := [.data], laidTests := true, laidLooks := .later }
def DrawApartCardSaid : Prop := Claim7.holds Tryd.pinned (.plain (OpenSpec.ofChange drawApartSpec)) drawApartCard

/-- THE TIED CARD OF 'augurlaw02.DrawKnown'. -/
def drawKnownCard : Claim7 := { stood := { row := drawKnownRow, standIns := [], harness := (true, "81de0c721b34c99a9206ba407fbd44da002fa810f00417a87ee841ba02be82cd"), looks := false }, kinds := [], alts := [], laidByText := true, laidKinds := [.data], laidTests := true, laidLooks := .later }
def DrawKnownCardSaid : Prop := Claim7.holds Tryd.pinned (.plain (OpenSpec.ofChange drawKnownSpec)) drawKnownCard

/-- THE SECOND FORM's CARD OF 'augurlaw02.DrawMixes'. -/
def drawMixesUptoCard : Claim7 := { stood := { row := drawMixesUptoRow, standIns := [], harness := (true, "81de0c721b34c99a9206ba407fbd44da002fa810f00417a87ee841ba02be82cd"), looks := false }, kinds := [], alts := [], laidByText := true, laidKinds := [.data], laidTests := true, laidLooks := .later }
def DrawMixesUptoCardSaid : Prop := Claim7.holds Tryd.pinned (.plain (OpenSpec.upto drawMixesSpec)) drawMixesUptoCard

/-- THE SECOND FORM's CARD OF 'augurlaw02.DrawUnmixes'. -/
def drawUnmixesUptoCard : Claim7 := { stood := { row := drawUnmixesUptoRow, standIns := [], harness := (true, "81de0c721b34c99a9206ba407fbd44da002fa810f00417a87ee841ba02be82cd"), looks := false }, kinds := [], alts := [], laidByText := true, laidKinds := [.data], laidTests := true, laidLooks := .later }
def DrawUnmixesUptoCardSaid : Prop := Claim7.holds Tryd.pinned (.plain (OpenSpec.upto drawUnmixesSpec)) drawUnmixesUptoCard

/-- THE SECOND FORM's CARD OF 'augurlaw02.DrawAts'. -/
def drawAtsUptoCard : Claim7 := { stood := { row := drawAtsUptoRow, standIns := [], harness := (true, "81de0c721b34c99a9206ba407fbd44da002fa810f00417a87ee841ba02be82cd"), looks := false }, kinds := [], alts := [], laidByText := true, laidKinds := [.data], laidTests := true, laidLooks := .later }
def DrawAtsUptoCardSaid : Prop := Claim7.holds Tryd.pinned (.plain (OpenSpec.upto drawAtsSpec)) drawAtsUptoCard

/-- THE SECOND FORM's CARD OF 'augurlaw02.DrawApart'. -/
def drawApartUptoCard : Claim7 := { stood := { row := drawApartUptoRow, standIns := [], harness := (true, "81de0c721b34c99a9206ba407fbd44da002fa810f00417a87ee841ba02be82cd"), looks := false }, kinds := [], alts := [], laidByText := true, laidKinds := [.data], laidTests := true, laidLooks := .later }
def DrawApartUptoCardSaid : Prop := Claim7.holds Tryd.pinned (.plain (OpenSpec.upto drawApartSpec)) drawApartUptoCard

/-- THE SECOND FORM's CARD OF 'augurlaw02.DrawKnown'. -/
def drawKnownUptoCard : Claim7 := { stood := { row := drawKnownUptoRow, standIns := [], harness := (true, "81de0c721b34c99a9206ba407fbd44da002fa810f00417a87ee841ba02be82cd"), looks := false }, kinds := [], alts := [], laidByText := true, laidKinds := [.data], laidTests := true, laidLooks := .later }
def DrawKnownUptoCardSaid : Prop := Claim7.holds Tryd.pinned (.plain (OpenSpec.upto drawKnownSpec)) drawKnownUptoCard
end Rows
end Go.Proofs.YtbkphkbkfhpaaaaDoor
