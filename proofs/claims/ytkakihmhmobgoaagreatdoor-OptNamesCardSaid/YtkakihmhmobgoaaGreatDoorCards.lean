/-
  DERIVED. GIVEN WITH THE SEED: THE CARDS: each row of YtkakihmhmobgoaaGreatDoorRows.lean that lists a variable, with what it lists TIED to the program's text (the seventh form; the later family's looks); each row that meets fmt, with fmt's text TOLD by the authors' own Lean function (tested against real Go, not proved from fmt's source: count such statements apart). THE CARD IS WHAT COUNTS. Prove the row's statement (the work); the ties are given (YtkakihmhmobgoaaGreatDoorTie.lean); close each card by the builder's one call (the guide's Derived/Test/ToyasCard.lean, 'card_holds'). Laid BY PROGRAM, IN A SANDBOX (cutbox-door.mjs). By AI agents, Wed Nov 11 2026. No macro, syntax, notation, axiom, sorry.
-/
import Derived.Test.YtkakihmhmobgoaaGreatDoorRows
import GoSem.ClaimSeven
namespace Go.Proofs.YtkakihmhmobgoaaGreatDoor
namespace Rows

/-- THE TIED CARD OF 'bellcranklaw16.OptTurns'. -/
def optTurnsCard : Claim7 := { stood := { row := optTurnsRow, standIns := [], harness := (true, "c3aa0373575cb782c7e1bbe5f0841061b3ecd1a9900ac996c778adc4249135e6"), looks := false }, kinds := [], alts := [], laidByText := true, laidKinds := [.data, .data, .data], laidTests := true, laidLooks := .later }
def OptTurnsCardSaid : Prop := Claim7.holds Tryz.pinned (.plain (OpenSpec.ofChange optTurnsSpec)) optTurnsCard

/-- THE TIED CARD OF 'bellcranklaw16.OptNames'. -/
def optNamesCard : Claim7 := { stood := { row := optNamesRow, standIns := [], harness := (true, "c3aa0373575cb782c7e1bbe5f0841061b3ecd1a9900ac996c778adc4249135e6"), looks := false }, kinds := [], alts := [], laidByText := true, laidKinds := [.data, .data, .data], laidTests := true, laidLooks := .later }
def OptNamesCardSaid : Prop := Claim7.holds Tryz.pinned (.plain (OpenSpec.ofChange optNamesSpec)) optNamesCard

/-- THE TIED CARD OF 'bellcranklaw16.OptMeans'. -/
def optMeansCard : Claim7 := { stood := { row := optMeansRow, standIns := [], harness := (true, "c3aa0373575cb782c7e1bbe5f0841061b3ecd1a9900ac996c778adc4249135e6"), looks := false }, kinds := [], alts := [], laidByText := true, laidKinds := [.data, .data, .data], laidTests := true, laidLooks := .later }
def OptMeansCardSaid : Prop := Claim7.holds Tryz.pinned (.plain (OpenSpec.ofChange optMeansSpec)) optMeansCard

/-- THE TIED CARD OF 'bellcranklaw16.OptParts'. -/
def optPartsCard : Claim7 := { stood := { row := optPartsRow, standIns := [], harness := (true, "c3aa0373575cb782c7e1bbe5f0841061b3ecd1a9900ac996c778adc4249135e6"), looks := false }, kinds := [], alts := [], laidByText := true, laidKinds := [.data, .data, .data], laidTests := true, laidLooks := .later }
def OptPartsCardSaid : Prop := Claim7.holds Tryz.pinned (.plain (OpenSpec.ofChange optPartsSpec)) optPartsCard

/-- THE TIED CARD OF 'bellcranklaw16.OptLess'. -/
def optLessCard : Claim7 := { stood := { row := optLessRow, standIns := [], harness := (true, "c3aa0373575cb782c7e1bbe5f0841061b3ecd1a9900ac996c778adc4249135e6"), looks := false }, kinds := [], alts := [], laidByText := true, laidKinds := [.data, .data, .data], laidTests := true, laidLooks := .later }
def OptLessCardSaid : Prop := Claim7.holds Tryz.pinned (.plain (OpenSpec.ofChange optLessSpec)) optLessCard

/-- THE TIED CARD OF 'bellcranklaw16.OptOwn'. -/
def optOwnCard : Claim7 := { stood := { row := optOwnRow, standIns := [], harness := (true, "c3aa0373575cb782c7e1bbe5f0841061b3ecd1a9900ac996c778adc4249135e6"), looks := false }, kinds := [], alts := [], laidByText := true, laidKinds := [.data, .data, .data], laidTests := true, laidLooks := .later }
def OptOwnCardSaid : Prop := Claim7.holds Tryz.pinned (.plain (OpenSpec.ofChange optOwnSpec)) optOwnCard

/-- THE SECOND FORM's CARD OF 'bellcranklaw16.OptTurns'. -/
def optTurnsUptoCard : Claim7 := { stood := { row := optTurnsUptoRow, standIns := [], harness := (true, "c3aa0373575cb782c7e1bbe5f0841061b3ecd1a9900ac996c778adc4249135e6"), looks := false }, kinds := [], alts := [], laidByText := true, laidKinds := [.data, .data, .data], laidTests := true, laidLooks := .later }
def OptTurnsUptoCardSaid : Prop := Claim7.holds Tryz.pinned (.plain (OpenSpec.upto optTurnsSpec)) optTurnsUptoCard

/-- THE SECOND FORM's CARD OF 'bellcranklaw16.OptNames'. -/
def optNamesUptoCard : Claim7 := { stood := { row := optNamesUptoRow, standIns := [], harness := (true, "c3aa0373575cb782c7e1bbe5f0841061b3ecd1a9900ac996c778adc4249135e6"), looks := false }, kinds := [], alts := [], laidByText := true, laidKinds := [.data, .data, .data], laidTests := true, laidLooks := .later }
def OptNamesUptoCardSaid : Prop := Claim7.holds Tryz.pinned (.plain (OpenSpec.upto optNamesSpec)) optNamesUptoCard

/-- THE SECOND FORM's CARD OF 'bellcranklaw16.OptMeans'. -/
def optMeansUptoCard : Claim7 := { stood := { row := optMeansUptoRow, standIns := [], harness := (true, "c3aa0373575cb782c7e1bbe5f0841061b3ecd1a9900ac996c778adc4249135e6"), looks := false }, kinds := [], alts := [], laidByText := true, laidKinds := [.data, .data, .data], laidTests := true, laidLooks := .later }
def OptMeansUptoCardSaid : Prop := Claim7.holds Tryz.pinned (.plain (OpenSpec.upto optMeansSpec)) optMeansUptoCard

/-- THE SECOND FORM's CARD OF 'bellcranklaw16.OptParts'. -/
def optPartsUptoCard : Claim7 := { stood := { row := optPartsUptoRow, standIns := [], harness := (true, "c3aa0373575cb782c7e1bbe5f0841061b3ecd1a9900ac996c778adc4249135e6"), looks := false }, kinds := [], alts := [], laidByText := true, laidKinds := [.data, .data, .data], laidTests := true, laidLooks := .later }
def OptPartsUptoCardSaid : Prop := Claim7.holds Tryz.pinned (.plain (OpenSpec.upto optPartsSpec)) optPartsUptoCard

/-- THE SECOND FORM's CARD OF 'bellcranklaw16.OptLess'. -/
def optLessUptoCard : Claim7 := { stood := { row := optLessUptoRow, standIns := [], harness := (true, "c3aa0373575cb782c7e1bbe5f0841061b3ecd1a9900ac996c778adc4249135e6"), looks := false }, kinds := [], alts := [], laidByText := true, laidKinds := [.data, .data, .data], laidTests := true, laidLooks := .later }
def OptLessUptoCardSaid : Prop := Claim7.holds Tryz.pinned (.plain (OpenSpec.upto optLessSpec)) optLessUptoCard

/-- THE SECOND FORM's CARD OF 'bellcranklaw16.OptOwn'. -/
def optOwnUptoCard : Claim7 := { stood := { row := optOwnUptoRow, standIns := [], harness := (true, "c3aa0373575cb782c7e1bbe5f0841061b3ecd1a9900ac996c778adc4249135e6"), looks := false }, kinds := [], alts := [], laidByText := true, laidKinds := [.data, .data, .data], laidTests := true, laidLooks := .later }
def OptOwnUptoCardSaid : Prop := Claim7.holds Tryz.pinned (.plain (OpenSpec.upto optOwnSpec)) optOwnUptoCard
end Rows
end Go.Proofs.YtkakihmhmobgoaaGreatDoor
