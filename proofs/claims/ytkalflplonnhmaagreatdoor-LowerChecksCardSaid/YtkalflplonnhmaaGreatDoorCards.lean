/-
  DERIVED. GIVEN WITH THE SEED: THE CARDS: each row of YtkalflplonnhmaaGreatDoorRows.lean that lists a variable, with what it lists TIED to the program's text (the seventh form; the later family's looks); each row that meets fmt, with fmt's text TOLD by the authors' own Lean function (tested against real Go, not proved from fmt's source: count such statements apart). THE CARD IS WHAT COUNTS. Prove the row's statement (the work); the ties are given (YtkalflplonnhmaaGreatDoorTie.lean); close each card by the builder's one call (the guide's Derived/Test/ToyasCard.lean, 'card_holds'). Laid BY PROGRAM, IN A SANDBOX (cutbox-door.mjs). By AI agents, Wed Nov 11 2026. No macro, syntax, notation, axiom, sorry.
-/
import Derived.Test.YtkalflplonnhmaaGreatDoorRows
import GoSem.ClaimSeven
namespace Go.Proofs.YtkalflplonnhmaaGreatDoor
namespace Rows

/-- THE TIED CARD OF 'bellcranklaw18.LowerChecks'. -/
def lowerChecksCard : Claim7 := { stood := { row := lowerChecksRow, standIns := [], harness := (true, "9a5e0bb1b08a80e5fbf7d647f75a28cd6a3c50a3fe4cc9e393451cbb69b0ad40"), looks := true }, kinds := [], alts := [], laidByText := true, laidKinds := [.data, .data], laidTests := true, laidLooks := .later }
def LowerChecksCardSaid : Prop := Claim7.holds Tryz.pinned (.plain (OpenSpec.ofChange lowerChecksSpec)) lowerChecksCard

/-- THE TIED CARD OF 'bellcranklaw18.LowerRuns'. -/
def lowerRunsCard : Claim7 := { stood := { row := lowerRunsRow, standIns := [], harness := (true, "9a5e0bb1b08a80e5fbf7d647f75a28cd6a3c50a3fe4cc9e393451cbb69b0ad40"), looks := true }, kinds := [], alts := [], laidByText := true, laidKinds := [.data, .data], laidTests := true, laidLooks := .later }
def LowerRunsCardSaid : Prop := Claim7.holds Tryz.pinned (.plain (OpenSpec.ofChange lowerRunsSpec)) lowerRunsCard

/-- THE TIED CARD OF 'bellcranklaw18.LowerRight'. -/
def lowerRightCard : Claim7 := { stood := { row := lowerRightRow, standIns := [], harness := (true, "9a5e0bb1b08a80e5fbf7d647f75a28cd6a3c50a3fe4cc9e393451cbb69b0ad40"), looks := true }, kinds := [], alts := [], laidByText := true, laidKinds := [.data, .data], laidTests := true, laidLooks := .later }
def LowerRightCardSaid : Prop := Claim7.holds Tryz.pinned (.plain (OpenSpec.ofChange lowerRightSpec)) lowerRightCard

/-- THE TIED CARD OF 'bellcranklaw18.LowerFuel'. -/
def lowerFuelCard : Claim7 := { stood := { row := lowerFuelRow, standIns := [], harness := (true, "9a5e0bb1b08a80e5fbf7d647f75a28cd6a3c50a3fe4cc9e393451cbb69b0ad40"), looks := true }, kinds := [], alts := [], laidByText := true, laidKinds := [.data, .data], laidTests := true, laidLooks := .later }
def LowerFuelCardSaid : Prop := Claim7.holds Tryz.pinned (.plain (OpenSpec.ofChange lowerFuelSpec)) lowerFuelCard

/-- THE TIED CARD OF 'bellcranklaw18.LowerIdle'. -/
def lowerIdleCard : Claim7 := { stood := { row := lowerIdleRow, standIns := [], harness := (true, "9a5e0bb1b08a80e5fbf7d647f75a28cd6a3c50a3fe4cc9e393451cbb69b0ad40"), looks := true }, kinds := [], alts := [], laidByText := true, laidKinds := [.data, .data], laidTests := true, laidLooks := .later }
def LowerIdleCardSaid : Prop := Claim7.holds Tryz.pinned (.plain (OpenSpec.ofChange lowerIdleSpec)) lowerIdleCard

/-- THE SECOND FORM's CARD OF 'bellcranklaw18.LowerChecks'. -/
def lowerChecksUptoCard : Claim7 := { stood := { row := lowerChecksUptoRow, standIns := [], harness := (true, "9a5e0bb1b08a80e5fbf7d647f75a28cd6a3c50a3fe4cc9e393451cbb69b0ad40"), looks := true }, kinds := [], alts := [], laidByText := true, laidKinds := [.data, .data], laidTests := true, laidLooks := .later }
def LowerChecksUptoCardSaid : Prop := Claim7.holds Tryz.pinned (.plain (OpenSpec.upto lowerChecksSpec)) lowerChecksUptoCard

/-- THE SECOND FORM's CARD OF 'bellcranklaw18.LowerRuns'. -/
def lowerRunsUptoCard : Claim7 := { stood := { row := lowerRunsUptoRow, standIns := [], harness := (true, "9a5e0bb1b08a80e5fbf7d647f75a28cd6a3c50a3fe4cc9e393451cbb69b0ad40"), looks := true }, kinds := [], alts := [], laidByText := true, laidKinds := [.data, .data], laidTests := true, laidLooks := .later }
def LowerRunsUptoCardSaid : Prop := Claim7.holds Tryz.pinned (.plain (OpenSpec.upto lowerRunsSpec)) lowerRunsUptoCard

/-- THE SECOND FORM's CARD OF 'bellcranklaw18.LowerRight'. -/
def lowerRightUptoCard : Claim7 := { stood := { row := lowerRightUptoRow, standIns := [], harness := (true, "9a5e0bb1b08a80e5fbf7d647f75a28cd6a3c50a3fe4cc9e393451cbb69b0ad40"), looks := true }, kinds := [], alts := [], laidByText := true, laidKinds := [.data, .data], laidTests := true, laidLooks := .later }
def LowerRightUptoCardSaid : Prop := Claim7.holds Tryz.pinned (.plain (OpenSpec.upto lowerRightSpec)) lowerRightUptoCard

/-- THE SECOND FORM's CARD OF 'bellcranklaw18.LowerFuel'. -/
def lowerFuelUptoCard : Claim7 := { stood := { row := lowerFuelUptoRow, standIns := [], harness := (true, "9a5e0bb1b08a80e5fbf7d647f75a28cd6a3c50a3fe4cc9e393451cbb69b0ad40"), looks := true }, kinds := [], alts := [], laidByText := true, laidKinds := [.data, .data], laidTests := true, laidLooks := .later }
def LowerFuelUptoCardSaid : Prop := Claim7.holds Tryz.pinned (.plain (OpenSpec.upto lowerFuelSpec)) lowerFuelUptoCard

/-- THE SECOND FORM's CARD OF 'bellcranklaw18.LowerIdle'. -/
def lowerIdleUptoCard : Claim7 := { stood := { row := lowerIdleUptoRow, standIns := [], harness := (true, "9a5e0bb1b08a80e5fbf7d647f75a28cd6a3c50a3fe4cc9e393451cbb69b0ad40"), looks := true }, kinds := [], alts := [], laidByText := true, laidKinds := [.data, .data], laidTests := true, laidLooks := .later }
def LowerIdleUptoCardSaid : Prop := Claim7.holds Tryz.pinned (.plain (OpenSpec.upto lowerIdleSpec)) lowerIdleUptoCard
end Rows
end Go.Proofs.YtkalflplonnhmaaGreatDoor
