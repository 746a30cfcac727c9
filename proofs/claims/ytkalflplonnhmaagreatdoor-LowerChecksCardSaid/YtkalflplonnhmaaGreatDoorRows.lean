/-
  NARROWER THAN 'FOR EVERY INPUT', by the rows' own cells (each row's printed sentence says how): LowerChecks: laid · LowerRuns: laid · LowerRight: laid · LowerFuel: laid · LowerIdle: laid.
  DERIVED. THE GIVEN ROWS OF THIS SEAT. 5 by the template 'for every input the law returns true; each argument reads behind the call as it read before'; 0 by the template 'total and deterministic' (their statements: YtkalflplonnhmaaGreatDoorTotals.lean).
  GIVEN WITH THE SEED: the statements are not yours to turn. If you find one false, say at which input.
  Laid BY PROGRAM, IN A SANDBOX (cutbox-rows.mjs): the forced cells as the released guide's own fill.sh prints them over the translation 18bcd1a63a6ea2b5… (all of the seat's roots in one cut). By AI agents, Wed Nov 11 2026. No macro, syntax, notation, axiom, sorry.
-/
import Derived.Test.YtkalflplonnhmaaGreatDoorChecked
import GoSem.Claim
import GoSem.ClaimJoined
import GoSem.ClaimMapViews
import Derived.JoinedTies
import Derived.KernelRfl
namespace Go.Proofs.YtkalflplonnhmaaGreatDoor
/- THE CELL 'sum', in the pinned program and in every row, IS THE sha256 OF THE DUMP (.gsa) THAT YtkalflplonnhmaaGreatDoorProg.lean LOADS. Nothing in Lean hashes anything: it is a label: what it is worth is what the hold of that sum in a sandbox is worth. -/
noncomputable def Tryz.pinned : Pinned := { name := "ytkalflplonnhmaagreatdoor", sum := "18bcd1a63a6ea2b5a70470223ee9f2277167fb5b0dbe880017c0a23a2a2b34b2", checked := Tryz.checked }
namespace Rows
def none {H : Type} : Left H := { results := [], args := [] }

/- WHAT THE LISTED PACKAGE-LEVEL VARIABLES READ AS WHEN THE CALL BEGINS. Each datum BY PROGRAM (the guide's laid-datum.mjs) off the statement by which the dump's own 'gosem.cut.vars' lays the variable. In a bare row this is a premise. The card (YtkalflplonnhmaaGreatDoorCards.lean) ties it to the program's text. -/
def laid_math_bits_deBruijn32tab {H : Type} : DataW H := .agg [.lit (.int .u8 0), .lit (.int .u8 1), .lit (.int .u8 28), .lit (.int .u8 2), .lit (.int .u8 29), .lit (.int .u8 14), .lit (.int .u8 24), .lit (.int .u8 3), .lit (.int .u8 30), .lit (.int .u8 22), .lit (.int .u8 20), .lit (.int .u8 15), .lit (.int .u8 25), .lit (.int .u8 17), .lit (.int .u8 4), .lit (.int .u8 8), .lit (.int .u8 31), .lit (.int .u8 27), .lit (.int .u8 13), .lit (.int .u8 23), .lit (.int .u8 21), .lit (.int .u8 19), .lit (.int .u8 16), .lit (.int .u8 7), .lit (.int .u8 26), .lit (.int .u8 12), .lit (.int .u8 18), .lit (.int .u8 6), .lit (.int .u8 11), .lit (.int .u8 5), .lit (.int .u8 10), .lit (.int .u8 9)]
def laid_math_bits_deBruijn64tab {H : Type} : DataW H := .agg [.lit (.int .u8 0), .lit (.int .u8 1), .lit (.int .u8 56), .lit (.int .u8 2), .lit (.int .u8 57), .lit (.int .u8 49), .lit (.int .u8 28), .lit (.int .u8 3), .lit (.int .u8 61), .lit (.int .u8 58), .lit (.int .u8 42), .lit (.int .u8 50), .lit (.int .u8 38), .lit (.int .u8 29), .lit (.int .u8 17), .lit (.int .u8 4), .lit (.int .u8 62), .lit (.int .u8 47), .lit (.int .u8 59), .lit (.int .u8 36), .lit (.int .u8 45), .lit (.int .u8 43), .lit (.int .u8 51), .lit (.int .u8 22), .lit (.int .u8 53), .lit (.int .u8 39), .lit (.int .u8 33), .lit (.int .u8 30), .lit (.int .u8 24), .lit (.int .u8 18), .lit (.int .u8 12), .lit (.int .u8 5), .lit (.int .u8 63), .lit (.int .u8 55), .lit (.int .u8 48), .lit (.int .u8 27), .lit (.int .u8 60), .lit (.int .u8 41), .lit (.int .u8 37), .lit (.int .u8 16), .lit (.int .u8 46), .lit (.int .u8 35), .lit (.int .u8 44), .lit (.int .u8 21), .lit (.int .u8 52), .lit (.int .u8 32), .lit (.int .u8 23), .lit (.int .u8 11), .lit (.int .u8 54), .lit (.int .u8 26), .lit (.int .u8 40), .lit (.int .u8 15), .lit (.int .u8 34), .lit (.int .u8 20), .lit (.int .u8 31), .lit (.int .u8 10), .lit (.int .u8 25), .lit (.int .u8 14), .lit (.int .u8 19), .lit (.int .u8 9), .lit (.int .u8 13), .lit (.int .u8 8), .lit (.int .u8 7), .lit (.int .u8 6)]

/-- 'bellcranklaw18.LowerChecks': WHATEVER THE INPUT: true; the input reads as it did. -/
def lowerChecksSpec : ChangeSpec := { name := "lowerChecks", fn := fun _ => fun
  | [d] => { results := [.lit (.bool true)], args := [d] }
  | _ => none }
def lowerChecksRow : OpenClaim := { program := "ytkalflplonnhmaagreatdoor", sum := "18bcd1a63a6ea2b5a70470223ee9f2277167fb5b0dbe880017c0a23a2a2b34b2", func := "bellcrank/bellcranklaw18.LowerChecks", spec := "lowerChecks", unfollowed := true, recurses := true, named := ["math/bits.deBruijn64tab", "math/bits.deBruijn32tab"], apart := false, laid := [("math/bits.deBruijn32tab", laid_math_bits_deBruijn32tab), ("math/bits.deBruijn64tab", laid_math_bits_deBruijn64tab)] }
def LowerChecksSaid : Prop := lowerChecksRow.holds Tryz.pinned (OpenSpec.ofChange lowerChecksSpec)

/-- ITS FALSE NEIGHBOUR: 'it returns false'. Refute it at one input. -/
def lowerChecksWrong : ChangeSpec := { name := "lowerChecks", fn := fun _ => fun
  | [d] => { results := [.lit (.bool false)], args := [d] }
  | _ => none }
def LowerChecksWrongFalsely : Prop := lowerChecksRow.holds Tryz.pinned (OpenSpec.ofChange lowerChecksWrong)

/-- 'bellcranklaw18.LowerRuns': WHATEVER THE INPUT: true; the input reads as it did. -/
def lowerRunsSpec : ChangeSpec := { name := "lowerRuns", fn := fun _ => fun
  | [d1, d2] => { results := [.lit (.bool true)], args := [d1, d2] }
  | _ => none }
def lowerRunsRow : OpenClaim := { program := "ytkalflplonnhmaagreatdoor", sum := "18bcd1a63a6ea2b5a70470223ee9f2277167fb5b0dbe880017c0a23a2a2b34b2", func := "bellcrank/bellcranklaw18.LowerRuns", spec := "lowerRuns", unfollowed := true, recurses := true, named := ["math/bits.deBruijn64tab", "math/bits.deBruijn32tab"], apart := false, laid := [("math/bits.deBruijn32tab", laid_math_bits_deBruijn32tab), ("math/bits.deBruijn64tab", laid_math_bits_deBruijn64tab)] }
def LowerRunsSaid : Prop := lowerRunsRow.holds Tryz.pinned (OpenSpec.ofChange lowerRunsSpec)

/-- ITS FALSE NEIGHBOUR: 'it returns false'. Refute it at one input. -/
def lowerRunsWrong : ChangeSpec := { name := "lowerRuns", fn := fun _ => fun
  | [d1, d2] => { results := [.lit (.bool false)], args := [d1, d2] }
  | _ => none }
def LowerRunsWrongFalsely : Prop := lowerRunsRow.holds Tryz.pinned (OpenSpec.ofChange lowerRunsWrong)

/-- 'bellcranklaw18.LowerRight': WHATEVER THE INPUT: true; the input reads as it did. -/
def lowerRightSpec : ChangeSpec := { name := "lowerRight", fn := fun _ => fun
  | [d] => { results := [.lit (.bool true)], args := [d] }
  | _ => none }
def lowerRightRow : OpenClaim := { program := "ytkalflplonnhmaagreatdoor", sum := "18bcd1a63a6ea2b5a70470223ee9f2277167fb5b0dbe880017c0a23a2a2b34b2", func := "bellcrank/bellcranklaw18.LowerRight", spec := "lowerRight", unfollowed := true, recurses := true, named := ["math/bits.deBruijn64tab", "math/bits.deBruijn32tab"], apart := false, laid := [("math/bits.deBruijn32tab", laid_math_bits_deBruijn32tab), ("math/bits.deBruijn64tab", laid_math_bits_deBruijn64tab)] }
def LowerRightSaid : Prop := lowerRightRow.holds Tryz.pinned (OpenSpec.ofChange lowerRightSpec)

/-- ITS FALSE NEIGHBOUR: 'it returns false'. Refute it at one input. -/
def lowerRightWrong : ChangeSpec := { name := "lowerRight", fn := fun _ => fun
  | [d] => { results := [.lit (.bool false)], args := [d] }
  | _ => none }
def LowerRightWrongFalsely : Prop := lowerRightRow.holds Tryz.pinned (OpenSpec.ofChange lowerRightWrong)

/-- 'bellcranklaw18.LowerFuel': WHATEVER THE INPUT: true; the input reads as it did. -/
def lowerFuelSpec : ChangeSpec := { name := "lowerFuel", fn := fun _ => fun
  | [d1, d2, d3] => { results := [.lit (.bool true)], args := [d1, d2, d3] }
  | _ => none }
def lowerFuelRow : OpenClaim := { program := "ytkalflplonnhmaagreatdoor", sum := "18bcd1a63a6ea2b5a70470223ee9f2277167fb5b0dbe880017c0a23a2a2b34b2", func := "bellcrank/bellcranklaw18.LowerFuel", spec := "lowerFuel", unfollowed := true, recurses := true, named := ["math/bits.deBruijn64tab", "math/bits.deBruijn32tab"], apart := false, laid := [("math/bits.deBruijn32tab", laid_math_bits_deBruijn32tab), ("math/bits.deBruijn64tab", laid_math_bits_deBruijn64tab)] }
def LowerFuelSaid : Prop := lowerFuelRow.holds Tryz.pinned (OpenSpec.ofChange lowerFuelSpec)

/-- ITS FALSE NEIGHBOUR: 'it returns false'. Refute it at one input. -/
def lowerFuelWrong : ChangeSpec := { name := "lowerFuel", fn := fun _ => fun
  | [d1, d2, d3] => { results := [.lit (.bool false)], args := [d1, d2, d3] }
  | _ => none }
def LowerFuelWrongFalsely : Prop := lowerFuelRow.holds Tryz.pinned (OpenSpec.ofChange lowerFuelWrong)

/-- 'bellcranklaw18.LowerIdle': WHATEVER THE INPUT: true; the input reads as it did. -/
def lowerIdleSpec : ChangeSpec := { name := "lowerIdle", fn := fun _ => fun
  | [d1, d2, d3] => { results := [.lit (.bool true)], args := [d1, d2, d3] }
  | _ => none }
def lowerIdleRow : OpenClaim := { program := "ytkalflplonnhmaagreatdoor", sum := "18bcd1a63a6ea2b5a70470223ee9f2277167fb5b0dbe880017c0a23a2a2b34b2", func := "bellcrank/bellcranklaw18.LowerIdle", spec := "lowerIdle", unfollowed := true, recurses := true, named := ["math/bits.deBruijn64tab", "math/bits.deBruijn32tab"], apart := false, laid := [("math/bits.deBruijn32tab", laid_math_bits_deBruijn32tab), ("math/bits.deBruijn64tab", laid_math_bits_deBruijn64tab)] }
def LowerIdleSaid : Prop := lowerIdleRow.holds Tryz.pinned (OpenSpec.ofChange lowerIdleSpec)

/-- ITS FALSE NEIGHBOUR: 'it returns false'. Refute it at one input. -/
def lowerIdleWrong : ChangeSpec := { name := "lowerIdle", fn := fun _ => fun
  | [d1, d2, d3] => { results := [.lit (.bool false)], args := [d1, d2, d3] }
  | _ => none }
def LowerIdleWrongFalsely : Prop := lowerIdleRow.holds Tryz.pinned (OpenSpec.ofChange lowerIdleWrong)

/- THE SECOND FORM. 'bulk': how many values and letters a reading holds, each counted each time it is reached (what is shared counts as often as it is met; a slice's spare places count too). A statement '..UptoSaid' is the law's where the arguments, and the package variables that the reading takes, are together of bulk at most 1048576: NARROWER than '..Said'. Prove '..Said' where nothing that the law and all that it calls make is longer than what came in: it says more and counts as full. Else prove '..UptoSaid'. A law counts once. -/
mutual
def uptoBulk {H : Type} : DataW H → Nat
  | .lit (.string bytes) => bytes.length + 1
  | .lit _ => 1
  | .nil => 1
  | .ptr d => uptoBulk d + 1
  | .slice elems spare => uptoBulkAll elems + uptoBulkAll spare + 1
  | .agg parts => uptoBulkAll parts + 1
  | .iface _ d => uptoBulk d + 1
  | .map entries => uptoBulkEntries entries + 1
  | .held _ => 1
def uptoBulkAll {H : Type} : List (DataW H) → Nat
  | [] => 0
  | d :: r => uptoBulk d + uptoBulkAll r
def uptoBulkEntries {H : Type} : List (Lit × DataW H) → Nat
  | [] => 0
  | x :: r => uptoBulkEntry x + uptoBulkEntries r
def uptoBulkEntry {H : Type} : Lit × DataW H → Nat
  | (.string bytes, d) => bytes.length + uptoBulk d + 1
  | (_, d) => uptoBulk d + 1
 end
def uptoSmall : (H : Type) → List (DataW H) → Bool := fun _ ds => decide (uptoBulkAll ds ≤ 1048576)
def OpenSpec.upto (s : _root_.Go.ChangeSpec) : _root_.Go.OpenSpec := { _root_.Go.OpenSpec.ofChange s with cond := some uptoSmall }

/-- 'bellcranklaw18.LowerChecks', WHERE WHAT IT READS IS OF BULK AT MOST 1048576: true; the input reads as it did. -/
def lowerChecksUptoRow : OpenClaim := { program := "ytkalflplonnhmaagreatdoor", sum := "18bcd1a63a6ea2b5a70470223ee9f2277167fb5b0dbe880017c0a23a2a2b34b2", func := "bellcrank/bellcranklaw18.LowerChecks", spec := "lowerChecks", unfollowed := true, recurses := true, named := ["math/bits.deBruijn64tab", "math/bits.deBruijn32tab"], apart := false, laid := [("math/bits.deBruijn32tab", laid_math_bits_deBruijn32tab), ("math/bits.deBruijn64tab", laid_math_bits_deBruijn64tab)], narrowed := true }
def LowerChecksUptoSaid : Prop := lowerChecksUptoRow.holds Tryz.pinned (OpenSpec.upto lowerChecksSpec)

/-- 'bellcranklaw18.LowerRuns', WHERE WHAT IT READS IS OF BULK AT MOST 1048576: true; the input reads as it did. -/
def lowerRunsUptoRow : OpenClaim := { program := "ytkalflplonnhmaagreatdoor", sum := "18bcd1a63a6ea2b5a70470223ee9f2277167fb5b0dbe880017c0a23a2a2b34b2", func := "bellcrank/bellcranklaw18.LowerRuns", spec := "lowerRuns", unfollowed := true, recurses := true, named := ["math/bits.deBruijn64tab", "math/bits.deBruijn32tab"], apart := false, laid := [("math/bits.deBruijn32tab", laid_math_bits_deBruijn32tab), ("math/bits.deBruijn64tab", laid_math_bits_deBruijn64tab)], narrowed := true }
def LowerRunsUptoSaid : Prop := lowerRunsUptoRow.holds Tryz.pinned (OpenSpec.upto lowerRunsSpec)

/-- 'bellcranklaw18.LowerRight', WHERE WHAT IT READS IS OF BULK AT MOST 1048576: true; the input reads as it did. -/
def lowerRightUptoRow : OpenClaim := { program := "ytkalflplonnhmaagreatdoor", sum := "18bcd1a63a6ea2b5a70470223ee9f2277167fb5b0dbe880017c0a23a2a2b34b2", func := "bellcrank/bellcranklaw18.LowerRight", spec := "lowerRight", unfollowed := true, recurses := true, named := ["math/bits.deBruijn64tab", "math/bits.deBruijn32tab"], apart := false, laid := [("math/bits.deBruijn32tab", laid_math_bits_deBruijn32tab), ("math/bits.deBruijn64tab", laid_math_bits_deBruijn64tab)], narrowed := true }
def LowerRightUptoSaid : Prop := lowerRightUptoRow.holds Tryz.pinned (OpenSpec.upto lowerRightSpec)

/-- 'bellcranklaw18.LowerFuel', WHERE WHAT IT READS IS OF BULK AT MOST 1048576: true; the input reads as it did. -/
def lowerFuelUptoRow : OpenClaim := { program := "ytkalflplonnhmaagreatdoor", sum := "18bcd1a63a6ea2b5a70470223ee9f2277167fb5b0dbe880017c0a23a2a2b34b2", func := "bellcrank/bellcranklaw18.LowerFuel", spec := "lowerFuel", unfollowed := true, recurses := true, named := ["math/bits.deBruijn64tab", "math/bits.deBruijn32tab"], apart := false, laid := [("math/bits.deBruijn32tab", laid_math_bits_deBruijn32tab), ("math/bits.deBruijn64tab", laid_math_bits_deBruijn64tab)], narrowed := true }
def LowerFuelUptoSaid : Prop := lowerFuelUptoRow.holds Tryz.pinned (OpenSpec.upto lowerFuelSpec)

/-- 'bellcranklaw18.LowerIdle', WHERE WHAT IT READS IS OF BULK AT MOST 1048576: true; the input reads as it did. -/
def lowerIdleUptoRow : OpenClaim := { program := "ytkalflplonnhmaagreatdoor", sum := "18bcd1a63a6ea2b5a70470223ee9f2277167fb5b0dbe880017c0a23a2a2b34b2", func := "bellcrank/bellcranklaw18.LowerIdle", spec := "lowerIdle", unfollowed := true, recurses := true, named := ["math/bits.deBruijn64tab", "math/bits.deBruijn32tab"], apart := false, laid := [("math/bits.deBruijn32tab", laid_math_bits_deBruijn32tab), ("math/bits.deBruijn64tab", laid_math_bits_deBruijn64tab)], narrowed := true }
def LowerIdleUptoSaid : Prop := lowerIdleUptoRow.holds Tryz.pinned (OpenSpec.upto lowerIdleSpec)

end Rows
end Go.Proofs.YtkalflplonnhmaaGreatDoor
