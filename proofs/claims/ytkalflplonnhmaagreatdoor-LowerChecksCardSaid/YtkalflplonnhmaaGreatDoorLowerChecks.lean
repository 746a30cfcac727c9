/-
  LowerChecks: which rows may be is told by the program as the document says: the law answers true at every program of rows, and its argument reads as it did. The way: the evaluator (the texts Xev..: it computes with the given program's code and is proved sound against the model) is led through the two Checks and the two Rights by steps shown for any argument (the texts Lc..); the law's probe 'alive' is run once, and told (the text LowerChecksRun).
-/
import Derived.Test.YtkalflplonnhmaaGreatDoorCards
import Derived.Test.YtkalflplonnhmaaGreatDoorTie
import Derived.Test.YtkalflplonnhmaaGreatDoorLowerChecksRun
import Derived.Test.YtkalflplonnhmaaGreatDoorLcData
import Derived.Deep.DeepHandedRow
import Derived.Lib.LaidTab
import Derived.LaidSub
namespace Go.Proofs.YtkalflplonnhmaaGreatDoor.lowerChecks
open Go.Ev Go.Ev.Lc Go.ChangeShapes Go.WideShapes Go.ChangeAt Go.RowKit

theorem own : ownKnob Tryz.prog.godebug = none := by kernel_rfl
theorem kids : Kids Tryz.prog (· < Tryz.prog.types.size) := kids_rows (by kernel_rfl) (by kernel_rfl)
theorem slicesFull : ∀ t e, t < Tryz.prog.types.size → Tryz.prog.underlying t = some (.slice e) → 0 < Tryz.prog.cellsOf e := slices_full_of Tryz.prog (by kernel_rfl)

set_option maxRecDepth 100000 in
theorem contract (H : Type) (enc : TypeId × Value → H) (W : World) (base : Nat) (args : Array Value) (ds gs : List (DataW H)) (before : List MemPlace)
    (hval : ∀ (j : Nat) t v, Tryz.f3.params[j]? = some t → args[j]? = some v → Value.okWide Tryz.prog W .any base t v)
    (hW : DataW.Whole enc Tryz.prog Tryz.f3.params.toList Rows.lowerChecksSpec.vars false W args.toList ds gs before) :
    Calls Tryz.prog 3 args W fun e W' => ∃ v, e = .returned v ∧ Rows.lowerChecksSpec.post enc Tryz.prog Tryz.f3 false true false false W args v W' := by
  obtain ⟨p, hA, hlt⟩ := whole_trod hW
  have hA' : DataW.TrodAll enc Tryz.prog W 0 (fun _ => true) true Tryz.f3.params.toList args.toList ds p := hA
  rw [Tryz.params3] at hA' hval
  obtain ⟨v0, vs0, d0, ds0, p0, q0, hargs, rfl, rfl, ⟨fuel, h0⟩, r0⟩ := trodAll_cons hA'
  obtain ⟨rfl, rfl, rfl⟩ := trodAll_nil r0
  obtain rfl : args = #[v0] := by cases args; simp_all
  obtain ⟨cs, rfl, _⟩ := okWide_struct Tryz.underlying29 (hval 0 29 v0 rfl rfl)
  have h0 : DataW.trod enc Tryz.prog W 0 (fun _ => true) true fuel 29 cs.toList = some (d0, p0) := h0
  obtain ⟨pr, ho, hav⟩ := sh29 (trod_shape _ _ _ _ _ h0)
  have hv := trod_av (Z := fun b => b < W.heap.size) (ι := ⟨id, fun _ => 0, fun _ => 0, fun _ => 0⟩) _ _ _ _ _ h0 (fun x hx => hlt x (List.mem_append_left _ hx)) 7 _ hav
  obtain ⟨n, s', hc⟩ := law pr ho
  refine (law_call (Z := fun b => b < W.heap.size) okL hc (fun b hb => hb) glR_bad (.cons _ _ _ _ _ (.agg _ _ _ hv) (.nil _))).mono fun e W' ⟨he, hk⟩ => ⟨_, he, ?_⟩
  exact law_post (tb := 4) hW rfl rfl rfl Tryz.underlying4 kids slicesFull (by rw [Tryz.params3]; decide +kernel) hk

/-! ### The row, and the card -/
def vals : DataW Unit → Array Value
  | .agg l => (l.map fun | .lit (.int k n) => Value.int k n | _ => .bool false).toArray
  | _ => #[]
def laidObj (c : Array Value) : Obj → Obj
  | .cells _ t frozen => .cells c t frozen
  | o => o
def zero : Value := .agg #[.slice none 0 0, .int .i64 0, .slice none 0 0, .slice none 0 0, .bool false, .slice none 0 0]
/-- A world for the witness: the settled one, the listed variables holding what their initialisers lay. -/
noncomputable def laidWorld (os : Os) : World :=
  { World.holding Tryz.prog os ⟨#[], #[], []⟩ with heap := ((World.holding Tryz.prog os ⟨#[], #[], []⟩).heap.modify 0 (laidObj (vals Rows.laid_math_bits_deBruijn64tab))).modify 1 (laidObj (vals Rows.laid_math_bits_deBruijn32tab)) }
theorem laid_met (os : Os) : laidMet Tryz.prog Rows.lowerChecksRow.laid ((laidWorld os).forCall (fun _ _ => 0) ⟨#[], #[zero], []⟩).memory :=
  laidMet_of_run' 8 (by kernel_rfl) (by kernel_rfl)
theorem reads (os : Os) {H : Type} (enc : TypeId × Value → H) : ∃ places, DataW.whole enc Tryz.prog ((laidWorld os).forCall (fun _ _ => 0) ⟨#[], #[zero], []⟩).memory Tryz.f3.params.toList Rows.lowerChecksSpec.vars false #[zero].toList 8 = some ([.agg [.agg [.nil, .lit (.int .i64 0), .nil, .nil, .lit (.bool false)], .nil]], [], places) :=
  ⟨[], by kernel_rfl⟩

set_option maxRecDepth 100000 in
theorem lifted (os : Os) (started : os.Started) (H : Type) (enc : TypeId × Value → H) (F : Stop.Interp) :
    ReturnsInHanded {} Tryz.checked os 3 .any ((OpenSpec.ofChange Rows.lowerChecksSpec).preRow enc Tryz.prog Tryz.f3 Rows.lowerChecksRow.domain false Rows.lowerChecksRow.laid) (((OpenSpec.ofChange Rows.lowerChecksSpec).at F).post enc Tryz.prog Tryz.f3 false true false false) := by
  obtain ⟨places, hx⟩ := reads os enc
  refine returnsInHanded_of_row (C := Tryz.checked) (s := OpenSpec.ofChange Rows.lowerChecksSpec) own started (by kernel_rfl) Tryz.func3
    (witness_row_at (enc := enc) (C := Tryz.checked) false (laidWorld os) #[zero] rfl (by kernel_rfl) (by kernel_rfl) (by kernel_rfl)
      (OpenSpec.preRow_of_cond 8 hx (by kernel_rfl) (fun k hk => by cases hk) (by kernel_rfl) (laid_met os))) ?_
  intro W base args ds gs before hval hW _ _ _ hL _ _
  exact contract H enc W base args ds gs before hval hW

theorem said : Rows.LowerChecksSaid :=
  OpenClaim.holds_of_cond 3 Tryz.f3 rfl rfl rfl rfl rfl rfl rfl ⟨rfl, rfl, rfl, rfl, rfl⟩ rfl rfl rfl rfl rfl (by kernel_rfl) Tryz.func3 (by kernel_rfl)
    (of_decide_eq_true (by kernel_rfl)) (by unfold Func.isWrapper; first | (rw [if_pos (by decide +kernel)]; kernel_rfl) | (rw [if_neg (by decide +kernel)]; exact ⟨rfl, rfl⟩))
    (fun os started H enc _ F => by rw [OpenClaim.pre_eq_preRow]; exact lifted os started H enc F)

/-- No parameter wants a stand-in; the program's own looks are as the card has them. -/
theorem plain (f : FuncId) (fn : Func) (hf : Tryz.pinned.checked.prog.funcNamed "bellcrank/bellcranklaw18.LowerChecks" = some f) (hfn : Tryz.pinned.checked.prog.funcs[f]? = some fn) :
    true = Tryz.pinned.checked.prog.looks [] ∧ ∀ (j : Nat) t, fn.params[j]? = some t → Tryz.pinned.checked.prog.wantsStandIn t = false := by
  obtain rfl : f = 3 := Option.some.inj ((show Tryz.prog.funcNamed "bellcrank/bellcranklaw18.LowerChecks" = some 3 by kernel_rfl).symm.trans hf) |>.symm
  obtain rfl : fn = Tryz.f3 := (Option.some.inj (Tryz.func3.symm.trans hfn)).symm
  refine ⟨by kernel_rfl, fun j t ht => ?_⟩
  rw [Tryz.params3] at ht
  obtain rfl : t = 29 := by simpa using Array.mem_of_getElem? ht
  exact (show Tryz.prog.wantsStandIn 29 = false by kernel_rfl)

/-- The card. -/
theorem card : Rows.LowerChecksCardSaid :=
  Claim7.holds_tied_plain_at .later [] _ _ _ _ said (fun _ h => by cases h) (by kernel_rfl) (fun _ h => by cases h) lowerChecks_row_tie rfl ⟨rfl, rfl⟩ (by kernel_rfl) rfl plain (by kernel_rfl)
end Go.Proofs.YtkalflplonnhmaaGreatDoor.lowerChecks
