/-
  OptNames: the passes of any mask are the document's: the law answers true for every mask, and its argument reads as it did. The way: the evaluator (the texts Xev..: it computes with the given program's code and is proved sound against the model) runs the law over the mask's lowest five bits, all thirty-two of them; its probe 'alive' is run once, and told (the text OptNamesRun).
-/
import Derived.Test.YtkakihmhmobgoaaGreatDoorCards
import Derived.Test.YtkakihmhmobgoaaGreatDoorTie
import Derived.Test.YtkakihmhmobgoaaGreatDoorOptNamesRun
import Derived.Deep.DeepHandedRow
import Derived.Lib.LaidTab
import Derived.LaidSub
namespace Go.Proofs.YtkakihmhmobgoaaGreatDoor.optNames
open Go.Ev Go.ChangeShapes Go.WideShapes Go.ChangeAt Go.RowKit Go.Shelf

/-! ### What the row's list gives -/
theorem own : ownKnob Tryz.prog.godebug = none := by kernel_rfl
theorem gTab : Tryz.prog.globalNamed "internal/strconv.uint64pow10" = some 0 := by kernel_rfl
theorem gTabType : (Tryz.prog.globals[0]?).map (·.type) = some 328 := by kernel_rfl
theorem cells328 : Tryz.prog.cellsOf 328 = 20 := by kernel_rfl
theorem cells68 : Tryz.prog.cellsOf 68 = 1 := by kernel_rfl
theorem table {W : World} (h : laidMetH Tryz.prog Rows.optNamesRow.laid W) : Lib.TabIs Tryz.prog W "internal/strconv.uint64pow10" .u64 pow10 := by
  have h' := laidMetH.filter (fun x => x.1 == "internal/strconv.uint64pow10") h
  exact Lib.tabIs_of_head (rest := []) gTab gTabType Tryz.underlying328 Tryz.underlying68 cells68 cells328 h'
theorem vrs_ints {ι : Emb} {w : World} {Z : Nat → Prop} {nx : Nat} {k : IntKind} : ∀ l : List Int, VRs ι w Z nx (l.map fun n => .int k n) (l.map fun n => Value.int k n)
  | [] => .nil _
  | n :: l => .cons _ _ _ _ _ (.int _ _ _) (vrs_ints l)
theorem glR {ι : Emb} {W : World} {Z : Nat → Prop} (h : Lib.TabIs Tryz.prog W "internal/strconv.uint64pow10" .u64 pow10) (hz : Z 0) : GlR ι W Z gl := by
  intro g
  unfold gl
  cases hb : Nat.beq g 0 with
  | true =>
    have hg : g = 0 := Nat.eq_of_beq_eq_true hb
    subst hg
    refine VR.cptr 0 _ 0 0 (pow10.map fun n => Value.int .u64 n) hz ?_ (vrs_ints pow10)
    intro i v hi
    have := World.var?_cell gTab h i
    rw [Nat.zero_add, this]
    simpa using hi
  | false => exact .bad _ _

theorem law {W : World} (h : Lib.TabIs Tryz.prog W "internal/strconv.uint64pow10" .u64 pow10) (n : Int) : Calls Tryz.prog 4 #[.int .i64 n] W fun e w' => e = .returned (.bool true) ∧ Kept W w' := by
  have h0 : W.cell? ⟨0, 0, none⟩ = some (.int .u64 1) := h.cell gTab 0 (by decide)
  have hlt : 0 < W.heap.size := World.block_lt_of_cell? _ _ h0
  have hm : (n % 32).toNat < 32 := by omega
  have hall := List.all_eq_true.1 masks (n % 32).toNat (List.mem_range.2 hm)
  obtain ⟨s', hs⟩ := answers_some hall
  refine law_call (ι := ⟨id, fun _ => 0, fun _ => 0, fun _ => 0⟩) (Z := fun b => b = 0) envOk' hs (fun b hb => by rw [hb]; exact hlt) (glR h rfl) ?_
  refine .cons _ _ _ _ _ (.mint _ _ _ _ _ ?_) (.nil _)
  show n % ((2 ^ 5 : Nat) : Int) = ((n % 32).toNat : Int)
  omega

theorem kids : Kids Tryz.prog (· < Tryz.prog.types.size) := kids_rows (by kernel_rfl) (by kernel_rfl)
theorem slicesFull : ∀ t e, t < Tryz.prog.types.size → Tryz.prog.underlying t = some (.slice e) → 0 < Tryz.prog.cellsOf e := slices_full_of Tryz.prog (by kernel_rfl)

set_option maxRecDepth 100000 in
theorem contract (H : Type) (enc : TypeId × Value → H) (W : World) (base : Nat) (args : Array Value) (ds gs : List (DataW H)) (before : List MemPlace)
    (hval : ∀ (j : Nat) t v, Tryz.f4.params[j]? = some t → args[j]? = some v → Value.okWide Tryz.prog W .any base t v)
    (hW : DataW.Whole enc Tryz.prog Tryz.f4.params.toList Rows.optNamesSpec.vars false W args.toList ds gs before) (hL : laidMetH Tryz.prog Rows.optNamesRow.laid W) :
    Calls Tryz.prog 4 args W fun e W' => ∃ v, e = .returned v ∧ Rows.optNamesSpec.post enc Tryz.prog Tryz.f4 false true false false W args v W' := by
  have hW' := hW
  obtain ⟨p, q, hA, hV, rfl, hfz, hnd⟩ := hW
  have hA' : DataW.TrodAll enc Tryz.prog W 0 (fun _ => true) true Tryz.f4.params.toList args.toList ds p := hA
  rw [Tryz.params4] at hA' hval
  obtain ⟨v0, vs0, d0, ds0, p0, q0, hargs, rfl, rfl, h0, r0⟩ := trodAll_cons hA'
  obtain ⟨rfl, rfl, rfl⟩ := trodAll_nil r0
  obtain rfl : args = #[v0] := by cases args; simp_all
  obtain ⟨n, rfl, rfl, rfl, _⟩ := open_int Tryz.underlying3 (hval 0 3 v0 rfl rfl) h0
  refine (law (table hL) n).mono fun e W' ⟨he, hk⟩ => ⟨_, he, ?_⟩
  exact law_post (tb := 4) hW' rfl rfl rfl Tryz.underlying4 kids slicesFull (by rw [Tryz.params4]; decide +kernel) hk

/-! ### The row, and the card -/
def vals : DataW Unit → Array Value
  | .agg l => (l.map fun | .lit (.int k n) => Value.int k n | _ => .bool false).toArray
  | _ => #[]
def laidObj (c : Array Value) : Obj → Obj
  | .cells _ t frozen => .cells c t frozen
  | o => o
/-- A world for the witness: the settled one, the listed variables holding what their initialisers lay. -/
noncomputable def laidWorld (os : Os) : World :=
  { World.holding Tryz.prog os ⟨#[], #[], []⟩ with heap := (((World.holding Tryz.prog os ⟨#[], #[], []⟩).heap.modify 0 (laidObj (vals Rows.laid_internal_strconv_uint64pow10))).modify 1 (laidObj (vals Rows.laid_math_bits_deBruijn64tab))).modify 2 (laidObj (vals Rows.laid_math_bits_deBruijn32tab)) }
theorem laid_met (os : Os) : laidMet Tryz.prog Rows.optNamesRow.laid ((laidWorld os).forCall (fun _ _ => 0) ⟨#[], #[.int .i64 0], []⟩).memory :=
  laidMet_of_run' 8 (by kernel_rfl) (by kernel_rfl)
theorem reads (os : Os) {H : Type} (enc : TypeId × Value → H) : ∃ places, DataW.whole enc Tryz.prog ((laidWorld os).forCall (fun _ _ => 0) ⟨#[], #[.int .i64 0], []⟩).memory Tryz.f4.params.toList Rows.optNamesSpec.vars false #[Value.int .i64 0].toList 8 = some ([.lit (.int .i64 0)], [], places) :=
  ⟨[], by kernel_rfl⟩

set_option maxRecDepth 100000 in
theorem lifted (os : Os) (started : os.Started) (H : Type) (enc : TypeId × Value → H) (F : Stop.Interp) :
    ReturnsInHanded {} Tryz.checked os 4 .any ((OpenSpec.ofChange Rows.optNamesSpec).preRow enc Tryz.prog Tryz.f4 Rows.optNamesRow.domain false Rows.optNamesRow.laid) (((OpenSpec.ofChange Rows.optNamesSpec).at F).post enc Tryz.prog Tryz.f4 false true false false) := by
  obtain ⟨places, hx⟩ := reads os enc
  refine returnsInHanded_of_row (C := Tryz.checked) (s := OpenSpec.ofChange Rows.optNamesSpec) own started (by kernel_rfl) Tryz.func4
    (witness_row_at (enc := enc) (C := Tryz.checked) false (laidWorld os) #[.int .i64 0] rfl (by kernel_rfl) (by kernel_rfl) (by kernel_rfl)
      (OpenSpec.preRow_of_cond 8 hx (by kernel_rfl) (fun k hk => by cases hk) (by kernel_rfl) (laid_met os))) ?_
  intro W base args ds gs before hval hW _ _ _ hL _ _
  exact contract H enc W base args ds gs before hval hW hL

theorem said : Rows.OptNamesSaid :=
  OpenClaim.holds_of_cond 4 Tryz.f4 rfl rfl rfl rfl rfl rfl rfl ⟨rfl, rfl, rfl, rfl, rfl⟩ rfl rfl rfl rfl rfl (by kernel_rfl) Tryz.func4 (by kernel_rfl)
    (of_decide_eq_true (by kernel_rfl)) (by unfold Func.isWrapper; first | (rw [if_pos (by decide +kernel)]; kernel_rfl) | (rw [if_neg (by decide +kernel)]; exact ⟨rfl, rfl⟩))
    (fun os started H enc _ F => by rw [OpenClaim.pre_eq_preRow]; exact lifted os started H enc F)

/-- No parameter wants a stand-in; the program's own looks are as the card has them. -/
theorem plain (f : FuncId) (fn : Func) (hf : Tryz.pinned.checked.prog.funcNamed "bellcrank/bellcranklaw16.OptNames" = some f) (hfn : Tryz.pinned.checked.prog.funcs[f]? = some fn) :
    false = Tryz.pinned.checked.prog.looks [] ∧ ∀ (j : Nat) t, fn.params[j]? = some t → Tryz.pinned.checked.prog.wantsStandIn t = false := by
  obtain rfl : f = 4 := Option.some.inj ((show Tryz.prog.funcNamed "bellcrank/bellcranklaw16.OptNames" = some 4 by kernel_rfl).symm.trans hf) |>.symm
  obtain rfl : fn = Tryz.f4 := (Option.some.inj (Tryz.func4.symm.trans hfn)).symm
  refine ⟨by kernel_rfl, fun j t ht => ?_⟩
  rw [Tryz.params4] at ht
  obtain rfl : t = 3 := by simpa using Array.mem_of_getElem? ht
  exact (show Tryz.prog.wantsStandIn 3 = false by kernel_rfl)

/-- The card. -/
theorem card : Rows.OptNamesCardSaid :=
  Claim7.holds_tied_plain_at .later [] _ _ _ _ said (fun _ h => by cases h) (by kernel_rfl) (fun _ h => by cases h) optNames_row_tie rfl ⟨rfl, rfl⟩ (by kernel_rfl) rfl plain (by kernel_rfl)
end Go.Proofs.YtkakihmhmobgoaaGreatDoor.optNames
