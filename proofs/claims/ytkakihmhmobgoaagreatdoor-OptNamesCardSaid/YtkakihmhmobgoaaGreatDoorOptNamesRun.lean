/-
  OptNames: the passes of any mask are the document's: the law answers true for every mask, and its argument reads as it did. The way: the evaluator (the texts Xev..: it computes with the given program's code and is proved sound against the model) runs the law over the mask's lowest five bits, all thirty-two of them; its probe 'alive' is run once, and told.
-/
import Derived.Test.YtkakihmhmobgoaaGreatDoorRows
import Derived.Test.YtkakihmhmobgoaaGreatDoorTabB
namespace Go.Proofs.YtkakihmhmobgoaaGreatDoor.optNames
open Go.Ev Go.ChangeShapes Go.WideShapes Go.ChangeAt Go.RowKit Go.Shelf

def ren : Ren := ⟨fun | 169 => 158 | 240 => 196 | 276 => 226 | n => n, fun | 70 => 215 | 72 => 217 | 37 => 42 | 127 => 260 | 164 => 299 | n => n, fun n => n⟩
theorem lays240 : Lays.n240 Tryz.prog ren where
  mixed := by kernel_rfl
  f240 := Tryz.func196.trans (congrArg some (by kernel_rfl))
  f276 := Tryz.func226.trans (congrArg some (by kernel_rfl))
  t0 := Tryz.underlying0
  a0 := Tryz.isAgg0
  z0 := Tryz.sizeOf0
  v0 := Tryz.zeroValue0
  t4 := Tryz.underlying4
  a4 := Tryz.isAgg4
  z4 := Tryz.sizeOf4
  v4 := Tryz.zeroValue4
  t9 := Tryz.underlying9
  a9 := Tryz.isAgg9
  z9 := Tryz.sizeOf9
  v9 := Tryz.zeroValue9
  t20 := Tryz.underlying20
  a20 := Tryz.isAgg20
  z20 := Tryz.sizeOf20
  v20 := Tryz.zeroValue20
  t70 := Tryz.underlying215
  a70 := Tryz.isAgg215
  z70 := Tryz.sizeOf215
  v70 := Tryz.zeroValue215
  t72 := Tryz.underlying217
  a72 := Tryz.isAgg217
  z72 := Tryz.sizeOf217
  v72 := Tryz.zeroValue217
  t164 := Tryz.underlying299
  a164 := Tryz.isAgg299
  z164 := Tryz.sizeOf299
  v164 := Tryz.zeroValue299
theorem lays169 : Lays.n169 Tryz.prog ren where
  mixed := by kernel_rfl
  f169 := Tryz.func158.trans (congrArg some (by kernel_rfl))
  t0 := Tryz.underlying0
  a0 := Tryz.isAgg0
  z0 := Tryz.sizeOf0
  v0 := Tryz.zeroValue0
  t3 := Tryz.underlying3
  a3 := Tryz.isAgg3
  z3 := Tryz.sizeOf3
  v3 := Tryz.zeroValue3
  t9 := Tryz.underlying9
  a9 := Tryz.isAgg9
  z9 := Tryz.sizeOf9
  v9 := Tryz.zeroValue9
  t37 := Tryz.underlying42
  a37 := Tryz.isAgg42
  z37 := Tryz.sizeOf42
  v37 := Tryz.zeroValue42
  t70 := Tryz.underlying215
  a70 := Tryz.isAgg215
  z70 := Tryz.sizeOf215
  v70 := Tryz.zeroValue215
  t72 := Tryz.underlying217
  a72 := Tryz.isAgg217
  z72 := Tryz.sizeOf217
  v72 := Tryz.zeroValue217
  t127 := Tryz.underlying260
  a127 := Tryz.isAgg260
  z127 := Tryz.sizeOf260
  v127 := Tryz.zeroValue260
theorem extra : Builder.Extra Tryz.prog ren where
  sizeBuilder := by kernel_rfl
  liesBuilder := by kernel_rfl
  t5 := Tryz.underlying5
  a5 := Tryz.isAgg5
  z5 := Tryz.sizeOf5
  v5 := Tryz.zeroValue5
  infoByte := by kernel_rfl
  cellsByte := by kernel_rfl
  sizeByte := by kernel_rfl
  neB5 := by decide

/-! ### The evaluator's table is the given program's -/
def pow10 : List Int := [1, 10, 100, 1000, 10000, 100000, 1000000, 10000000, 100000000, 1000000000, 10000000000, 100000000000, 1000000000000, 10000000000000, 100000000000000, 1000000000000000, 10000000000000000, 100000000000000000, 1000000000000000000, 10000000000000000000]
def gl : Nat → AV := fun g => match Nat.beq g 0 with | true => .cptr (.agg (pow10.map fun n => .int .u64 n)) | false => .bad
def env : Env := { gl, fns := Tab.tbl.get }
theorem keys : tblOk Tab.tbl Tab.tbl.keys = true := by kernel_rfl
theorem mixed : Tryz.prog.follows .mixedOrders = true := by kernel_rfl
set_option maxRecDepth 100000 in
theorem codes : Tab.tbl.keys.map (codeOf Tryz.prog) = Tab.tbl.keys.map Tab.tbl.get := by kernel_rfl
theorem ownsAre : owns Tab.tbl = [(196, .check 217), (158, .text 5)] ∨ False := .inl (by kernel_rfl)
theorem envOk : EnvOk Tryz.prog env := by
  refine envOk_of codes keys mixed ?_
  have h1 : OwnOk Tryz.prog gl 196 (.check 217) := own_check (ρ := ren) lays240 extra.toX72
  have h2 : OwnOk Tryz.prog gl 158 (.text 5) := own_text (ρ := ren) lays169 extra
  intro p hp
  rcases ownsAre with e | e
  · rw [e] at hp
    simp only [List.mem_cons, List.not_mem_nil, or_false] at hp
    rcases hp with rfl | rfl <;> assumption
  · exact e.elim
/-- The five passes at the probe's program: run by the kernel, one by one. -/
def a44 : List AV := [(.agg [(.lst [(.agg [.nils, (.lst [(.int .i64 127)])])]), (.int .i64 0), .nils, .nils, (.bool false)]), (.agg [.nils, (.lst [(.int .i64 127)]), (.lst [(.int .i64 127), (.int .i64 127), (.int .i64 127)]), (.lst [(.agg [.nils, (.lst [(.agg [(.int .i64 258), (.int .u64 0), .nils, .nils]), (.agg [(.int .i64 256), (.int .u64 2), .nils, (.lst [(.int .i64 0)])]), (.agg [(.int .i64 256), (.int .u64 3), .nils, (.lst [(.int .i64 1)])]), (.agg [(.int .i64 106), (.int .u64 0), (.lst [(.int .i64 0), (.int .i64 1)]), (.lst [(.int .i64 2)])])]), (.int .i64 4), (.int .i64 0), .nils, (.lst [(.int .i64 2)])])])])]
def v44 : AV := (.tup [(.agg [.nils, (.lst [(.int .i64 127)]), (.lst [(.int .i64 127), (.int .i64 127), (.int .i64 127)]), (.lst [(.agg [.nils, (.lst [(.agg [(.int .i64 258), (.int .u64 0), .nils, .nils]), (.agg [(.int .i64 256), (.int .u64 2), .nils, (.lst [(.int .i64 0)])]), (.agg [(.int .i64 256), (.int .u64 3), .nils, (.lst [(.int .i64 1)])]), (.agg [(.int .i64 256), (.int .u64 5), .nils, (.lst [(.int .i64 2)])])]), (.int .i64 4), (.int .i64 0), .nils, (.lst [(.int .i64 2)])])])]), (.int .i64 0)])
set_option maxRecDepth 100000 in
theorem told44 : ToldAs (pures env [44]) 44 (a44, v44) := told_of (n := 1000000) (by kernel_rfl)
def a45 : List AV := [(.agg [(.lst [(.agg [.nils, (.lst [(.int .i64 127)])])]), (.int .i64 0), .nils, .nils, (.bool false)]), (.agg [.nils, (.lst [(.int .i64 127)]), (.lst [(.int .i64 127), (.int .i64 127), (.int .i64 127)]), (.lst [(.agg [.nils, (.lst [(.agg [(.int .i64 258), (.int .u64 0), .nils, .nils]), (.agg [(.int .i64 256), (.int .u64 2), .nils, (.lst [(.int .i64 0)])]), (.agg [(.int .i64 256), (.int .u64 3), .nils, (.lst [(.int .i64 1)])]), (.agg [(.int .i64 256), (.int .u64 5), .nils, (.lst [(.int .i64 2)])])]), (.int .i64 4), (.int .i64 0), .nils, (.lst [(.int .i64 2)])])])])]
def v45 : AV := (.tup [(.agg [.nils, (.lst [(.int .i64 127)]), (.lst [(.int .i64 127), (.int .i64 127), (.int .i64 127)]), (.lst [(.agg [.nils, (.lst [(.agg [(.int .i64 258), (.int .u64 0), .nils, .nils]), (.agg [(.int .i64 256), (.int .u64 2), .nils, (.lst [(.int .i64 0)])]), (.agg [(.int .i64 256), (.int .u64 3), .nils, (.lst [(.int .i64 1)])]), (.agg [(.int .i64 256), (.int .u64 5), .nils, (.lst [(.int .i64 2)])])]), (.int .i64 4), (.int .i64 0), .nils, (.lst [(.int .i64 2)])])])]), (.int .i64 0)])
set_option maxRecDepth 100000 in
theorem told45 : ToldAs (pures env [45]) 45 (a45, v45) := told_of (n := 1000000) (by kernel_rfl)
def a46 : List AV := [(.agg [(.lst [(.agg [.nils, (.lst [(.int .i64 127)])])]), (.int .i64 0), .nils, .nils, (.bool false)]), (.agg [.nils, (.lst [(.int .i64 127)]), (.lst [(.int .i64 127), (.int .i64 127), (.int .i64 127)]), (.lst [(.agg [.nils, (.lst [(.agg [(.int .i64 258), (.int .u64 0), .nils, .nils]), (.agg [(.int .i64 256), (.int .u64 2), .nils, (.lst [(.int .i64 0)])]), (.agg [(.int .i64 256), (.int .u64 3), .nils, (.lst [(.int .i64 1)])]), (.agg [(.int .i64 256), (.int .u64 5), .nils, (.lst [(.int .i64 2)])])]), (.int .i64 4), (.int .i64 0), .nils, (.lst [(.int .i64 2)])])])])]
def v46 : AV := (.tup [(.agg [.nils, (.lst [(.int .i64 127)]), (.lst [(.int .i64 127), (.int .i64 127), (.int .i64 127)]), (.lst [(.agg [.nils, (.lst [(.agg [(.int .i64 258), (.int .u64 0), .nils, .nils]), (.agg [(.int .i64 256), (.int .u64 2), .nils, (.lst [(.int .i64 0)])]), (.agg [(.int .i64 256), (.int .u64 3), .nils, (.lst [(.int .i64 1)])]), (.agg [(.int .i64 256), (.int .u64 5), .nils, (.lst [(.int .i64 2)])])]), (.int .i64 4), (.int .i64 0), .nils, (.lst [(.int .i64 2)])])])]), (.int .i64 0)])
set_option maxRecDepth 100000 in
theorem told46 : ToldAs (pures env [46]) 46 (a46, v46) := told_of (n := 1000000) (by kernel_rfl)
def a47 : List AV := [(.agg [(.lst [(.agg [.nils, (.lst [(.int .i64 127)])])]), (.int .i64 0), .nils, .nils, (.bool false)]), (.agg [.nils, (.lst [(.int .i64 127)]), (.lst [(.int .i64 127), (.int .i64 127), (.int .i64 127)]), (.lst [(.agg [.nils, (.lst [(.agg [(.int .i64 258), (.int .u64 0), .nils, .nils]), (.agg [(.int .i64 256), (.int .u64 2), .nils, (.lst [(.int .i64 0)])]), (.agg [(.int .i64 256), (.int .u64 3), .nils, (.lst [(.int .i64 1)])]), (.agg [(.int .i64 256), (.int .u64 5), .nils, (.lst [(.int .i64 2)])])]), (.int .i64 4), (.int .i64 0), .nils, (.lst [(.int .i64 2)])])])])]
def v47 : AV := (.tup [(.agg [.nils, (.lst [(.int .i64 127)]), (.lst [(.int .i64 127), (.int .i64 127), (.int .i64 127)]), (.lst [(.agg [.nils, (.lst [(.agg [(.int .i64 258), (.int .u64 0), .nils, .nils]), (.agg [(.int .i64 256), (.int .u64 2), .nils, (.lst [(.int .i64 0)])]), (.agg [(.int .i64 256), (.int .u64 3), .nils, (.lst [(.int .i64 1)])]), (.agg [(.int .i64 256), (.int .u64 5), .nils, (.lst [(.int .i64 2)])])]), (.int .i64 4), (.int .i64 0), .nils, (.lst [(.int .i64 2)])])])]), (.int .i64 0)])
set_option maxRecDepth 100000 in
theorem told47 : ToldAs (pures env [47]) 47 (a47, v47) := told_of (n := 1000000) (by kernel_rfl)
def a48 : List AV := [(.agg [(.lst [(.agg [.nils, (.lst [(.int .i64 127)])])]), (.int .i64 0), .nils, .nils, (.bool false)]), (.agg [.nils, (.lst [(.int .i64 127)]), (.lst [(.int .i64 127), (.int .i64 127), (.int .i64 127)]), (.lst [(.agg [.nils, (.lst [(.agg [(.int .i64 258), (.int .u64 0), .nils, .nils]), (.agg [(.int .i64 256), (.int .u64 2), .nils, (.lst [(.int .i64 0)])]), (.agg [(.int .i64 256), (.int .u64 3), .nils, (.lst [(.int .i64 1)])]), (.agg [(.int .i64 256), (.int .u64 5), .nils, (.lst [(.int .i64 2)])])]), (.int .i64 4), (.int .i64 0), .nils, (.lst [(.int .i64 2)])])])])]
def v48 : AV := (.tup [(.agg [.nils, (.lst [(.int .i64 127)]), (.lst [(.int .i64 127), (.int .i64 127), (.int .i64 127)]), (.lst [(.agg [.nils, (.lst [(.agg [(.int .i64 258), (.int .u64 0), .nils, .nils]), (.agg [(.int .i64 256), (.int .u64 5), .nils, (.lst [(.int .i64 2)])])]), (.int .i64 4), (.int .i64 0), .nils, (.lst [(.int .i64 2)])])])]), (.int .i64 0)])
set_option maxRecDepth 100000 in
theorem told48 : ToldAs (pures env [48]) 48 (a48, v48) := told_of (n := 1000000) (by kernel_rfl)
def env1 : Env := tell env [(44, saidL [(a44, v44)]), (45, saidL [(a45, v45)]), (46, saidL [(a46, v46)]), (47, saidL [(a47, v47)]), (48, saidL [(a48, v48)])]
theorem envOk1 : EnvOk Tryz.prog env1 := by
  refine envOk_tell envOk ?_
  intro p hp
  simp only [List.mem_cons, List.not_mem_nil, or_false] at hp
  rcases hp with rfl | rfl | rfl | rfl | rfl
  · exact ⟨by kernel_rfl, said_list (E := pures env [44]) (envOk_pures envOk) fun p hp => by simp only [List.mem_cons, List.not_mem_nil, or_false] at hp; subst hp; exact told44⟩
  · exact ⟨by kernel_rfl, said_list (E := pures env [45]) (envOk_pures envOk) fun p hp => by simp only [List.mem_cons, List.not_mem_nil, or_false] at hp; subst hp; exact told45⟩
  · exact ⟨by kernel_rfl, said_list (E := pures env [46]) (envOk_pures envOk) fun p hp => by simp only [List.mem_cons, List.not_mem_nil, or_false] at hp; subst hp; exact told46⟩
  · exact ⟨by kernel_rfl, said_list (E := pures env [47]) (envOk_pures envOk) fun p hp => by simp only [List.mem_cons, List.not_mem_nil, or_false] at hp; subst hp; exact told47⟩
  · exact ⟨by kernel_rfl, said_list (E := pures env [48]) (envOk_pures envOk) fun p hp => by simp only [List.mem_cons, List.not_mem_nil, or_false] at hp; subst hp; exact told48⟩
def env2 : Env := pures env1 [22, 26]
theorem envOk2 : EnvOk Tryz.prog env2 := envOk_pures envOk1
set_option maxRecDepth 100000 in
/-- THE PROBE, run by the kernel. -/
theorem probe : answers true (callF env2 1000000 0 12 [] ⟨.lf, 0⟩) = true := by kernel_rfl
def env' : Env := tell env [(12, truth)]
theorem envOk' : EnvOk Tryz.prog env' := by
  refine envOk_tell envOk ?_
  intro p hp
  simp only [List.mem_cons, List.not_mem_nil, or_false] at hp
  subst hp
  exact ⟨by kernel_rfl, said_truth (E := env2) envOk2 probe⟩
set_option maxRecDepth 100000 in
/-- THE LAW over the mask's lowest five bits, run by the kernel. -/
theorem masks : ((List.range 32).all fun m => answers true (callF env' 1000000 0 4 [.mint .i64 5 m] ⟨.lf, 0⟩)) = true := by kernel_rfl

end Go.Proofs.YtkakihmhmobgoaaGreatDoor.optNames
