/- What the functions of the two Checks answer, by steps through their code. -/
import Derived.Test.YtkalflplonnhmaaGreatDoorTabA
import Derived.KernelRfl
set_option linter.all false
/- LowerChecks, the document's side: kinds, signatures, environments, lists. -/
namespace Go.Ev.Lc
open Go.Ev.Tab
set_option maxRecDepth 100000
set_option linter.all false
abbrev K (i : Int) : AV := .int .i64 i
abbrev s0 : St := ⟨.lf, 0⟩
abbrev ans (v : AV) : AV → St → Prop := fun u _ => u = v

/-! ### Data -/
structure Sig where
  inp : List Int
  out : List Int
structure Env' where
  sigs : List Sig
  imports : Int
  globals : List Int
  muts : List Bool
  mem : Bool
structure Code' where
  op : Int
  n : Nat
  args : List Int
  outs : List Int
  to : List Int
structure Row where
  sig : Sig
  places : Int
  params : List Int
  code : List Code'
structure Rows where
  env : Env'
  fns : List Row
abbrev bools (l : List Bool) : AV := .lst (l.map fun b => .bool b)
abbrev encSig (s : Sig) : AV := .agg [ints s.inp, ints s.out]
abbrev sigs (l : List Sig) : AV := .lst (l.map encSig)
abbrev encEnv (e : Env') : AV := .agg [sigs e.sigs, K e.imports, ints e.globals, bools e.muts, .bool e.mem]
abbrev encCode (c : Code') : AV := .agg [K c.op, .int .u64 (c.n : Int), ints c.args, ints c.outs, ints c.to]
abbrev codes (l : List Code') : AV := .lst (l.map encCode)
abbrev encRow (r : Row) : AV := .agg [ints r.sig.inp, ints r.sig.out, K r.places, ints r.params, codes r.code]
abbrev rows (l : List Row) : AV := .lst (l.map encRow)

/-! ### Lists short enough -/
def short {α : Type} (l : List α) : Bool := decide (l.length < 9223372036854775808)
theorem short_lt {α : Type} {l : List α} (h : short l = true) : l.length < 9223372036854775808 := of_decide_eq_true h
theorem wrap_succ {α : Type} {l : List α} (h : short l = true) {k : Nat} (hk : k < l.length) : IntKind.i64.wrap ((k : Int) + 1) = ((k + 1 : Nat) : Int) := by
  have := short_lt h
  rw [IntKind.wrap_i64]; omega
theorem get_ex {α : Type} {l : List α} {k : Nat} (h : k < l.length) : ∃ y, l[k]? = some y ∧ l.drop k = y :: l.drop (k + 1) :=
  ⟨l[k], by simp [h], List.drop_eq_getElem_cons h⟩
theorem map_get {α β : Type} {f : α → β} {l : List α} {i : Nat} {x : α} (h : l[i]? = some x) : (l.map f)[i]? = some (f x) := by simp [h]
theorem lt_t {α : Type} {l : List α} {k : Nat} (h : k < l.length) : decide ((k : Int) < (l.length : Int)) = true := by simp; omega
theorem lt_f {α : Type} {l : List α} {k : Nat} (h : l.length ≤ k) : decide ((k : Int) < (l.length : Int)) = false := by simp; omega

/-! ### Reading values back -/
def unInts : List AV → Option (List Int)
  | [] => some []
  | .int .i64 n :: r => (unInts r).map (n :: ·)
  | _ => none
theorem unInts_map : ∀ l : List Int, unInts (l.map fun n => .int .i64 n) = some l
  | [] => rfl
  | n :: l => by simp [unInts, unInts_map l]
theorem unInts_some : ∀ {es : List AV} {l : List Int}, unInts es = some l → es = l.map fun n => .int .i64 n
  | [], l, h => by simp [unInts] at h; subst h; rfl
  | e :: r, l, h => by
    unfold unInts at h
    split at h
    · rename_i heq; simp at heq
    · rename_i n r' heq
      simp only [List.cons.injEq] at heq
      obtain ⟨rfl, rfl⟩ := heq
      simp only [Option.map_eq_some_iff] at h
      obtain ⟨l', h1, rfl⟩ := h
      rw [unInts_some h1]; rfl
    · simp at h

/-! ### kind, kinds -/
def kindB (n : Int) : Bool := n == 127 || n == 126
theorem t83 (E : Env) (h : E.fns 83 = some e83) (n : Int) : AnsK E 0 83 [K n] s0 (ans (.bool (kindB n))) := by
  refine fn_run h rfl rfl (plOf_args0 ..) ?_
  simp only [argPl, e83]
  repeat' (first
  | with_reducible refine Red.go ?_
  | ((with_reducible apply blkK_pass); rfl)
  | ((with_reducible first | apply wpOps_dry | apply wpOps_wet | apply wpOps_wet0); (simp only [evDryF, evWetF, St.new, Nat.reduceAdd, Nat.zero_add, Nat.add_zero, Eo.evF, upd_ap, reduceIte, Nat.reduceEqDiff, Bool.false_eq_true, Bool.not_true, Bool.not_false, flat, *]; rfl))
  | ((with_reducible apply wpOps_undef)
     · simp only [upd_ap, reduceIte, Nat.reduceEqDiff]; done)
  | ((with_reducible first | apply wpOps_test | apply wp_test); (simp only [Eo.evF, upd_ap, reduceIte, Nat.reduceEqDiff, Bool.false_eq_true, Bool.not_true, Bool.not_false, flat, *]; rfl))
  | (with_reducible apply testK_mk
     all_goals (intro hb; try simp only [Bool.not_true, Bool.not_false, Bool.not_eq_true', Bool.not_eq_false'] at hb)))
  all_goals
    refine fnK_one ?_
    simp [ans, tupled, kindB, upd_ap, *]
def q83 : List AV → Option AV
  | [.int .i64 n] => some (.bool (kindB n))
  | _ => none
theorem q83_eq (n : Int) : q83 [.int .i64 n] = some (.bool (kindB n)) := rfl

def kindsB (l : List Int) (n : Int) : Bool := !decide ((l.length : Int) > n) && l.all kindB
def body58 := match e58.body with
  | .seq _ (.seq _ (.seq (.seq _ (.block _ (.loop b))) _)) => b
  | _ => .skip
theorem loop58 (E : Env) (h83 : ToldBy E 83 q83) (l : List Int) (hl : short l = true) (s : St) (Q : Post) : ∀ m k (g : Pl), k + m = l.length →
      ((l.drop k).all kindB = true → ∀ env, Q (.exit 0) env s) → ((l.drop k).all kindB = false → ∀ env, env 4 = .bool false → Q .ret env s) →
      RunT E 0 (.loop body58) (upd (upd g 0 (ints l)) 5 (K k)) s Q := by
  intro m
  induction m with
  | zero =>
    intro k g hk h1 h2
    have hki := lt_f (l := l) (k := k) (by omega)
    refine lp ?_
    simp only [body58, e58]
    repeat' (first
    | with_reducible refine Red.go ?_
    | ((with_reducible apply blkK_pass); rfl)
    | ((with_reducible first | apply wpOps_dry | apply wpOps_wet | apply wpOps_wet0); (simp only [evDryF, evWetF, St.new, Nat.reduceAdd, Nat.zero_add, Nat.add_zero, Eo.evF, upd_ap, reduceIte, Nat.reduceEqDiff, Bool.false_eq_true, Bool.not_true, Bool.not_false, flat, binAV, binInt, gint, List.length_map, *]; rfl))
    | ((with_reducible apply wpOps_undef)
       · simp only [upd_ap, reduceIte, Nat.reduceEqDiff]; done)
    | ((with_reducible first | apply wpOps_test | apply wp_test); (simp only [Eo.evF, upd_ap, reduceIte, Nat.reduceEqDiff, Bool.false_eq_true, Bool.not_true, Bool.not_false, flat, binAV, binInt, gint, List.length_map, *]; rfl))
    | (with_reducible apply testK_mk
       all_goals (intro hb; try simp only [Bool.not_true, Bool.not_false, Bool.not_eq_true', Bool.not_eq_false'] at hb)))
    exact h1 (by rw [List.drop_eq_nil_of_le (by omega)]; rfl) _
  | succ m ih =>
    intro k g hk h1 h2
    have hkl : k < l.length := by omega
    have hki := lt_t hkl
    obtain ⟨y, hy, hd⟩ := get_ex hkl
    have hy' := map_get (f := fun n => AV.int .i64 n) hy
    rw [hd, List.all_cons] at h1 h2
    refine lp ?_
    simp only [body58, e58]
    have ih := ih
    repeat' (first
    | with_reducible refine Red.go ?_
    | ((with_reducible apply blkK_pass); rfl)
    | ((with_reducible first | apply wpOps_dry | apply wpOps_wet | apply wpOps_wet0); (simp only [evDryF, evWetF, St.new, Nat.reduceAdd, Nat.zero_add, Nat.add_zero, Eo.evF, upd_ap, reduceIte, Nat.reduceEqDiff, Bool.false_eq_true, Bool.not_true, Bool.not_false, flat, binAV, binInt, gint, List.length_map, natOf_cast, *]; rfl))
    | ((with_reducible apply wpOps_undef)
       · simp only [upd_ap, reduceIte, Nat.reduceEqDiff]; done)
    | ((with_reducible apply wpOps_told); assumption; (simp only [evsF, List.map_cons, List.map_nil, Eo.evF, upd_ap, reduceIte, Nat.reduceEqDiff, Bool.false_eq_true, Bool.not_true, Bool.not_false, flat, binAV, binInt, gint, List.length_map, natOf_cast, *]; rfl); first | (simp only [q83_eq]; rfl) | assumption)
    | ((with_reducible first | apply wpOps_test | apply wp_test); (simp only [Eo.evF, upd_ap, reduceIte, Nat.reduceEqDiff, Bool.false_eq_true, Bool.not_true, Bool.not_false, flat, binAV, binInt, gint, List.length_map, natOf_cast, *]; rfl))
    | (with_reducible apply testK_mk
       all_goals (intro hb; try simp only [Bool.not_true, Bool.not_false, Bool.not_eq_true', Bool.not_eq_false'] at hb)))
    · rename_i hb
      exact h2 (by rw [hb]; rfl) _ rfl
    · rename_i hb
      refine lpK_nrm ?_
      rw [hb, Bool.true_and] at h1 h2
      exact rebase (L := [(0, ints l), (5, K (k + 1 : Nat))]) ⟨rfl, congrArg (AV.int .i64) (wrap_succ hl hkl), trivial⟩ (ih (k + 1) _ (by omega) h1 h2)
theorem t58 (E : Env) (h : E.fns 58 = some e58) (h83 : ToldBy E 83 q83) (l : List Int) (hl : short l = true) (n : Int) : AnsK E 0 58 [ints l, K n] s0 (ans (.bool (kindsB l n))) := by
  refine fn_run h rfl rfl (plOf_args0 ..) ?_
  simp only [argPl, e58]
  repeat' (first
  | with_reducible refine Red.go ?_
  | ((with_reducible apply blkK_pass); rfl)
  | ((with_reducible first | apply wpOps_dry | apply wpOps_wet | apply wpOps_wet0); (simp only [evDryF, evWetF, St.new, Nat.reduceAdd, Nat.zero_add, Nat.add_zero, Eo.evF, upd_ap, reduceIte, Nat.reduceEqDiff, Bool.false_eq_true, Bool.not_true, Bool.not_false, flat, binAV, binInt, gint, List.length_map, *]; rfl))
  | ((with_reducible apply wpOps_undef)
     · simp only [upd_ap, reduceIte, Nat.reduceEqDiff]; done)
  | ((with_reducible first | apply wpOps_test | apply wp_test); (simp only [Eo.evF, upd_ap, reduceIte, Nat.reduceEqDiff, Bool.false_eq_true, Bool.not_true, Bool.not_false, flat, binAV, binInt, gint, List.length_map, *]; rfl))
  | (with_reducible apply testK_mk
     all_goals (intro hb; try simp only [Bool.not_true, Bool.not_false, Bool.not_eq_true', Bool.not_eq_false'] at hb)))
  · refine fnK_one ?_
    simp only [ans, tupled, kindsB, hb]; rfl
  · refine wp_loop (rebase (L := [(0, ints l), (5, K (0 : Nat))]) ⟨rfl, rfl, trivial⟩ (loop58 E h83 l hl _ _ l.length 0 _ (by omega) (fun ha env => ?_) (fun ha env h4 => ?_)))
    · repeat' (first
      | with_reducible refine Red.go ?_
      | ((with_reducible apply blkK_pass); rfl)
      | ((with_reducible first | apply wpOps_dry | apply wpOps_wet | apply wpOps_wet0); (simp only [evDryF, evWetF, St.new, Nat.reduceAdd, Nat.zero_add, Nat.add_zero, Eo.evF, upd_ap, reduceIte, Nat.reduceEqDiff, Bool.false_eq_true, Bool.not_true, Bool.not_false, flat, *]; rfl))
      | ((with_reducible apply wpOps_undef)
         · simp only [upd_ap, reduceIte, Nat.reduceEqDiff]; done)
      | ((with_reducible first | apply wpOps_test | apply wp_test); (simp only [Eo.evF, upd_ap, reduceIte, Nat.reduceEqDiff, Bool.false_eq_true, Bool.not_true, Bool.not_false, flat, *]; rfl))
      | (with_reducible apply testK_mk
         all_goals (intro hb; try simp only [Bool.not_true, Bool.not_false, Bool.not_eq_true', Bool.not_eq_false'] at hb)))
      refine fnK_one ?_
      rw [List.drop_zero] at ha
      simp only [ans, tupled, kindsB, hb, ha]; rfl
    · repeat' (first
      | with_reducible refine Red.go ?_
      | ((with_reducible apply blkK_pass); rfl)
      | ((with_reducible first | apply wpOps_dry | apply wpOps_wet | apply wpOps_wet0); (simp only [evDryF, evWetF, St.new, Nat.reduceAdd, Nat.zero_add, Nat.add_zero, Eo.evF, upd_ap, reduceIte, Nat.reduceEqDiff, Bool.false_eq_true, Bool.not_true, Bool.not_false, flat, *]; rfl))
      | ((with_reducible apply wpOps_undef)
         · simp only [upd_ap, reduceIte, Nat.reduceEqDiff]; done)
      | ((with_reducible first | apply wpOps_test | apply wp_test); (simp only [Eo.evF, upd_ap, reduceIte, Nat.reduceEqDiff, Bool.false_eq_true, Bool.not_true, Bool.not_false, flat, *]; rfl))
      | (with_reducible apply testK_mk
         all_goals (intro hb; try simp only [Bool.not_true, Bool.not_false, Bool.not_eq_true', Bool.not_eq_false'] at hb)))
      refine fnK_one ?_
      rw [List.drop_zero] at ha
      simp only [ans, tupled, kindsB, hb, ha, h4]; rfl
def q58 : List AV → Option AV
  | [.lst es, .int .i64 n] => match unInts es with | some l => (match short l with | true => some (.bool (kindsB l n)) | false => none) | none => none
  | _ => none
theorem q58_eq {l : List Int} (h : short l = true) (n : Int) : q58 [ints l, .int .i64 n] = some (.bool (kindsB l n)) := by simp only [q58, unInts_map, h]

/-! ### signatures -/
def sigB (s : Sig) : Bool := kindsB s.inp 8 && kindsB s.out 8
def sigShort (s : Sig) : Bool := short s.inp && short s.out
theorem t59 (E : Env) (h : E.fns 59 = some e59) (h58 : ToldBy E 58 q58) (x : Sig) (hl1 : short x.inp = true) (hl2 : short x.out = true) : AnsK E 0 59 [encSig x] s0 (ans (.bool (sigB x))) := by
  refine fn_run h rfl rfl (plOf_args0 ..) ?_
  simp only [argPl, e59]
  repeat' (first
  | with_reducible refine Red.go ?_
  | ((with_reducible apply blkK_pass); rfl)
  | ((with_reducible first | apply wpOps_dry | apply wpOps_wet | apply wpOps_wet0); (simp only [evDryF, evWetF, St.new, Nat.reduceAdd, Nat.zero_add, Nat.add_zero, Eo.evF, upd_ap, reduceIte, Nat.reduceEqDiff, Bool.false_eq_true, Bool.not_true, Bool.not_false, flat, *]; rfl))
  | ((with_reducible apply wpOps_undef)
     · simp only [upd_ap, reduceIte, Nat.reduceEqDiff]; done)
  | ((with_reducible apply wpOps_told); assumption; (simp only [evsF, List.map_cons, List.map_nil, Eo.evF, upd_ap, reduceIte, Nat.reduceEqDiff, Bool.false_eq_true, Bool.not_true, Bool.not_false, flat, *]; rfl); first | (simp only [q58_eq, *]; rfl) | assumption)
  | ((with_reducible first | apply wpOps_test | apply wp_test); (simp only [Eo.evF, upd_ap, reduceIte, Nat.reduceEqDiff, Bool.false_eq_true, Bool.not_true, Bool.not_false, flat, *]; rfl))
  | (with_reducible apply testK_mk
     all_goals (intro hb; try simp only [Bool.not_true, Bool.not_false, Bool.not_eq_true', Bool.not_eq_false'] at hb)))
  all_goals
    refine fnK_one ?_
    simp [ans, tupled, sigB, upd_ap, *]
end Go.Ev.Lc
/- LowerChecks, the document's side: environments, equal lists, places. -/
namespace Go.Ev.Lc
open Go.Ev.Tab
set_option maxRecDepth 100000
set_option linter.all false

def unList {α : Type} (f : AV → Option α) : List AV → Option (List α)
  | [] => some []
  | e :: r => match f e, unList f r with | some x, some l => some (x :: l) | _, _ => none
theorem unList_map {α : Type} {f : AV → Option α} {g : α → AV} (h : ∀ x, f (g x) = some x) : ∀ l : List α, unList f (l.map g) = some l
  | [] => rfl
  | n :: l => by simp [unList, h, unList_map h l]
theorem unList_some {α : Type} {f : AV → Option α} {g : α → AV} (h : ∀ e x, f e = some x → e = g x) : ∀ {es : List AV} {l : List α}, unList f es = some l → es = l.map g
  | [], l, hh => by simp [unList] at hh; subst hh; rfl
  | e :: r, l, hh => by
    unfold unList at hh
    split at hh
    · rename_i x l' h1 h2
      simp only [Option.some.injEq] at hh; subst hh
      rw [h e x h1, unList_some h h2]; rfl
    · simp at hh
def unBool : AV → Option Bool
  | .bool b => some b
  | _ => none
theorem unBool_enc (b : Bool) : unBool (.bool b) = some b := rfl
theorem unBool_some (e : AV) (b : Bool) (h : unBool e = some b) : e = .bool b := by cases e <;> simp [unBool] at h; subst h; rfl
def unSig : AV → Option Sig
  | .agg [.lst a, .lst b] => match unInts a, unInts b with | some i, some o => some ⟨i, o⟩ | _, _ => none
  | _ => none
theorem unSig_enc (s : Sig) : unSig (encSig s) = some s := by simp only [unSig, unInts_map]
theorem unSig_some (e : AV) (s : Sig) (h : unSig e = some s) : e = encSig s := by
  unfold unSig at h
  split at h
  · split at h
    · rename_i h1 h2
      simp only [Option.some.injEq] at h; subst h
      rw [unInts_some h1, unInts_some h2]
    · simp at h
  · simp at h

def q59 : List AV → Option AV
  | [x] => match unSig x with | some s => (match sigShort s with | true => some (.bool (sigB s)) | false => none) | none => none
  | _ => none
theorem q59_eq {s : Sig} (h : sigShort s = true) : q59 [encSig s] = some (.bool (sigB s)) := by
  have := unSig_enc s
  simp only [encSig] at this
  simp only [q59, this, h]

/-! ### environments -/
def envB (e : Env') : Bool := !decide ((e.sigs.length : Int) > 64) && !decide (e.imports < 0) && !decide (e.imports > e.sigs.length) && kindsB e.globals 32 && ((e.muts.length : Int) == e.globals.length) && e.sigs.all sigB
def envShort (e : Env') : Bool := short e.sigs && short e.globals && short e.muts && e.sigs.all sigShort
abbrev envCells (e : Env') : List AV := [sigs e.sigs, K e.imports, ints e.globals, bools e.muts, .bool e.mem]
abbrev sE (e : Env') : St := s0.new (.cells (envCells e) 5 1)
def body27 := match e27.body with
  | .seq _ (.seq _ (.seq (.seq _ (.block _ (.loop b))) _)) => b
  | _ => .skip
theorem loop27 (E : Env) (h59 : ToldBy E 59 q59) (e : Env') (hl : short e.sigs = true) (hs : e.sigs.all sigShort = true) (Q : Post) : ∀ m k (g : Pl), k + m = e.sigs.length →
      ((e.sigs.drop k).all sigB = true → ∀ env, Q (.exit 0) env (sE e)) → ((e.sigs.drop k).all sigB = false → ∀ env, env 2 = .bool false → Q .ret env (sE e)) →
      RunT E 0 (.loop body27) (upd (upd g 1 (.ptr 0 0)) 3 (K k)) (sE e) Q := by
  intro m
  induction m with
  | zero =>
    intro k g hk h1 h2
    have hki := lt_f (l := e.sigs) (k := k) (by omega)
    refine lp ?_
    simp only [body27, e27]
    repeat' (first
    | with_reducible refine Red.go ?_
    | ((with_reducible apply blkK_pass); rfl)
    | ((with_reducible first | apply wpOps_dry | apply wpOps_wet | apply wpOps_wet0); (simp only [evDryF, evWetF, St.new, Nat.reduceAdd, Nat.zero_add, Nat.add_zero, Eo.evF, upd_ap, reduceIte, Nat.reduceEqDiff, Bool.false_eq_true, Bool.not_true, Bool.not_false, flat, binAV, binInt, gint, List.length_map, *]; rfl))
    | ((with_reducible apply wpOps_undef)
       · simp only [upd_ap, reduceIte, Nat.reduceEqDiff]; done)
    | ((with_reducible first | apply wpOps_test | apply wp_test); (simp only [Eo.evF, upd_ap, reduceIte, Nat.reduceEqDiff, Bool.false_eq_true, Bool.not_true, Bool.not_false, flat, binAV, binInt, gint, List.length_map, *]; rfl))
    | (with_reducible apply testK_mk
       all_goals (intro hb; try simp only [Bool.not_true, Bool.not_false, Bool.not_eq_true', Bool.not_eq_false'] at hb)))
    exact h1 (by rw [List.drop_eq_nil_of_le (by omega)]; rfl) _
  | succ m ih =>
    intro k g hk h1 h2
    have hkl : k < e.sigs.length := by omega
    have hki := lt_t hkl
    obtain ⟨y, hy, hd⟩ := get_ex hkl
    have hy' := map_get (f := encSig) hy
    have hys : sigShort y = true := List.all_eq_true.1 hs y (List.mem_of_getElem? hy)
    rw [hd, List.all_cons] at h1 h2
    refine lp ?_
    simp only [body27, e27]
    repeat' (first
    | with_reducible refine Red.go ?_
    | ((with_reducible apply blkK_pass); rfl)
    | ((with_reducible first | apply wpOps_dry | apply wpOps_wet | apply wpOps_wet0); (simp only [evDryF, evWetF, St.new, Nat.reduceAdd, Nat.zero_add, Nat.add_zero, Eo.evF, upd_ap, reduceIte, Nat.reduceEqDiff, Bool.false_eq_true, Bool.not_true, Bool.not_false, flat, binAV, binInt, gint, List.length_map, natOf_cast, *]; rfl))
    | ((with_reducible apply wpOps_undef)
       · simp only [upd_ap, reduceIte, Nat.reduceEqDiff]; done)
    | ((with_reducible apply wpOps_told); assumption; (simp only [evsF, List.map_cons, List.map_nil, Eo.evF, upd_ap, reduceIte, Nat.reduceEqDiff, Bool.false_eq_true, Bool.not_true, Bool.not_false, flat, binAV, binInt, gint, List.length_map, natOf_cast, *]; rfl); first | (simp only [q59_eq hys]; rfl) | assumption)
    | ((with_reducible first | apply wpOps_test | apply wp_test); (simp only [Eo.evF, upd_ap, reduceIte, Nat.reduceEqDiff, Bool.false_eq_true, Bool.not_true, Bool.not_false, flat, binAV, binInt, gint, List.length_map, natOf_cast, *]; rfl))
    | (with_reducible apply testK_mk
       all_goals (intro hb; try simp only [Bool.not_true, Bool.not_false, Bool.not_eq_true', Bool.not_eq_false'] at hb)))
    · exact h2 (by rw [hb]; rfl) _ rfl
    · refine lpK_nrm ?_
      rw [hb, Bool.true_and] at h1 h2
      exact rebase (L := [(1, .ptr 0 0), (3, K (k + 1 : Nat))]) ⟨rfl, congrArg (AV.int .i64) (wrap_succ hl hkl), trivial⟩ (ih (k + 1) _ (by omega) h1 h2)
theorem envShort_and {e : Env'} (h : envShort e = true) : short e.sigs = true ∧ short e.globals = true ∧ short e.muts = true ∧ e.sigs.all sigShort = true := by
  simp only [envShort, Bool.and_eq_true] at h
  exact ⟨h.1.1.1, h.1.1.2, h.1.2, h.2⟩
theorem t27 (E : Env) (h : E.fns 27 = some e27) (h58 : ToldBy E 58 q58) (h59 : ToldBy E 59 q59) (e : Env') (hs : envShort e = true) : AnsK E 0 27 [encEnv e] s0 (ans (.bool (envB e))) := by
  obtain ⟨s1, s2, s3, s4⟩ := envShort_and hs
  refine fn_run h rfl rfl (plOf_args0 ..) ?_
  simp only [argPl, e27]
  repeat' (first
  | with_reducible refine Red.go ?_
  | ((with_reducible apply blkK_pass); rfl)
  | ((with_reducible first | apply wpOps_dry | apply wpOps_wet | apply wpOps_wet0); (simp only [evDryF, evWetF, St.new, Nat.reduceAdd, Nat.zero_add, Nat.add_zero, Eo.evF, upd_ap, reduceIte, Nat.reduceEqDiff, Bool.false_eq_true, Bool.not_true, Bool.not_false, flat, binAV, binInt, gint, List.length_map, *]; rfl))
  | ((with_reducible apply wpOps_undef)
     · simp only [upd_ap, reduceIte, Nat.reduceEqDiff]; done)
  | ((with_reducible apply wpOps_told); assumption; (simp only [evsF, List.map_cons, List.map_nil, Eo.evF, upd_ap, reduceIte, Nat.reduceEqDiff, Bool.false_eq_true, Bool.not_true, Bool.not_false, flat, binAV, binInt, gint, List.length_map, *]; rfl); first | (simp only [q58_eq, *]; rfl) | assumption)
  | ((with_reducible first | apply wpOps_test | apply wp_test); (simp only [Eo.evF, upd_ap, reduceIte, Nat.reduceEqDiff, Bool.false_eq_true, Bool.not_true, Bool.not_false, flat, binAV, binInt, gint, List.length_map, *]; rfl))
  | (with_reducible apply testK_mk
     all_goals (intro hb; try simp only [Bool.not_true, Bool.not_false, Bool.not_eq_true', Bool.not_eq_false'] at hb)))
  all_goals first
    | (refine fnK_one ?_
       simp [ans, tupled, envB, upd_ap, *]; done)
    | skip
  refine wp_loop (rebase (L := [(1, .ptr 0 0), (3, K (0 : Nat))]) ⟨rfl, rfl, trivial⟩ (loop27 E h59 e s1 s4 _ e.sigs.length 0 _ (by omega) (fun ha env => ?_) (fun ha env h4 => ?_)))
  · repeat' (first
    | with_reducible refine Red.go ?_
    | ((with_reducible apply blkK_pass); rfl)
    | ((with_reducible first | apply wpOps_dry | apply wpOps_wet | apply wpOps_wet0); (simp only [evDryF, evWetF, St.new, Nat.reduceAdd, Nat.zero_add, Nat.add_zero, Eo.evF, upd_ap, reduceIte, Nat.reduceEqDiff, Bool.false_eq_true, Bool.not_true, Bool.not_false, flat, *]; rfl))
    | ((with_reducible apply wpOps_undef)
       · simp only [upd_ap, reduceIte, Nat.reduceEqDiff]; done)
    | ((with_reducible first | apply wpOps_test | apply wp_test); (simp only [Eo.evF, upd_ap, reduceIte, Nat.reduceEqDiff, Bool.false_eq_true, Bool.not_true, Bool.not_false, flat, *]; rfl))
    | (with_reducible apply testK_mk
       all_goals (intro hb; try simp only [Bool.not_true, Bool.not_false, Bool.not_eq_true', Bool.not_eq_false'] at hb)))
    refine fnK_one ?_
    rw [List.drop_zero] at ha
    simp [ans, tupled, envB, upd_ap, *]
  · repeat' (first
    | with_reducible refine Red.go ?_
    | ((with_reducible apply blkK_pass); rfl)
    | ((with_reducible first | apply wpOps_dry | apply wpOps_wet | apply wpOps_wet0); (simp only [evDryF, evWetF, St.new, Nat.reduceAdd, Nat.zero_add, Nat.add_zero, Eo.evF, upd_ap, reduceIte, Nat.reduceEqDiff, Bool.false_eq_true, Bool.not_true, Bool.not_false, flat, *]; rfl))
    | ((with_reducible apply wpOps_undef)
       · simp only [upd_ap, reduceIte, Nat.reduceEqDiff]; done)
    | ((with_reducible first | apply wpOps_test | apply wp_test); (simp only [Eo.evF, upd_ap, reduceIte, Nat.reduceEqDiff, Bool.false_eq_true, Bool.not_true, Bool.not_false, flat, *]; rfl))
    | (with_reducible apply testK_mk
       all_goals (intro hb; try simp only [Bool.not_true, Bool.not_false, Bool.not_eq_true', Bool.not_eq_false'] at hb)))
    refine fnK_one ?_
    rw [List.drop_zero] at ha
    have he : e.sigs.all sigB = false := ha
    simp only [ans, tupled, envB, upd_ap, h4, he, Bool.and_false]
def unEnv : AV → Option Env'
  | .agg [.lst a, .int .i64 n, .lst b, .lst c, .bool m] => match unList unSig a, unInts b, unList unBool c with | some x, some y, some z => some ⟨x, n, y, z, m⟩ | _, _, _ => none
  | _ => none
theorem unEnv_enc (e : Env') : unEnv (encEnv e) = some e := by simp only [unEnv, unInts_map, unList_map (g := encSig) unSig_enc, unList_map (g := fun b => AV.bool b) unBool_enc]
theorem unEnv_some (v : AV) (e : Env') (h : unEnv v = some e) : v = encEnv e := by
  unfold unEnv at h
  split at h
  · split at h
    · rename_i h1 h2 h3
      simp only [Option.some.injEq] at h; subst h
      rw [unList_some unSig_some h1, unInts_some h2, unList_some (g := fun b => AV.bool b) unBool_some h3]
    · simp at h
  · simp at h
def q27 : List AV → Option AV
  | [x] => match unEnv x with | some e => (match envShort e with | true => some (.bool (envB e)) | false => none) | none => none
  | _ => none
theorem q27_eq {e : Env'} (h : envShort e = true) : q27 [encEnv e] = some (.bool (envB e)) := by
  have := unEnv_enc e
  simp only [encEnv] at this
  simp only [q27, this, h]

/-! ### equal lists, equal signatures -/
def body62 := match e62.body with
  | .seq _ (.seq _ (.seq (.seq _ (.block _ (.loop b))) _)) => b
  | _ => .skip
theorem loop62 (E : Env) (a b : List Int) (hab : a.length = b.length) (hl : short a = true) (s : St) (Q : Post) : ∀ m k (g : Pl), k + m = a.length →
      (a.drop k = b.drop k → ∀ env, Q (.exit 0) env s) → (a.drop k ≠ b.drop k → ∀ env, env 4 = .bool false → Q .ret env s) →
      RunT E 0 (.loop body62) (upd (upd (upd g 0 (ints a)) 1 (ints b)) 5 (K k)) s Q := by
  intro m
  induction m with
  | zero =>
    intro k g hk h1 h2
    have hki := lt_f (l := a) (k := k) (by omega)
    have hbk : a.drop k = b.drop k := by rw [List.drop_eq_nil_of_le (by omega), List.drop_eq_nil_of_le (by omega)]
    refine lp ?_
    simp only [body62, e62]
    clear hab
    have h1 := h1 hbk
    clear hbk
    repeat' (first
    | with_reducible refine Red.go ?_
    | with_reducible refine wp_draw ?_
    | ((with_reducible apply blkK_pass); rfl)
    | ((with_reducible first | apply wpOps_dry | apply wpOps_wet | apply wpOps_wet0 | apply wpDraw_dry); (simp only [evDryF, evWetF, St.new, Nat.reduceAdd, Nat.zero_add, Nat.add_zero, Eo.evF, upd_ap, reduceIte, Nat.reduceEqDiff, Bool.false_eq_true, Bool.not_true, Bool.not_false, flat, binAV, binInt, gint, List.length_map, *]; rfl))
    | ((with_reducible apply wpDraw_load); (simp only [Eo.evF, upd_ap, reduceIte, Nat.reduceEqDiff, Bool.false_eq_true, Bool.not_true, Bool.not_false, flat, binAV, binInt, gint, List.length_map, *]; rfl); rfl; rfl)
    | ((with_reducible first | apply wpOps_undef | apply wpDraw_undef)
       · simp only [upd_ap, reduceIte, Nat.reduceEqDiff]; done)
    | ((with_reducible first | apply wpOps_test | apply wp_test | apply draw_test); (simp only [Eo.evF, upd_ap, reduceIte, Nat.reduceEqDiff, Bool.false_eq_true, Bool.not_true, Bool.not_false, flat, binAV, binInt, gint, List.length_map, *]; rfl))
    | (with_reducible apply testK_mk
       all_goals (intro hb; try simp only [Bool.not_true, Bool.not_false, Bool.not_eq_true', Bool.not_eq_false'] at hb)))
    exact h1 _
  | succ m ih =>
    intro k g hk h1 h2
    have hkl : k < a.length := by omega
    have hki := lt_t hkl
    obtain ⟨x, hx, hd⟩ := get_ex hkl
    obtain ⟨y, hy, hd2⟩ := get_ex (l := b) (k := k) (by omega)
    have hx' := map_get (f := fun n => AV.int .i64 n) hx
    have hy' := map_get (f := fun n => AV.int .i64 n) hy
    rw [hd, hd2] at h1 h2
    refine lp ?_
    simp only [body62, e62]
    clear hab
    repeat' (first
    | with_reducible refine Red.go ?_
    | with_reducible refine wp_draw ?_
    | ((with_reducible apply blkK_pass); rfl)
    | ((with_reducible first | apply wpOps_dry | apply wpOps_wet | apply wpOps_wet0 | apply wpDraw_dry); (simp only [evDryF, evWetF, St.new, Nat.reduceAdd, Nat.zero_add, Nat.add_zero, Eo.evF, upd_ap, reduceIte, Nat.reduceEqDiff, Bool.false_eq_true, Bool.not_true, Bool.not_false, flat, binAV, binInt, gint, List.length_map, natOf_cast, *]; rfl))
    | ((with_reducible apply wpDraw_load); (simp only [Eo.evF, upd_ap, reduceIte, Nat.reduceEqDiff, Bool.false_eq_true, Bool.not_true, Bool.not_false, flat, binAV, binInt, gint, List.length_map, natOf_cast, *]; rfl); rfl; rfl)
    | ((with_reducible first | apply wpOps_undef | apply wpDraw_undef)
       · simp only [upd_ap, reduceIte, Nat.reduceEqDiff]; done)
    | ((with_reducible first | apply wpOps_test | apply wp_test | apply draw_test); (simp only [Eo.evF, upd_ap, reduceIte, Nat.reduceEqDiff, Bool.false_eq_true, Bool.not_true, Bool.not_false, flat, binAV, binInt, gint, List.length_map, natOf_cast, *]; rfl))
    | (with_reducible apply testK_mk
       all_goals (intro hb; try simp only [Bool.not_true, Bool.not_false, Bool.not_eq_true', Bool.not_eq_false'] at hb)))
    · exact h2 (fun h => by simp at h hb; exact hb h.1) _ rfl
    · refine lpK_nrm ?_
      have hxy : x = y := by simpa using hb
      refine rebase (L := [(0, ints a), (1, ints b), (5, K (k + 1 : Nat))]) ⟨rfl, rfl, congrArg (AV.int .i64) (wrap_succ hl hkl), trivial⟩ (ih (k + 1) _ (by omega) (fun h => h1 (by rw [hxy, h])) (fun h => h2 (fun h' => h (by simpa [hxy] using h'))))
theorem t62 (E : Env) (h : E.fns 62 = some e62) (a b : List Int) (ha : short a = true) : AnsK E 0 62 [ints a, ints b] s0 (ans (.bool (decide (a = b)))) := by
  refine fn_run h rfl rfl (plOf_args0 ..) ?_
  simp only [argPl, e62]
  repeat' (first
  | with_reducible refine Red.go ?_
  | with_reducible refine wp_draw ?_
  | ((with_reducible apply blkK_pass); rfl)
  | ((with_reducible first | apply wpOps_dry | apply wpOps_wet | apply wpOps_wet0 | apply wpDraw_dry); (simp only [evDryF, evWetF, St.new, Nat.reduceAdd, Nat.zero_add, Nat.add_zero, Eo.evF, upd_ap, reduceIte, Nat.reduceEqDiff, Bool.false_eq_true, Bool.not_true, Bool.not_false, flat, binAV, binInt, gint, List.length_map, *]; rfl))
  | ((with_reducible apply wpDraw_load); (simp only [Eo.evF, upd_ap, reduceIte, Nat.reduceEqDiff, Bool.false_eq_true, Bool.not_true, Bool.not_false, flat, binAV, binInt, gint, List.length_map, *]; rfl); rfl; rfl)
  | ((with_reducible first | apply wpOps_undef | apply wpDraw_undef)
     · simp only [upd_ap, reduceIte, Nat.reduceEqDiff]; done)
  | ((with_reducible first | apply wpOps_test | apply wp_test | apply draw_test); (simp only [Eo.evF, upd_ap, reduceIte, Nat.reduceEqDiff, Bool.false_eq_true, Bool.not_true, Bool.not_false, flat, binAV, binInt, gint, List.length_map, *]; rfl))
  | (with_reducible apply testK_mk
     all_goals (intro hb; try simp only [Bool.not_true, Bool.not_false, Bool.not_eq_true', Bool.not_eq_false'] at hb)))
  · refine fnK_one ?_
    have : a ≠ b := fun h => by rw [h] at hb; simp at hb
    simp only [ans, tupled, this, decide_false]; rfl
  · have hab : a.length = b.length := by have h' := hb; simp at h'; omega
    refine wp_loop (rebase (L := [(0, ints a), (1, ints b), (5, K (0 : Nat))]) ⟨rfl, rfl, rfl, trivial⟩ (loop62 E a b hab ha _ _ a.length 0 _ (by omega) (fun hh env => ?_) (fun hh env h4 => ?_)))
    · clear hab hb
      repeat' (first
      | with_reducible refine Red.go ?_
      | with_reducible refine wp_draw ?_
      | ((with_reducible apply blkK_pass); rfl)
      | ((with_reducible first | apply wpOps_dry | apply wpOps_wet | apply wpOps_wet0 | apply wpDraw_dry); (simp only [evDryF, evWetF, St.new, Nat.reduceAdd, Nat.zero_add, Nat.add_zero, Eo.evF, upd_ap, reduceIte, Nat.reduceEqDiff, Bool.false_eq_true, Bool.not_true, Bool.not_false, flat, *]; rfl))
      | ((with_reducible apply wpDraw_load); (simp only [Eo.evF, upd_ap, reduceIte, Nat.reduceEqDiff, Bool.false_eq_true, Bool.not_true, Bool.not_false, flat, *]; rfl); rfl; rfl)
      | ((with_reducible first | apply wpOps_undef | apply wpDraw_undef)
         · simp only [upd_ap, reduceIte, Nat.reduceEqDiff]; done)
      | ((with_reducible first | apply wpOps_test | apply wp_test | apply draw_test); (simp only [Eo.evF, upd_ap, reduceIte, Nat.reduceEqDiff, Bool.false_eq_true, Bool.not_true, Bool.not_false, flat, *]; rfl))
      | (with_reducible apply testK_mk
         all_goals (intro hb; try simp only [Bool.not_true, Bool.not_false, Bool.not_eq_true', Bool.not_eq_false'] at hb)))
      refine fnK_one ?_
      rw [List.drop_zero, List.drop_zero] at hh
      simp [ans, tupled, hh, upd_ap]
    · clear hab hb
      repeat' (first
      | with_reducible refine Red.go ?_
      | with_reducible refine wp_draw ?_
      | ((with_reducible apply blkK_pass); rfl)
      | ((with_reducible first | apply wpOps_dry | apply wpOps_wet | apply wpOps_wet0 | apply wpDraw_dry); (simp only [evDryF, evWetF, St.new, Nat.reduceAdd, Nat.zero_add, Nat.add_zero, Eo.evF, upd_ap, reduceIte, Nat.reduceEqDiff, Bool.false_eq_true, Bool.not_true, Bool.not_false, flat, *]; rfl))
      | ((with_reducible apply wpDraw_load); (simp only [Eo.evF, upd_ap, reduceIte, Nat.reduceEqDiff, Bool.false_eq_true, Bool.not_true, Bool.not_false, flat, *]; rfl); rfl; rfl)
      | ((with_reducible first | apply wpOps_undef | apply wpDraw_undef)
         · simp only [upd_ap, reduceIte, Nat.reduceEqDiff]; done)
      | ((with_reducible first | apply wpOps_test | apply wp_test | apply draw_test); (simp only [Eo.evF, upd_ap, reduceIte, Nat.reduceEqDiff, Bool.false_eq_true, Bool.not_true, Bool.not_false, flat, *]; rfl))
      | (with_reducible apply testK_mk
         all_goals (intro hb; try simp only [Bool.not_true, Bool.not_false, Bool.not_eq_true', Bool.not_eq_false'] at hb)))
      refine fnK_one ?_
      rw [List.drop_zero, List.drop_zero] at hh
      simp [ans, tupled, hh, upd_ap, h4]
def q62 : List AV → Option AV
  | [.lst x, .lst y] => match unInts x, unInts y with | some a, some b => (match short a with | true => some (.bool (decide (a = b))) | false => none) | _, _ => none
  | _ => none
theorem q62_eq {a b : List Int} (h : short a = true) : q62 [ints a, ints b] = some (.bool (decide (a = b))) := by simp only [q62, unInts_map, h]

def sameSigB (a b : Sig) : Bool := decide (a.inp = b.inp) && decide (a.out = b.out)
theorem t33 (E : Env) (h : E.fns 33 = some e33) (h62 : ToldBy E 62 q62) (a b : Sig) (hs1 : short a.inp = true) (hs2 : short a.out = true) : AnsK E 0 33 [encSig a, encSig b] s0 (ans (.bool (sameSigB a b))) := by
  refine fn_run h rfl rfl (plOf_args0 ..) ?_
  simp only [argPl, e33]
  repeat' (first
  | with_reducible refine Red.go ?_
  | ((with_reducible apply blkK_pass); rfl)
  | ((with_reducible first | apply wpOps_dry | apply wpOps_wet | apply wpOps_wet0); (simp only [evDryF, evWetF, St.new, Nat.reduceAdd, Nat.zero_add, Nat.add_zero, Eo.evF, upd_ap, reduceIte, Nat.reduceEqDiff, Bool.false_eq_true, Bool.not_true, Bool.not_false, flat, *]; rfl))
  | ((with_reducible apply wpOps_undef)
     · simp only [upd_ap, reduceIte, Nat.reduceEqDiff]; done)
  | ((with_reducible apply wpOps_told); assumption; (simp only [evsF, List.map_cons, List.map_nil, Eo.evF, upd_ap, reduceIte, Nat.reduceEqDiff, Bool.false_eq_true, Bool.not_true, Bool.not_false, flat, *]; rfl); first | (simp only [q62_eq, *]; rfl) | assumption)
  | ((with_reducible first | apply wpOps_test | apply wp_test); (simp only [Eo.evF, upd_ap, reduceIte, Nat.reduceEqDiff, Bool.false_eq_true, Bool.not_true, Bool.not_false, flat, *]; rfl))
  | (with_reducible apply testK_mk
     all_goals (intro hb; try simp only [Bool.not_true, Bool.not_false, Bool.not_eq_true', Bool.not_eq_false'] at hb)))
  all_goals
    refine fnK_one ?_
    simp [ans, tupled, sameSigB, upd_ap, *]
def q33 : List AV → Option AV
  | [x, y] => match unSig x, unSig y with | some a, some b => (match sigShort a with | true => some (.bool (sameSigB a b)) | false => none) | _, _ => none
  | _ => none
theorem q33_eq {a b : Sig} (h : sigShort a = true) : q33 [encSig a, encSig b] = some (.bool (sameSigB a b)) := by
  have h1 := unSig_enc a
  have h2 := unSig_enc b
  simp only [encSig] at h1 h2
  simp only [q33, h1, h2, h]

/-! ### Goes, Fits -/
def goesB (op : Int) : Bool := decide (op ≥ 273) && decide (op ≤ 277)
theorem t30 (E : Env) (h : E.fns 30 = some e30) (op : Int) : AnsK E 0 30 [K op] s0 (ans (.bool (goesB op))) := by
  refine fn_run h rfl rfl (plOf_args0 ..) ?_
  simp only [argPl, e30]
  repeat' (first
  | with_reducible refine Red.go ?_
  | ((with_reducible apply blkK_pass); rfl)
  | ((with_reducible first | apply wpOps_dry | apply wpOps_wet | apply wpOps_wet0); (simp only [evDryF, evWetF, St.new, Nat.reduceAdd, Nat.zero_add, Nat.add_zero, Eo.evF, upd_ap, reduceIte, Nat.reduceEqDiff, Bool.false_eq_true, Bool.not_true, Bool.not_false, flat, binAV, binInt, *]; rfl))
  | ((with_reducible apply wpOps_undef)
     · simp only [upd_ap, reduceIte, Nat.reduceEqDiff]; done)
  | ((with_reducible first | apply wpOps_test | apply wp_test); (simp only [Eo.evF, upd_ap, reduceIte, Nat.reduceEqDiff, Bool.false_eq_true, Bool.not_true, Bool.not_false, flat, binAV, binInt, *]; rfl))
  | (with_reducible apply testK_mk
     all_goals (intro hb; try simp only [Bool.not_true, Bool.not_false, Bool.not_eq_true', Bool.not_eq_false'] at hb)))
  all_goals
    refine fnK_one ?_
    simp [ans, tupled, goesB, upd_ap, *]
def q30 : List AV → Option AV
  | [.int .i64 n] => some (.bool (goesB n))
  | _ => none
theorem q30_eq (n : Int) : q30 [.int .i64 n] = some (.bool (goesB n)) := rfl
def fitsB (t n : Int) : Bool := t == 126 || (t == 127 && decide (n < 4294967296))
theorem t91 (E : Env) (h : E.fns 91 = some e91) (t n : Int) : AnsK E 0 91 [K t, .int .u64 n] s0 (ans (.bool (fitsB t n))) := by
  refine fn_run h rfl rfl (plOf_args0 ..) ?_
  simp only [argPl, e91]
  repeat' (first
  | with_reducible refine Red.go ?_
  | ((with_reducible apply blkK_pass); rfl)
  | ((with_reducible first | apply wpOps_dry | apply wpOps_wet | apply wpOps_wet0); (simp only [evDryF, evWetF, St.new, Nat.reduceAdd, Nat.zero_add, Nat.add_zero, Eo.evF, upd_ap, reduceIte, Nat.reduceEqDiff, Bool.false_eq_true, Bool.not_true, Bool.not_false, flat, binAV, binInt, *]; rfl))
  | ((with_reducible apply wpOps_undef)
     · simp only [upd_ap, reduceIte, Nat.reduceEqDiff]; done)
  | ((with_reducible first | apply wpOps_test | apply wp_test); (simp only [Eo.evF, upd_ap, reduceIte, Nat.reduceEqDiff, Bool.false_eq_true, Bool.not_true, Bool.not_false, flat, binAV, binInt, *]; rfl))
  | (with_reducible apply testK_mk
     all_goals (intro hb; try simp only [Bool.not_true, Bool.not_false, Bool.not_eq_true', Bool.not_eq_false'] at hb)))
  all_goals
    refine fnK_one ?_
    simp [ans, tupled, fitsB, upd_ap, *]
def q91 : List AV → Option AV
  | [.int .i64 t, .int .u64 n] => some (.bool (fitsB t n))
  | _ => none
theorem q91_eq (t n : Int) : q91 [.int .i64 t, .int .u64 n] = some (.bool (fitsB t n)) := rfl

/-! ### places -/
def inside (n x : Int) : Bool := !(decide (x < 0) || decide (x ≥ n))
def body28 := match e28.body with
  | .seq _ (.seq (.seq _ (.block _ (.loop b))) _) => b
  | _ => .skip
def inner28 := match body28 with
  | .seq _ (.seq (.block _ (.seq _ (.seq _ (.block _ (.loop b))))) _) => b
  | _ => .skip
theorem inner_loop (E : Env) (l : List Int) (hl : short l = true) (n : Int) (u : Bool) (i : Nat) (x : Int) (hx : l[i]? = some x) (s : St) (Q : Post) :
    ∀ m k (g : Pl), k + m = i → ((u = true → ∀ j, k ≤ j → j < i → l[j]? ≠ some x) → ∀ env, env 0 = ints l → env 1 = K n → env 2 = .bool u → env 7 = K i → Q (.exit 2) env s) →
      (u = true → ∀ j, k ≤ j → j < i → l[j]? = some x → ∀ env, env 6 = .bool false → Q .ret env s) →
      RunT E 0 (.loop inner28) (upd (upd (upd (upd (upd g 0 (ints l)) 1 (K n)) 2 (.bool u)) 7 (K i)) 8 (K k)) s Q := by
  have hil : i < l.length := by
    rcases Nat.lt_or_ge i l.length with h | h
    · exact h
    · rw [List.getElem?_eq_none h] at hx; simp at hx
  have hx' := map_get (f := fun n => AV.int .i64 n) hx
  intro m
  induction m with
  | zero =>
    intro k g hk h1 h2
    have hki : decide ((k : Int) < (i : Int)) = false := by simp; omega
    refine lp ?_
    simp only [inner28, body28, e28]
    clear hx
    have h1 := h1 (fun _ j hj hj2 => by omega)
    repeat' (first
    | with_reducible refine Red.go ?_
    | with_reducible refine wp_draw ?_
    | ((with_reducible apply blkK_pass); rfl)
    | ((with_reducible first | apply wpOps_dry | apply wpOps_wet | apply wpOps_wet0 | apply wpDraw_dry); (simp only [evDryF, evWetF, St.new, Nat.reduceAdd, Nat.zero_add, Nat.add_zero, Eo.evF, upd_ap, reduceIte, Nat.reduceEqDiff, Bool.false_eq_true, Bool.not_true, Bool.not_false, flat, binAV, binInt, *]; rfl))
    | ((with_reducible apply wpDraw_load); (simp only [Eo.evF, upd_ap, reduceIte, Nat.reduceEqDiff, Bool.false_eq_true, Bool.not_true, Bool.not_false, flat, binAV, binInt, *]; rfl); rfl; rfl)
    | ((with_reducible first | apply wpOps_undef | apply wpDraw_undef)
       · simp only [upd_ap, reduceIte, Nat.reduceEqDiff]; done)
    | ((with_reducible first | apply wpOps_test | apply wp_test | apply draw_test); (simp only [Eo.evF, upd_ap, reduceIte, Nat.reduceEqDiff, Bool.false_eq_true, Bool.not_true, Bool.not_false, flat, binAV, binInt, *]; rfl))
    | (with_reducible apply testK_mk
       all_goals (intro hb; try simp only [Bool.not_true, Bool.not_false, Bool.not_eq_true', Bool.not_eq_false'] at hb)))
    exact h1 _ rfl rfl rfl rfl
  | succ m ih =>
    intro k g hk h1 h2
    have hki : decide ((k : Int) < (i : Int)) = true := by simp; omega
    have hkl : k < l.length := by omega
    obtain ⟨y, hy, _⟩ := get_ex hkl
    have hy' := map_get (f := fun n => AV.int .i64 n) hy
    refine lp ?_
    simp only [inner28, body28, e28]
    cases u with
    | false =>
      repeat' (first
      | with_reducible refine Red.go ?_
      | with_reducible refine wp_draw ?_
      | ((with_reducible apply blkK_pass); rfl)
      | ((with_reducible first | apply wpOps_dry | apply wpOps_wet | apply wpOps_wet0 | apply wpDraw_dry); (simp only [evDryF, evWetF, St.new, Nat.reduceAdd, Nat.zero_add, Nat.add_zero, Eo.evF, upd_ap, reduceIte, Nat.reduceEqDiff, Bool.false_eq_true, Bool.not_true, Bool.not_false, flat, binAV, binInt, *]; rfl))
      | ((with_reducible apply wpDraw_load); (simp only [Eo.evF, upd_ap, reduceIte, Nat.reduceEqDiff, Bool.false_eq_true, Bool.not_true, Bool.not_false, flat, binAV, binInt, *]; rfl); rfl; rfl)
      | ((with_reducible first | apply wpOps_undef | apply wpDraw_undef)
         · simp only [upd_ap, reduceIte, Nat.reduceEqDiff]; done)
      | ((with_reducible first | apply wpOps_test | apply wp_test | apply draw_test); (simp only [Eo.evF, upd_ap, reduceIte, Nat.reduceEqDiff, Bool.false_eq_true, Bool.not_true, Bool.not_false, flat, binAV, binInt, *]; rfl))
      | (with_reducible apply testK_mk
         all_goals (intro hb; try simp only [Bool.not_true, Bool.not_false, Bool.not_eq_true', Bool.not_eq_false'] at hb)))
      exact h1 (fun h => by simp at h) _ rfl rfl rfl rfl
    | true =>
      repeat' (first
      | with_reducible refine Red.go ?_
      | with_reducible refine wp_draw ?_
      | ((with_reducible apply blkK_pass); rfl)
      | ((with_reducible first | apply wpOps_dry | apply wpOps_wet | apply wpOps_wet0 | apply wpDraw_dry); (simp only [evDryF, evWetF, St.new, Nat.reduceAdd, Nat.zero_add, Nat.add_zero, Eo.evF, upd_ap, reduceIte, Nat.reduceEqDiff, Bool.false_eq_true, Bool.not_true, Bool.not_false, flat, binAV, binInt, natOf_cast, *]; rfl))
      | ((with_reducible apply wpDraw_load); (simp only [Eo.evF, upd_ap, reduceIte, Nat.reduceEqDiff, Bool.false_eq_true, Bool.not_true, Bool.not_false, flat, binAV, binInt, natOf_cast, *]; rfl); rfl; rfl)
      | ((with_reducible first | apply wpOps_undef | apply wpDraw_undef)
         · simp only [upd_ap, reduceIte, Nat.reduceEqDiff]; done)
      | ((with_reducible first | apply wpOps_test | apply wp_test | apply draw_test); (simp only [Eo.evF, upd_ap, reduceIte, Nat.reduceEqDiff, Bool.false_eq_true, Bool.not_true, Bool.not_false, flat, binAV, binInt, natOf_cast, *]; rfl))
      | (with_reducible apply testK_mk
         all_goals (intro hb; try simp only [Bool.not_true, Bool.not_false, Bool.not_eq_true', Bool.not_eq_false'] at hb)))
      · have hyx : y = x := by simpa using hb
        exact h2 rfl k (Nat.le_refl _) (by omega) (by rw [hy, hyx]) _ rfl
      · have hyx : y ≠ x := by simpa using hb
        refine lpK_nrm ?_
        refine rebase (L := [(0, ints l), (1, K n), (2, .bool true), (7, K i), (8, K (k + 1 : Nat))]) ⟨rfl, rfl, rfl, rfl, congrArg (AV.int .i64) (wrap_succ hl hkl), trivial⟩
          (ih (k + 1) _ (by omega) (fun h => h1 (fun hu j hj hj2 => ?_)) (fun hu j hj hj2 => h2 hu j (by omega) hj2))
        rcases Nat.lt_or_ge k j with hlt | hge
        · exact h hu j hlt hj2
        · have : j = k := by omega
          subst this
          rw [hy]
          intro e
          exact hyx (Option.some.inj e)
end Go.Ev.Lc
/- LowerChecks, the document's side: places, what comes next. -/
namespace Go.Ev.Lc
open Go.Ev.Tab
set_option maxRecDepth 100000
set_option linter.all false

/-- The place i may be: it is within, and unlike those ahead of it. -/
def okAt (l : List Int) (n : Int) (u : Bool) (i : Nat) : Bool :=
  match l[i]? with
  | some x => inside n x && !(u && (l.take i).contains x)
  | none => true
def placesFrom (l : List Int) (n : Int) (u : Bool) : Nat → Nat → Bool
  | 0, _ => true
  | m + 1, i => okAt l n u i && placesFrom l n u m (i + 1)
def placesB (l : List Int) (n : Int) (u : Bool) : Bool := placesFrom l n u l.length 0

theorem contains_take {l : List Int} {i : Nat} {x : Int} : (l.take i).contains x = true ↔ ∃ j, j < i ∧ l[j]? = some x := by
  rw [List.contains_iff_mem, List.mem_iff_getElem?]
  constructor
  · rintro ⟨j, hj⟩
    rw [List.getElem?_take] at hj
    split at hj
    · exact ⟨j, by assumption, hj⟩
    · simp at hj
  · rintro ⟨j, h1, h2⟩
    exact ⟨j, by rw [List.getElem?_take, if_pos h1]; exact h2⟩

theorem loop28 (E : Env) (l : List Int) (hl : short l = true) (n : Int) (u : Bool) (s : St) (Q : Post) : ∀ m i (g : Pl), i + m = l.length →
      (placesFrom l n u m i = true → ∀ env, Q (.exit 0) env s) → (placesFrom l n u m i = false → ∀ env, env 6 = .bool false → Q .ret env s) →
      RunT E 0 (.loop body28) (upd (upd (upd (upd g 0 (ints l)) 1 (K n)) 2 (.bool u)) 7 (K i)) s Q := by
  intro m
  induction m with
  | zero =>
    intro i g hk h1 h2
    have hki := lt_f (l := l) (k := i) (by omega)
    refine lp ?_
    simp only [body28, e28]
    have h1 := h1 rfl
    clear hk
    repeat' (first
    | with_reducible refine Red.go ?_
    | with_reducible refine wp_draw ?_
    | ((with_reducible apply blkK_pass); rfl)
    | ((with_reducible first | apply wpOps_dry | apply wpOps_wet | apply wpOps_wet0 | apply wpDraw_dry); (simp only [evDryF, evWetF, St.new, Nat.reduceAdd, Nat.zero_add, Nat.add_zero, Eo.evF, upd_ap, reduceIte, Nat.reduceEqDiff, Bool.false_eq_true, Bool.not_true, Bool.not_false, flat, binAV, binInt, gint, List.length_map, *]; rfl))
    | ((with_reducible apply wpDraw_load); (simp only [Eo.evF, upd_ap, reduceIte, Nat.reduceEqDiff, Bool.false_eq_true, Bool.not_true, Bool.not_false, flat, binAV, binInt, gint, List.length_map, *]; rfl); rfl; rfl)
    | ((with_reducible first | apply wpOps_undef | apply wpDraw_undef)
       · simp only [upd_ap, reduceIte, Nat.reduceEqDiff]; done)
    | ((with_reducible first | apply wpOps_test | apply wp_test | apply draw_test); (simp only [Eo.evF, upd_ap, reduceIte, Nat.reduceEqDiff, Bool.false_eq_true, Bool.not_true, Bool.not_false, flat, binAV, binInt, gint, List.length_map, *]; rfl))
    | (with_reducible apply testK_mk
       all_goals (intro hb; try simp only [Bool.not_true, Bool.not_false, Bool.not_eq_true', Bool.not_eq_false'] at hb)))
    exact h1 _
  | succ m ih =>
    intro i g hk h1 h2
    have hkl : i < l.length := by omega
    have hki := lt_t hkl
    obtain ⟨x, hx, _⟩ := get_ex hkl
    have hx' := map_get (f := fun n => AV.int .i64 n) hx
    simp only [placesFrom, okAt, hx] at h1 h2
    refine lp ?_
    simp only [body28, e28]
    repeat' (first
    | with_reducible refine Red.go ?_
    | with_reducible refine wp_draw ?_
    | ((with_reducible apply blkK_pass); rfl)
    | ((with_reducible first | apply wpOps_dry | apply wpOps_wet | apply wpOps_wet0 | apply wpDraw_dry); (simp only [evDryF, evWetF, St.new, Nat.reduceAdd, Nat.zero_add, Nat.add_zero, Eo.evF, upd_ap, reduceIte, Nat.reduceEqDiff, Bool.false_eq_true, Bool.not_true, Bool.not_false, flat, binAV, binInt, gint, List.length_map, natOf_cast, *]; rfl))
    | ((with_reducible apply wpDraw_load); (simp only [Eo.evF, upd_ap, reduceIte, Nat.reduceEqDiff, Bool.false_eq_true, Bool.not_true, Bool.not_false, flat, binAV, binInt, gint, List.length_map, natOf_cast, *]; rfl); rfl; rfl)
    | ((with_reducible first | apply wpOps_undef | apply wpDraw_undef)
       · simp only [upd_ap, reduceIte, Nat.reduceEqDiff]; done)
    | ((with_reducible first | apply wpOps_test | apply wp_test | apply draw_test); (simp only [Eo.evF, upd_ap, reduceIte, Nat.reduceEqDiff, Bool.false_eq_true, Bool.not_true, Bool.not_false, flat, binAV, binInt, gint, List.length_map, natOf_cast, *]; rfl))
    | (with_reducible apply testK_mk
       all_goals (intro hb; try simp only [Bool.not_true, Bool.not_false, Bool.not_eq_true', Bool.not_eq_false'] at hb)))
    · refine h2 ?_ _ rfl
      simp [inside, hb]
    · refine wp_loop (rebase (L := [(0, ints l), (1, K n), (2, .bool u), (7, K i), (8, K (0 : Nat))]) ⟨rfl, rfl, rfl, rfl, rfl, trivial⟩
        (inner_loop E l hl n u i x hx _ _ i 0 _ (by omega) (fun hu env e0 e1 e2 e7 => ?_) (fun hu j hj hj2 hjx env e6 => ?_)))
      · have hc : (u && (l.take i).contains x) = false := by
          cases u with
          | false => rfl
          | true =>
            rw [Bool.true_and, Bool.eq_false_iff]
            intro hc
            obtain ⟨j, h3, h4⟩ := contains_take.1 hc
            exact hu rfl j (Nat.zero_le _) h3 h4
        have hin : inside n x = true := by simp [inside, *]
        rw [hc, hin] at h1 h2
        simp only [Bool.not_false, Bool.and_true, Bool.true_and] at h1 h2
        have hin2 := hin
        clear hu hin hx hx'
        repeat' (first
        | with_reducible refine Red.go ?_
        | with_reducible refine wp_draw ?_
        | ((with_reducible apply blkK_pass); rfl)
        | ((with_reducible first | apply wpOps_dry | apply wpOps_wet | apply wpOps_wet0 | apply wpDraw_dry); (simp only [evDryF, evWetF, St.new, Nat.reduceAdd, Nat.zero_add, Nat.add_zero, Eo.evF, upd_ap, reduceIte, Nat.reduceEqDiff, Bool.false_eq_true, Bool.not_true, Bool.not_false, flat, binAV, binInt, *]; rfl))
        | ((with_reducible apply wpDraw_load); (simp only [Eo.evF, upd_ap, reduceIte, Nat.reduceEqDiff, Bool.false_eq_true, Bool.not_true, Bool.not_false, flat, binAV, binInt, *]; rfl); rfl; rfl)
        | ((with_reducible first | apply wpOps_undef | apply wpDraw_undef)
           · simp only [upd_ap, reduceIte, Nat.reduceEqDiff]; done)
        | ((with_reducible first | apply wpOps_test | apply wp_test | apply draw_test); (simp only [Eo.evF, upd_ap, reduceIte, Nat.reduceEqDiff, Bool.false_eq_true, Bool.not_true, Bool.not_false, flat, binAV, binInt, *]; rfl))
        | (with_reducible apply testK_mk
           all_goals (intro hb; try simp only [Bool.not_true, Bool.not_false, Bool.not_eq_true', Bool.not_eq_false'] at hb)))
        refine lpK_nrm ?_
        exact rebase (L := [(0, ints l), (1, K n), (2, .bool u), (7, K (i + 1 : Nat))]) ⟨e0, e1, e2, congrArg (AV.int .i64) (wrap_succ hl hkl), trivial⟩ (ih (i + 1) _ (by omega) h1 h2)
      · have hc : (u && (l.take i).contains x) = true := by
          rw [hu, Bool.true_and]
          exact contains_take.2 ⟨j, hj2, hjx⟩
        have h2 := h2 (by rw [hc]; simp)
        clear hx hx' hjx hu h1
        repeat' (first
        | with_reducible refine Red.go ?_
        | with_reducible refine wp_draw ?_
        | ((with_reducible apply blkK_pass); rfl)
        | ((with_reducible first | apply wpOps_dry | apply wpOps_wet | apply wpOps_wet0 | apply wpDraw_dry); (simp only [evDryF, evWetF, St.new, Nat.reduceAdd, Nat.zero_add, Nat.add_zero, Eo.evF, upd_ap, reduceIte, Nat.reduceEqDiff, Bool.false_eq_true, Bool.not_true, Bool.not_false, flat, binAV, binInt, *]; rfl))
        | ((with_reducible apply wpDraw_load); (simp only [Eo.evF, upd_ap, reduceIte, Nat.reduceEqDiff, Bool.false_eq_true, Bool.not_true, Bool.not_false, flat, binAV, binInt, *]; rfl); rfl; rfl)
        | ((with_reducible first | apply wpOps_undef | apply wpDraw_undef)
           · simp only [upd_ap, reduceIte, Nat.reduceEqDiff]; done)
        | ((with_reducible first | apply wpOps_test | apply wp_test | apply draw_test); (simp only [Eo.evF, upd_ap, reduceIte, Nat.reduceEqDiff, Bool.false_eq_true, Bool.not_true, Bool.not_false, flat, binAV, binInt, *]; rfl))
        | (with_reducible apply testK_mk
           all_goals (intro hb; try simp only [Bool.not_true, Bool.not_false, Bool.not_eq_true', Bool.not_eq_false'] at hb)))
        exact h2 _ e6
    · refine h2 ?_ _ rfl
      simp [inside, hb]
theorem t28 (E : Env) (h : E.fns 28 = some e28) (l : List Int) (hl : short l = true) (n : Int) (u : Bool) : AnsK E 0 28 [ints l, K n, .bool u] s0 (ans (.bool (placesB l n u))) := by
  refine fn_run h rfl rfl (plOf_args0 ..) ?_
  simp only [argPl, e28]
  repeat' (first
  | with_reducible refine Red.go ?_
  | with_reducible refine wp_draw ?_
  | ((with_reducible apply blkK_pass); rfl)
  | ((with_reducible first | apply wpOps_dry | apply wpOps_wet | apply wpOps_wet0 | apply wpDraw_dry); (simp only [evDryF, evWetF, St.new, Nat.reduceAdd, Nat.zero_add, Nat.add_zero, Eo.evF, upd_ap, reduceIte, Nat.reduceEqDiff, Bool.false_eq_true, Bool.not_true, Bool.not_false, flat, binAV, binInt, gint, List.length_map, *]; rfl))
  | ((with_reducible apply wpDraw_load); (simp only [Eo.evF, upd_ap, reduceIte, Nat.reduceEqDiff, Bool.false_eq_true, Bool.not_true, Bool.not_false, flat, binAV, binInt, gint, List.length_map, *]; rfl); rfl; rfl)
  | ((with_reducible first | apply wpOps_undef | apply wpDraw_undef)
     · simp only [upd_ap, reduceIte, Nat.reduceEqDiff]; done)
  | ((with_reducible first | apply wpOps_test | apply wp_test | apply draw_test); (simp only [Eo.evF, upd_ap, reduceIte, Nat.reduceEqDiff, Bool.false_eq_true, Bool.not_true, Bool.not_false, flat, binAV, binInt, gint, List.length_map, *]; rfl))
  | (with_reducible apply testK_mk
     all_goals (intro hb; try simp only [Bool.not_true, Bool.not_false, Bool.not_eq_true', Bool.not_eq_false'] at hb)))
  refine wp_loop (rebase (L := [(0, ints l), (1, K n), (2, .bool u), (7, K (0 : Nat))]) ⟨rfl, rfl, rfl, rfl, trivial⟩ (loop28 E l hl n u _ _ l.length 0 _ (by omega) (fun ha env => ?_) (fun ha env h4 => ?_)))
  · have hp : placesB l n u = true := ha
    clear ha
    repeat' (first
    | with_reducible refine Red.go ?_
    | with_reducible refine wp_draw ?_
    | ((with_reducible apply blkK_pass); rfl)
    | ((with_reducible first | apply wpOps_dry | apply wpOps_wet | apply wpOps_wet0 | apply wpDraw_dry); (simp only [evDryF, evWetF, St.new, Nat.reduceAdd, Nat.zero_add, Nat.add_zero, Eo.evF, upd_ap, reduceIte, Nat.reduceEqDiff, Bool.false_eq_true, Bool.not_true, Bool.not_false, flat, *]; rfl))
    | ((with_reducible apply wpDraw_load); (simp only [Eo.evF, upd_ap, reduceIte, Nat.reduceEqDiff, Bool.false_eq_true, Bool.not_true, Bool.not_false, flat, *]; rfl); rfl; rfl)
    | ((with_reducible first | apply wpOps_undef | apply wpDraw_undef)
       · simp only [upd_ap, reduceIte, Nat.reduceEqDiff]; done)
    | ((with_reducible first | apply wpOps_test | apply wp_test | apply draw_test); (simp only [Eo.evF, upd_ap, reduceIte, Nat.reduceEqDiff, Bool.false_eq_true, Bool.not_true, Bool.not_false, flat, *]; rfl))
    | (with_reducible apply testK_mk
       all_goals (intro hb; try simp only [Bool.not_true, Bool.not_false, Bool.not_eq_true', Bool.not_eq_false'] at hb)))
    refine fnK_one ?_
    simp [ans, tupled, upd_ap, *]
  · have hp : placesB l n u = false := ha
    clear ha
    repeat' (first
    | with_reducible refine Red.go ?_
    | with_reducible refine wp_draw ?_
    | ((with_reducible apply blkK_pass); rfl)
    | ((with_reducible first | apply wpOps_dry | apply wpOps_wet | apply wpOps_wet0 | apply wpDraw_dry); (simp only [evDryF, evWetF, St.new, Nat.reduceAdd, Nat.zero_add, Nat.add_zero, Eo.evF, upd_ap, reduceIte, Nat.reduceEqDiff, Bool.false_eq_true, Bool.not_true, Bool.not_false, flat, *]; rfl))
    | ((with_reducible apply wpDraw_load); (simp only [Eo.evF, upd_ap, reduceIte, Nat.reduceEqDiff, Bool.false_eq_true, Bool.not_true, Bool.not_false, flat, *]; rfl); rfl; rfl)
    | ((with_reducible first | apply wpOps_undef | apply wpDraw_undef)
       · simp only [upd_ap, reduceIte, Nat.reduceEqDiff]; done)
    | ((with_reducible first | apply wpOps_test | apply wp_test | apply draw_test); (simp only [Eo.evF, upd_ap, reduceIte, Nat.reduceEqDiff, Bool.false_eq_true, Bool.not_true, Bool.not_false, flat, *]; rfl))
    | (with_reducible apply testK_mk
       all_goals (intro hb; try simp only [Bool.not_true, Bool.not_false, Bool.not_eq_true', Bool.not_eq_false'] at hb)))
    refine fnK_one ?_
    simp [ans, tupled, upd_ap, *]
def q28 : List AV → Option AV
  | [.lst x, .int .i64 n, .bool u] => match unInts x with | some l => (match short l with | true => some (.bool (placesB l n u)) | false => none) | none => none
  | _ => none
theorem q28_eq {l : List Int} (h : short l = true) (n : Int) (u : Bool) : q28 [ints l, .int .i64 n, .bool u] = some (.bool (placesB l n u)) := by simp only [q28, unInts_map, h]
end Go.Ev.Lc
/- LowerChecks, the document's side: the tables of operators. -/
namespace Go.Ev.Lc
open Go.Ev.Tab
set_option maxRecDepth 100000
set_option linter.all false

def inB (op a b : Int) : Bool := decide (op ≥ a) && decide (op ≤ b)
theorem t149 (E : Env) (h : E.fns 149 = some e149) (op a b : Int) : AnsK E 0 149 [K op, K a, K b] s0 (ans (.bool (inB op a b))) := by
  refine fn_run h rfl rfl (plOf_args0 ..) ?_
  simp only [argPl, e149]
  repeat' (first
  | with_reducible refine Red.go ?_
  | ((with_reducible apply blkK_pass); rfl)
  | ((with_reducible first | apply wpOps_dry | apply wpOps_wet | apply wpOps_wet0); (simp only [evDryF, evWetF, St.new, Nat.reduceAdd, Nat.zero_add, Nat.add_zero, Eo.evF, upd_ap, reduceIte, Nat.reduceEqDiff, Bool.false_eq_true, Bool.not_true, Bool.not_false, flat, binAV, binInt, *]; rfl))
  | ((with_reducible apply wpOps_undef)
     · simp only [upd_ap, reduceIte, Nat.reduceEqDiff]; done)
  | ((with_reducible first | apply wpOps_test | apply wp_test); (simp only [Eo.evF, upd_ap, reduceIte, Nat.reduceEqDiff, Bool.false_eq_true, Bool.not_true, Bool.not_false, flat, binAV, binInt, *]; rfl))
  | (with_reducible apply testK_mk
     all_goals (intro hb; try simp only [Bool.not_true, Bool.not_false, Bool.not_eq_true', Bool.not_eq_false'] at hb)))
  all_goals
    refine fnK_one ?_
    simp [ans, tupled, inB, upd_ap, *]
def q149 : List AV → Option AV
  | [.int .i64 op, .int .i64 a, .int .i64 b] => some (.bool (inB op a b))
  | _ => none
theorem q149_eq (op a b : Int) : q149 [.int .i64 op, .int .i64 a, .int .i64 b] = some (.bool (inB op a b)) := rfl

def ofF (op : Int) : Int := if (inB op 69 79 || inB op 103 120 || op == 172 || op == 173 || op == 192 || op == 193) = true then 127 else if (inB op 80 90 || inB op 121 138 || op == 167 || inB op 194 196) = true then 126 else 0
theorem t147 (E : Env) (h : E.fns 147 = some e147) (h149 : ToldBy E 149 q149) (op : Int) : AnsK E 0 147 [K op] s0 (ans (K (ofF op))) := by
  refine fn_run h rfl rfl (plOf_args0 ..) ?_
  simp only [argPl, e147]
  repeat' (first
  | with_reducible refine Red.go ?_
  | ((with_reducible apply blkK_pass); rfl)
  | ((with_reducible first | apply wpOps_dry | apply wpOps_wet | apply wpOps_wet0); (simp only [evDryF, evWetF, St.new, Nat.reduceAdd, Nat.zero_add, Nat.add_zero, Eo.evF, upd_ap, reduceIte, Nat.reduceEqDiff, Bool.false_eq_true, Bool.not_true, Bool.not_false, flat, binAV, binInt, *]; rfl))
  | ((with_reducible apply wpOps_undef)
     · simp only [upd_ap, reduceIte, Nat.reduceEqDiff]; done)
  | ((with_reducible apply wpOps_told); assumption; (simp only [evsF, List.map_cons, List.map_nil, Eo.evF, upd_ap, reduceIte, Nat.reduceEqDiff, Bool.false_eq_true, Bool.not_true, Bool.not_false, flat, binAV, binInt, *]; rfl); first | (simp only [q149_eq, *]; rfl) | assumption)
  | ((with_reducible first | apply wpOps_test | apply wp_test); (simp only [Eo.evF, upd_ap, reduceIte, Nat.reduceEqDiff, Bool.false_eq_true, Bool.not_true, Bool.not_false, flat, binAV, binInt, *]; rfl))
  | (with_reducible apply testK_mk
     all_goals (intro hb; try simp only [Bool.not_true, Bool.not_false, Bool.not_eq_true', Bool.not_eq_false'] at hb)))
  all_goals
    refine fnK_one ?_
    simp [ans, tupled, ofF, upd_ap, *]
def q147 : List AV → Option AV
  | [.int .i64 op] => some (K (ofF op))
  | _ => none
theorem q147_eq (op : Int) : q147 [.int .i64 op] = some (K (ofF op)) := rfl

def unaryB (op : Int) : Bool := op == 69 || op == 80 || inB op 103 105 || inB op 121 123 || decide (op ≥ 167)
theorem t148 (E : Env) (h : E.fns 148 = some e148) (h149 : ToldBy E 149 q149) (op : Int) : AnsK E 0 148 [K op] s0 (ans (.bool (unaryB op))) := by
  refine fn_run h rfl rfl (plOf_args0 ..) ?_
  simp only [argPl, e148]
  repeat' (first
  | with_reducible refine Red.go ?_
  | ((with_reducible apply blkK_pass); rfl)
  | ((with_reducible first | apply wpOps_dry | apply wpOps_wet | apply wpOps_wet0); (simp only [evDryF, evWetF, St.new, Nat.reduceAdd, Nat.zero_add, Nat.add_zero, Eo.evF, upd_ap, reduceIte, Nat.reduceEqDiff, Bool.false_eq_true, Bool.not_true, Bool.not_false, flat, binAV, binInt, *]; rfl))
  | ((with_reducible apply wpOps_undef)
     · simp only [upd_ap, reduceIte, Nat.reduceEqDiff]; done)
  | ((with_reducible apply wpOps_told); assumption; (simp only [evsF, List.map_cons, List.map_nil, Eo.evF, upd_ap, reduceIte, Nat.reduceEqDiff, Bool.false_eq_true, Bool.not_true, Bool.not_false, flat, binAV, binInt, *]; rfl); first | (simp only [q149_eq, *]; rfl) | assumption)
  | ((with_reducible first | apply wpOps_test | apply wp_test); (simp only [Eo.evF, upd_ap, reduceIte, Nat.reduceEqDiff, Bool.false_eq_true, Bool.not_true, Bool.not_false, flat, binAV, binInt, *]; rfl))
  | (with_reducible apply testK_mk
     all_goals (intro hb; try simp only [Bool.not_true, Bool.not_false, Bool.not_eq_true', Bool.not_eq_false'] at hb)))
  all_goals
    refine fnK_one ?_
    simp [ans, tupled, unaryB, upd_ap, *]
def q148 : List AV → Option AV
  | [.int .i64 op] => some (.bool (unaryB op))
  | _ => none
theorem q148_eq (op : Int) : q148 [.int .i64 op] = some (.bool (unaryB op)) := rfl

/-- What an operator of numbers takes and answers. -/
def outF (op : Int) : Int := if (op == 172 || op == 173) = true then 126 else if (inB op 69 90 || op == 167) = true then 127 else ofF op
def sigV (op : Int) : AV := if (ofF op == 0) = true then .tup [.nils, K 0, .bool false] else .tup [if unaryB op = true then ints [ofF op] else ints [ofF op, ofF op], K (outF op), .bool true]
theorem t119 (E : Env) (h : E.fns 119 = some { e119 with pure := true }) (h147 : ToldBy E 147 q147) (h148 : ToldBy E 148 q148) (h149 : ToldBy E 149 q149) (op : Int) : AnsK E 0 119 [K op] s0 (ans (sigV op)) := by
  refine fn_frz h rfl rfl (plOf_args0 ..) (rfl : s0.nx = 0) ?_
  simp only [argPl, e119]
  repeat' (first
  | with_reducible refine Red.go ?_
  | ((with_reducible apply blkK_pass); rfl)
  | ((with_reducible first | apply wpOps_dry | apply wpOps_wet | apply wpOps_wet0); (simp only [evDryF, evWetF, St.new, Nat.reduceAdd, Nat.zero_add, Nat.add_zero, Eo.evF, upd_ap, reduceIte, Nat.reduceEqDiff, Bool.false_eq_true, Bool.not_true, Bool.not_false, flat, binAV, binInt, *]; rfl))
  | ((with_reducible apply wpOps_undef)
     · simp only [upd_ap, reduceIte, Nat.reduceEqDiff]; done)
  | ((with_reducible apply wpOps_told); assumption; (simp only [evsF, List.map_cons, List.map_nil, Eo.evF, upd_ap, reduceIte, Nat.reduceEqDiff, Bool.false_eq_true, Bool.not_true, Bool.not_false, flat, binAV, binInt, *]; rfl); first | (simp only [q147_eq, q148_eq, q149_eq, *]; rfl) | assumption)
  | ((with_reducible first | apply wpOps_test | apply wp_test); (simp only [Eo.evF, upd_ap, reduceIte, Nat.reduceEqDiff, Bool.false_eq_true, Bool.not_true, Bool.not_false, flat, binAV, binInt, *]; rfl))
  | (with_reducible apply testK_mk
     all_goals (intro hb; try simp only [Bool.not_true, Bool.not_false, Bool.not_eq_true', Bool.not_eq_false'] at hb)))
  all_goals
    refine fnK_three ?_
    refine frzK_mk (by simp only [upd_ap, reduceIte, Nat.reduceEqDiff]; rfl) ?_
    simp [ans, sigV, outF, *] <;> rfl
def q119 : List AV → Option AV
  | [.int .i64 op] => some (sigV op)
  | _ => none
theorem q119_eq (op : Int) : q119 [.int .i64 op] = some (sigV op) := rfl

/-- What an access takes or answers, its width, whether it stores, whether there is one. -/
def accT (op : Int) : Int :=
  if (op == 40 || op == 44 || op == 45 || op == 46 || op == 47 || op == 54 || op == 58 || op == 59) = true then 127
  else if (op == 41 || op == 48 || op == 49 || op == 50 || op == 51 || op == 52 || op == 53 || op == 55 || op == 60 || op == 61 || op == 62) = true then 126 else 0
def accW (op : Int) : Int :=
  if (op == 40 || op == 54 || op == 52 || op == 53 || op == 62) = true then 4 else if (op == 41 || op == 55) = true then 8
  else if (op == 46 || op == 47 || op == 50 || op == 51 || op == 59 || op == 61) = true then 2 else 1
def accV (op : Int) : AV := if (accT op == 0) = true then .tup [K 0, K 0, .bool false, .bool false] else .tup [K (accT op), K (accW op), .bool (decide (op ≥ 54)), .bool true]
def unaccKeys : List Int := [40, 44, 45, 46, 47, 54, 58, 59, 41, 48, 49, 50, 51, 52, 53, 55, 60, 61, 62]
theorem acc_none {op : Int} (h : unaccKeys.contains op = false) : accV op = .tup [K 0, K 0, .bool false, .bool false] := by
  simp [unaccKeys] at h
  simp [accV, accT, h]
set_option maxHeartbeats 4000000 in
theorem t120n (E : Env) (h : E.fns 120 = some e120) (op : Int) (hop : unaccKeys.contains op = false) : AnsK E 0 120 [K op] s0 (ans (accV op)) := by
  refine fn_run h rfl rfl (plOf_args0 ..) ?_
  rw [acc_none hop]
  simp [unaccKeys] at hop
  obtain ⟨h1, h2, h3, h4, h5, h6, h7, h8, h9, h10, h11, h12, h13, h14, h15, h16, h17, h18, h19⟩ := hop
  simp only [argPl, e120]
  have g1 : (op == 40) = false := by simp [h1]
  have g2 : (op == 44) = false := by simp [h2]
  have g3 : (op == 45) = false := by simp [h3]
  have g4 : (op == 46) = false := by simp [h4]
  have g5 : (op == 47) = false := by simp [h5]
  have g6 : (op == 54) = false := by simp [h6]
  have g7 : (op == 58) = false := by simp [h7]
  have g8 : (op == 59) = false := by simp [h8]
  have g9 : (op == 41) = false := by simp [h9]
  have g10 : (op == 48) = false := by simp [h10]
  have g11 : (op == 49) = false := by simp [h11]
  have g12 : (op == 50) = false := by simp [h12]
  have g13 : (op == 51) = false := by simp [h13]
  have g14 : (op == 52) = false := by simp [h14]
  have g15 : (op == 53) = false := by simp [h15]
  have g16 : (op == 55) = false := by simp [h16]
  have g17 : (op == 60) = false := by simp [h17]
  have g18 : (op == 61) = false := by simp [h18]
  have g19 : (op == 62) = false := by simp [h19]
  clear h1 h2 h3 h4 h5 h6 h7 h8 h9 h10 h11 h12 h13 h14 h15 h16 h17 h18 h19
  repeat' (first
  | with_reducible refine Red.go ?_
  | ((with_reducible apply blkK_pass); rfl)
  | ((with_reducible first | apply wpOps_dry | apply wpOps_wet | apply wpOps_wet0); (simp only [evDryF, evWetF, St.new, Nat.reduceAdd, Nat.zero_add, Nat.add_zero, Eo.evF, upd_ap, reduceIte, Nat.reduceEqDiff, Bool.false_eq_true, Bool.not_true, Bool.not_false, flat, binAV, binInt, *]; rfl))
  | ((with_reducible apply wpOps_undef)
     · simp only [upd_ap, reduceIte, Nat.reduceEqDiff]; done)
  | ((with_reducible first | apply wpOps_test | apply wp_test); (simp only [Eo.evF, upd_ap, reduceIte, Nat.reduceEqDiff, Bool.false_eq_true, Bool.not_true, Bool.not_false, flat, binAV, binInt, *]; rfl))
  | (with_reducible apply testK_mk
     all_goals (intro hb; try simp only [Bool.not_true, Bool.not_false, Bool.not_eq_true', Bool.not_eq_false'] at hb)))
  refine fnK_four ?_
  simp [ans, upd_ap]
theorem t120 (E : Env) (h : E.fns 120 = some e120) (hk : ∀ op ∈ unaccKeys, AnsK E 0 120 [K op] s0 (ans (accV op))) (op : Int) : AnsK E 0 120 [K op] s0 (ans (accV op)) := by
  cases hop : unaccKeys.contains op with
  | false => exact t120n E h op hop
  | true => exact hk op (List.contains_iff_mem.1 hop)
def q120 : List AV → Option AV
  | [.int .i64 op] => some (accV op)
  | _ => none
theorem q120_eq (op : Int) : q120 [.int .i64 op] = some (accV op) := rfl
end Go.Ev.Lc
/- LowerChecks, the document's side: the forms of instructions. -/
namespace Go.Ev.Lc
open Go.Ev.Tab
set_option maxRecDepth 100000
set_option linter.all false

/-- What 'Form' of layer 8 answers, of an instruction op, n, where Out is of type 0. -/
abbrev ret3 (a b : AV) (c : Bool) : AV := .tup [a, b, .bool c]
def formV (e : Env') (op n : Int) : AV :=
  if (op == 256) = true then ret3 .nils (ints [0]) (fitsB 0 n)
  else if (op == 258) = true then ret3 .nils .nils (n == 0)
  else if (ofF op == 0) = false then ret3 (if unaryB op = true then ints [ofF op] else ints [ofF op, ofF op]) (ints [outF op]) (n == 0)
  else if (op == 27) = true then ret3 (ints [0, 0, 127]) (ints [0]) (n == 0)
  else if (op == 35 || op == 36) = true then
    (if decide (n ≥ (e.globals.length : Int)) = true then ret3 .nils .nils false else match e.globals[n.toNat]?, e.muts[n.toNat]? with
     | some g, some m => if (op == 35) = true then ret3 .nils (ints [g]) true else ret3 (ints [g]) .nils m
     | _, _ => ret3 .nils .nils false)
  else if (op == 16) = true then
    (if decide (n ≥ (e.sigs.length : Int)) = true then ret3 .nils .nils false else match e.sigs[n.toNat]? with
     | some s => ret3 (ints s.inp) (ints s.out) true
     | none => ret3 .nils .nils false)
  else if e.mem = false then ret3 .nils .nils false
  else if (op == 257) = true then ret3 (ints [127]) .nils (decide (n ≤ 8589934592))
  else if (accT op == 0) = false then
    (if decide (op ≥ 54) = true then ret3 (ints [127, accT op]) .nils (decide (n < 4294967296)) else ret3 (ints [127]) (ints [accT op]) (decide (n < 4294967296)))
  else if (op == 63) = true then ret3 .nils (ints [127]) (n == 0)
  else if (op == 64) = true then ret3 (ints [127]) (ints [127]) (n == 0)
  else ret3 .nils .nils false
set_option maxHeartbeats 8000000 in
theorem t84 (E : Env) (h : E.fns 84 = some { e84 with pure := true }) (h119 : ToldBy E 119 q119) (h120 : ToldBy E 120 q120) (h91 : ToldBy E 91 q91) (e : Env') (hs : envShort e = true) (hm : e.muts.length = e.globals.length)
    (op : Int) (n : Nat) (hn : n < 18446744073709551616) : AnsK E 0 84 [encEnv e, .agg [K op, .int .u64 n, .nils, .nils], K 0] s0 (ans (formV e op n)) := by
  obtain ⟨s1, s2, s3, s4⟩ := envShort_and hs
  refine fn_frz h rfl rfl (plOf_args0 ..) (rfl : s0.nx = 0) ?_
  simp only [argPl, e84]
  have q1 : ∀ c, (ofF op == 0) = c → ∀ d, unaryB op = d → q119 [.int .i64 op] = some (if c = true then .tup [.nils, K 0, .bool false] else .tup [if d = true then ints [ofF op] else ints [ofF op, ofF op], K (outF op), .bool true]) := by
    intro c hc d hd
    rw [q119_eq, sigV, hc, hd]
  have q2 : ∀ c, (accT op == 0) = c → q120 [.int .i64 op] = some (if c = true then .tup [K 0, K 0, .bool false, .bool false] else .tup [K (accT op), K (accW op), .bool (decide (op ≥ 54)), .bool true]) := by
    intro c hc
    rw [q120_eq, accV, hc]
  have w1 : IntKind.u64.wrap (e.globals.length : Int) = e.globals.length := by have := short_lt s2; simp [IntKind.wrap, IntKind.bits, IntKind.signed]; omega
  have w2 : IntKind.u64.wrap (e.sigs.length : Int) = e.sigs.length := by have := short_lt s1; simp [IntKind.wrap, IntKind.bits, IntKind.signed]; omega
  cases h1 : (ofF op == 0) with
  | false =>
    have q1 := q1 _ h1
    have q2 := q2 _ rfl
    cases h2 : unaryB op
    all_goals
      have q1 := q1 _ h2
      cases h3 : (accT op == 0)
      all_goals
        rw [h3] at q2
        simp only [Bool.false_eq_true, if_false, if_true] at q1 q2
        clear s1 s2 s3 s4 hs hm w1 w2
        repeat' (first
        | with_reducible refine Red.go ?_
        | with_reducible refine wp_drawG' ?_
        | ((with_reducible apply blkK_pass); rfl)
        | ((with_reducible apply gd_nil); rfl)
        | ((with_reducible apply gd_dry); (simp only [evDryF, evWetF, St.new, Nat.reduceAdd, Nat.zero_add, Nat.add_zero, Eo.evF, upd_ap, reduceIte, Nat.reduceEqDiff, Bool.false_eq_true, Bool.not_true, Bool.not_false, flat, binAV, binInt, gint, List.length_map, *]; rfl); kernel_rfl)
        | ((with_reducible first | apply gd_wet | apply gd_wet0); (simp only [footOfF, Eo.evF, upd_ap, reduceIte, Nat.reduceEqDiff]; rfl); kernel_rfl; (simp only [evWetF, Nat.reduceAdd, Eo.evF, upd_ap, reduceIte, Nat.reduceEqDiff, Bool.false_eq_true, Bool.not_true, Bool.not_false, flat, binAV, binInt, gint, List.length_map, *]; rfl); kernel_rfl; rfl)
        | ((with_reducible first | apply gd_wetW | apply gd_wetW0); (simp only [evWetF, Nat.reduceAdd, Eo.evF, upd_ap, reduceIte, Nat.reduceEqDiff, Bool.false_eq_true, Bool.not_true, Bool.not_false, flat, binAV, binInt, gint, List.length_map, *]; rfl); kernel_rfl)
        | ((with_reducible first | apply wpOps_dry | apply wpOps_wet | apply wpOps_wet0); (simp only [evDryF, evWetF, St.new, Nat.reduceAdd, Nat.zero_add, Nat.add_zero, Eo.evF, upd_ap, reduceIte, Nat.reduceEqDiff, Bool.false_eq_true, Bool.not_true, Bool.not_false, flat, binAV, binInt, gint, List.length_map, *]; rfl))
        | ((with_reducible apply wpOps_undef)
           · simp only [upd_ap, reduceIte, Nat.reduceEqDiff]; done)
        | ((with_reducible apply wpOps_told); assumption; (simp only [evsF, List.map_cons, List.map_nil, Eo.evF, upd_ap, reduceIte, Nat.reduceEqDiff, Bool.false_eq_true, Bool.not_true, Bool.not_false, flat, binAV, binInt, gint, List.length_map, *]; rfl); first | (simp only [q1, q2, q91_eq]; rfl) | assumption)
        | ((with_reducible first | apply wpOps_test | apply wp_test); (simp only [Eo.evF, upd_ap, reduceIte, Nat.reduceEqDiff, Bool.false_eq_true, Bool.not_true, Bool.not_false, flat, binAV, binInt, gint, List.length_map, *]; rfl))
        | (with_reducible apply testK_mk
           all_goals (intro hb; try simp only [Bool.not_true, Bool.not_false, Bool.not_eq_true', Bool.not_eq_false'] at hb)))
        all_goals
          refine fnK_three ?_
          refine frzK_mk (v' := formV e op n) ?_ rfl
          simp only [formV, upd_ap, reduceIte, Nat.reduceEqDiff, Bool.false_eq_true, Bool.true_eq_false, Bool.or_true, Bool.or_false, Bool.true_or, Bool.false_or, if_true, if_false, Int.toNat_natCast, *]
          kernel_rfl
  | true =>
    have q1 := q1 _ h1 _ rfl
    have q2 := q2 _ rfl
    simp only [if_true] at q1
    cases h3 : (accT op == 0)
    all_goals
      rw [h3] at q2
      simp only [Bool.false_eq_true, if_false, if_true] at q2
      clear s1 s2 s3 s4 hs
      repeat' (first
      | with_reducible refine Red.go ?_
      | with_reducible refine wp_drawG' ?_
      | ((with_reducible apply blkK_pass); rfl)
      | ((with_reducible apply gd_nil); rfl)
      | ((with_reducible apply gd_dry); (simp only [evDryF, evWetF, St.new, Nat.reduceAdd, Nat.zero_add, Nat.add_zero, Eo.evF, upd_ap, reduceIte, Nat.reduceEqDiff, Bool.false_eq_true, Bool.not_true, Bool.not_false, flat, binAV, binInt, gint, List.length_map, *]; rfl); kernel_rfl)
      | ((with_reducible first | apply gd_wet | apply gd_wet0); (simp only [footOfF, Eo.evF, upd_ap, reduceIte, Nat.reduceEqDiff]; rfl); kernel_rfl; (simp only [evWetF, Nat.reduceAdd, Eo.evF, upd_ap, reduceIte, Nat.reduceEqDiff, Bool.false_eq_true, Bool.not_true, Bool.not_false, flat, binAV, binInt, gint, List.length_map, *]; rfl); kernel_rfl; rfl)
      | ((with_reducible first | apply gd_wetW | apply gd_wetW0); (simp only [evWetF, Nat.reduceAdd, Eo.evF, upd_ap, reduceIte, Nat.reduceEqDiff, Bool.false_eq_true, Bool.not_true, Bool.not_false, flat, binAV, binInt, gint, List.length_map, *]; rfl); kernel_rfl)
      | ((with_reducible first | apply wpOps_dry | apply wpOps_wet | apply wpOps_wet0); (simp only [evDryF, evWetF, St.new, Nat.reduceAdd, Nat.zero_add, Nat.add_zero, Eo.evF, upd_ap, reduceIte, Nat.reduceEqDiff, Bool.false_eq_true, Bool.not_true, Bool.not_false, flat, binAV, binInt, gint, List.length_map, *]; rfl))
      | ((with_reducible apply wpOps_undef)
         · simp only [upd_ap, reduceIte, Nat.reduceEqDiff]; done)
      | ((with_reducible apply wpOps_told); assumption; (simp only [evsF, List.map_cons, List.map_nil, Eo.evF, upd_ap, reduceIte, Nat.reduceEqDiff, Bool.false_eq_true, Bool.not_true, Bool.not_false, flat, binAV, binInt, gint, List.length_map, *]; rfl); first | (simp only [q1, q2, q91_eq]; rfl) | assumption)
      | ((with_reducible first | apply wpOps_test | apply wp_test); (simp only [Eo.evF, upd_ap, reduceIte, Nat.reduceEqDiff, Bool.false_eq_true, Bool.not_true, Bool.not_false, flat, binAV, binInt, gint, List.length_map, *]; rfl))
      | (with_reducible apply testK_mk
         all_goals (intro hb; try simp only [Bool.not_true, Bool.not_false, Bool.not_eq_true', Bool.not_eq_false'] at hb)))
      all_goals first
        | (
           refine fnK_three ?_
           refine frzK_mk (v' := formV e op n) ?_ rfl
           simp only [formV, upd_ap, reduceIte, Nat.reduceEqDiff, Bool.false_eq_true, Bool.true_eq_false, Bool.or_true, Bool.or_false, Bool.true_or, Bool.false_or, if_true, if_false, Int.toNat_natCast, *]
           kernel_rfl
           done)
        | skip
      · have hlt : n < e.globals.length := by simp at hb; omega
        obtain ⟨gx, hgx, _⟩ := get_ex (l := e.globals) (k := n) hlt
        obtain ⟨mx, hmx, _⟩ := get_ex (l := e.muts) (k := n) (by omega)
        have hg' := map_get (f := fun n => AV.int .i64 n) hgx
        have hm' := map_get (f := fun b => AV.bool b) hmx
        clear hm hlt
        repeat' (first
        | with_reducible refine Red.go ?_
        | with_reducible refine wp_drawG' ?_
        | ((with_reducible apply blkK_pass); rfl)
        | ((with_reducible apply gd_nil); rfl)
        | ((with_reducible apply gd_dry); (simp only [evDryF, evWetF, St.new, Nat.reduceAdd, Nat.zero_add, Nat.add_zero, Eo.evF, upd_ap, reduceIte, Nat.reduceEqDiff, Bool.false_eq_true, Bool.not_true, Bool.not_false, flat, binAV, binInt, gint, List.length_map, natOf_cast, *]; rfl); kernel_rfl)
        | ((with_reducible first | apply gd_wet | apply gd_wet0); (simp only [footOfF, Eo.evF, upd_ap, reduceIte, Nat.reduceEqDiff]; rfl); kernel_rfl; (simp only [evWetF, Nat.reduceAdd, Eo.evF, upd_ap, reduceIte, Nat.reduceEqDiff, Bool.false_eq_true, Bool.not_true, Bool.not_false, flat, binAV, binInt, gint, List.length_map, natOf_cast, *]; rfl); kernel_rfl; rfl)
        | ((with_reducible first | apply gd_wetW | apply gd_wetW0); (simp only [evWetF, Nat.reduceAdd, Eo.evF, upd_ap, reduceIte, Nat.reduceEqDiff, Bool.false_eq_true, Bool.not_true, Bool.not_false, flat, binAV, binInt, gint, List.length_map, natOf_cast, *]; rfl); kernel_rfl)
        | ((with_reducible first | apply wpOps_dry | apply wpOps_wet | apply wpOps_wet0); (simp only [evDryF, evWetF, St.new, Nat.reduceAdd, Nat.zero_add, Nat.add_zero, Eo.evF, upd_ap, reduceIte, Nat.reduceEqDiff, Bool.false_eq_true, Bool.not_true, Bool.not_false, flat, binAV, binInt, gint, List.length_map, natOf_cast, *]; rfl))
        | ((with_reducible apply wpOps_undef)
           · simp only [upd_ap, reduceIte, Nat.reduceEqDiff]; done)
        | ((with_reducible apply wpOps_told); assumption; (simp only [evsF, List.map_cons, List.map_nil, Eo.evF, upd_ap, reduceIte, Nat.reduceEqDiff, Bool.false_eq_true, Bool.not_true, Bool.not_false, flat, binAV, binInt, gint, List.length_map, natOf_cast, *]; rfl); first | (simp only [q1, q2, q91_eq]; rfl) | assumption)
        | ((with_reducible first | apply wpOps_test | apply wp_test); (simp only [Eo.evF, upd_ap, reduceIte, Nat.reduceEqDiff, Bool.false_eq_true, Bool.not_true, Bool.not_false, flat, binAV, binInt, gint, List.length_map, natOf_cast, *]; rfl))
        | (with_reducible apply testK_mk
           all_goals (intro hb; try simp only [Bool.not_true, Bool.not_false, Bool.not_eq_true', Bool.not_eq_false'] at hb)))
        all_goals
          refine fnK_three ?_
          refine frzK_mk (v' := formV e op n) ?_ rfl
          simp only [formV, upd_ap, reduceIte, Nat.reduceEqDiff, Bool.false_eq_true, Bool.true_eq_false, Bool.or_true, Bool.or_false, Bool.true_or, Bool.false_or, if_true, if_false, Int.toNat_natCast, *]
          kernel_rfl
      · have hlt : n < e.sigs.length := by simp at hb; omega
        obtain ⟨sx, hsx, _⟩ := get_ex (l := e.sigs) (k := n) hlt
        have hs' := map_get (f := encSig) hsx
        clear hm hlt
        repeat' (first
        | with_reducible refine Red.go ?_
        | with_reducible refine wp_drawG' ?_
        | ((with_reducible apply blkK_pass); rfl)
        | ((with_reducible apply gd_nil); rfl)
        | ((with_reducible apply gd_dry); (simp only [evDryF, evWetF, St.new, Nat.reduceAdd, Nat.zero_add, Nat.add_zero, Eo.evF, upd_ap, reduceIte, Nat.reduceEqDiff, Bool.false_eq_true, Bool.not_true, Bool.not_false, flat, binAV, binInt, gint, List.length_map, natOf_cast, *]; rfl); kernel_rfl)
        | ((with_reducible first | apply gd_wet | apply gd_wet0); (simp only [footOfF, Eo.evF, upd_ap, reduceIte, Nat.reduceEqDiff]; rfl); kernel_rfl; (simp only [evWetF, Nat.reduceAdd, Eo.evF, upd_ap, reduceIte, Nat.reduceEqDiff, Bool.false_eq_true, Bool.not_true, Bool.not_false, flat, binAV, binInt, gint, List.length_map, natOf_cast, *]; rfl); kernel_rfl; rfl)
        | ((with_reducible first | apply gd_wetW | apply gd_wetW0); (simp only [evWetF, Nat.reduceAdd, Eo.evF, upd_ap, reduceIte, Nat.reduceEqDiff, Bool.false_eq_true, Bool.not_true, Bool.not_false, flat, binAV, binInt, gint, List.length_map, natOf_cast, *]; rfl); kernel_rfl)
        | ((with_reducible first | apply wpOps_dry | apply wpOps_wet | apply wpOps_wet0); (simp only [evDryF, evWetF, St.new, Nat.reduceAdd, Nat.zero_add, Nat.add_zero, Eo.evF, upd_ap, reduceIte, Nat.reduceEqDiff, Bool.false_eq_true, Bool.not_true, Bool.not_false, flat, binAV, binInt, gint, List.length_map, natOf_cast, *]; rfl))
        | ((with_reducible apply wpOps_undef)
           · simp only [upd_ap, reduceIte, Nat.reduceEqDiff]; done)
        | ((with_reducible apply wpOps_told); assumption; (simp only [evsF, List.map_cons, List.map_nil, Eo.evF, upd_ap, reduceIte, Nat.reduceEqDiff, Bool.false_eq_true, Bool.not_true, Bool.not_false, flat, binAV, binInt, gint, List.length_map, natOf_cast, *]; rfl); first | (simp only [q1, q2, q91_eq]; rfl) | assumption)
        | ((with_reducible first | apply wpOps_test | apply wp_test); (simp only [Eo.evF, upd_ap, reduceIte, Nat.reduceEqDiff, Bool.false_eq_true, Bool.not_true, Bool.not_false, flat, binAV, binInt, gint, List.length_map, natOf_cast, *]; rfl))
        | (with_reducible apply testK_mk
           all_goals (intro hb; try simp only [Bool.not_true, Bool.not_false, Bool.not_eq_true', Bool.not_eq_false'] at hb)))
        all_goals
          refine fnK_three ?_
          refine frzK_mk (v' := formV e op n) ?_ rfl
          simp only [formV, upd_ap, reduceIte, Nat.reduceEqDiff, Bool.false_eq_true, Bool.true_eq_false, Bool.or_true, Bool.or_false, Bool.true_or, Bool.false_or, if_true, if_false, Int.toNat_natCast, *]
          kernel_rfl
      · have hlt : n < e.globals.length := by simp at hb; omega
        obtain ⟨gx, hgx, _⟩ := get_ex (l := e.globals) (k := n) hlt
        obtain ⟨mx, hmx, _⟩ := get_ex (l := e.muts) (k := n) (by omega)
        have hg' := map_get (f := fun n => AV.int .i64 n) hgx
        have hm' := map_get (f := fun b => AV.bool b) hmx
        clear hm hlt
        repeat' (first
        | with_reducible refine Red.go ?_
        | with_reducible refine wp_drawG' ?_
        | ((with_reducible apply blkK_pass); rfl)
        | ((with_reducible apply gd_nil); rfl)
        | ((with_reducible apply gd_dry); (simp only [evDryF, evWetF, St.new, Nat.reduceAdd, Nat.zero_add, Nat.add_zero, Eo.evF, upd_ap, reduceIte, Nat.reduceEqDiff, Bool.false_eq_true, Bool.not_true, Bool.not_false, flat, binAV, binInt, gint, List.length_map, natOf_cast, *]; rfl); kernel_rfl)
        | ((with_reducible first | apply gd_wet | apply gd_wet0); (simp only [footOfF, Eo.evF, upd_ap, reduceIte, Nat.reduceEqDiff]; rfl); kernel_rfl; (simp only [evWetF, Nat.reduceAdd, Eo.evF, upd_ap, reduceIte, Nat.reduceEqDiff, Bool.false_eq_true, Bool.not_true, Bool.not_false, flat, binAV, binInt, gint, List.length_map, natOf_cast, *]; rfl); kernel_rfl; rfl)
        | ((with_reducible first | apply gd_wetW | apply gd_wetW0); (simp only [evWetF, Nat.reduceAdd, Eo.evF, upd_ap, reduceIte, Nat.reduceEqDiff, Bool.false_eq_true, Bool.not_true, Bool.not_false, flat, binAV, binInt, gint, List.length_map, natOf_cast, *]; rfl); kernel_rfl)
        | ((with_reducible first | apply wpOps_dry | apply wpOps_wet | apply wpOps_wet0); (simp only [evDryF, evWetF, St.new, Nat.reduceAdd, Nat.zero_add, Nat.add_zero, Eo.evF, upd_ap, reduceIte, Nat.reduceEqDiff, Bool.false_eq_true, Bool.not_true, Bool.not_false, flat, binAV, binInt, gint, List.length_map, natOf_cast, *]; rfl))
        | ((with_reducible apply wpOps_undef)
           · simp only [upd_ap, reduceIte, Nat.reduceEqDiff]; done)
        | ((with_reducible apply wpOps_told); assumption; (simp only [evsF, List.map_cons, List.map_nil, Eo.evF, upd_ap, reduceIte, Nat.reduceEqDiff, Bool.false_eq_true, Bool.not_true, Bool.not_false, flat, binAV, binInt, gint, List.length_map, natOf_cast, *]; rfl); first | (simp only [q1, q2, q91_eq]; rfl) | assumption)
        | ((with_reducible first | apply wpOps_test | apply wp_test); (simp only [Eo.evF, upd_ap, reduceIte, Nat.reduceEqDiff, Bool.false_eq_true, Bool.not_true, Bool.not_false, flat, binAV, binInt, gint, List.length_map, natOf_cast, *]; rfl))
        | (with_reducible apply testK_mk
           all_goals (intro hb; try simp only [Bool.not_true, Bool.not_false, Bool.not_eq_true', Bool.not_eq_false'] at hb)))
        all_goals
          refine fnK_three ?_
          refine frzK_mk (v' := formV e op n) ?_ rfl
          simp only [formV, upd_ap, reduceIte, Nat.reduceEqDiff, Bool.false_eq_true, Bool.true_eq_false, Bool.or_true, Bool.or_false, Bool.true_or, Bool.false_or, if_true, if_false, Int.toNat_natCast, *]
          kernel_rfl
def q84 : List AV → Option AV
  | [x, .agg [.int .i64 op, .int .u64 (.ofNat n), .nils, .nils], .int .i64 0] =>
    match unEnv x with
    | some e => if envShort e = true ∧ e.muts.length = e.globals.length ∧ n < 18446744073709551616 then some (formV e op n) else none
    | none => none
  | _ => none
theorem q84_eq {e : Env'} (hs : envShort e = true) (hm : e.muts.length = e.globals.length) (op : Int) {n : Nat} (hn : n < 18446744073709551616) : q84 [encEnv e, .agg [.int .i64 op, .int .u64 (n : Int), .nils, .nils], .int .i64 0] = some (formV e op n) := by
  have h := unEnv_enc e
  simp only [encEnv] at h
  have hc : ((n : Int)) = Int.ofNat n := rfl
  rw [hc]
  simp only [q84, h]
  rw [if_pos ⟨hs, hm, hn⟩]
  rfl
end Go.Ev.Lc
/- LowerChecks, the document's side: whether an instruction may be. -/
namespace Go.Ev.Lc
open Go.Ev.Tab
set_option maxRecDepth 100000
set_option linter.all false

def niI : Option (List Int) → AV
  | none => .nils
  | some l => ints l
def Shp (v : AV) : Prop := ∃ a b c, v = ret3 (niI a) (niI b) c
theorem shp_ite {p : Prop} [Decidable p] {x y : AV} (hx : Shp x) (hy : Shp y) : Shp (if p then x else y) := by
  split <;> assumption
theorem shp00 (c : Bool) : Shp (ret3 .nils .nils c) := ⟨none, none, c, rfl⟩
theorem shp10 (a : List Int) (c : Bool) : Shp (ret3 (ints a) .nils c) := ⟨some a, none, c, rfl⟩
theorem shp01 (b : List Int) (c : Bool) : Shp (ret3 .nils (ints b) c) := ⟨none, some b, c, rfl⟩
theorem shp11 (a b : List Int) (c : Bool) : Shp (ret3 (ints a) (ints b) c) := ⟨some a, some b, c, rfl⟩
theorem formV_shape (e : Env') (op n : Int) : Shp (formV e op n) := by
  unfold formV
  cases hu : unaryB op
  all_goals
    simp only [Bool.false_eq_true, if_false, if_true]
    repeat' (first
      | exact shp00 _
      | exact shp10 _ _
      | exact shp01 _ _
      | exact shp11 _ _ _
      | refine shp_ite ?_ ?_
      | split)
def form60V (e : Env') (s : Sig) (op n : Int) : AV :=
  if (op == 272) = true then ret3 (ints [0]) (ints [0]) (n == 0)
  else if (op == 273 || op == 277) = true then ret3 .nils .nils (n == 0)
  else if (op == 274 || op == 275) = true then ret3 (ints [127]) .nils (n == 0)
  else if (op == 276) = true then ret3 (ints s.out) .nils (n == 0)
  else if (op == 27) = true then ret3 (ints [0, 0, 127]) (ints [0]) (n == 0)
  else if (op == 256) = true then ret3 .nils (ints [0]) true
  else formV e op n
theorem form60V_shape (e : Env') (s : Sig) (op n : Int) : Shp (form60V e s op n) := by
  unfold form60V
  repeat' (first
    | exact formV_shape ..
    | exact shp00 _
    | exact shp10 _ _
    | exact shp01 _ _
    | exact shp11 _ _ _
    | refine shp_ite ?_ ?_)
set_option maxHeartbeats 4000000 in
theorem t60 (E : Env) (h : E.fns 60 = some { e60 with pure := true }) (h84 : ToldBy E 84 q84) (e : Env') (hs : envShort e = true) (hm : e.muts.length = e.globals.length) (s : Sig)
    (c : Code') (hn : c.n < 18446744073709551616) : AnsK E 0 60 [encEnv e, encSig s, encCode c] s0 (ans (form60V e s c.op c.n)) := by
  obtain ⟨op, n, ar, ou, to⟩ := c
  have q := q84_eq hs hm op hn
  obtain ⟨a, b, c, hf⟩ := formV_shape e op n
  rw [hf] at q
  refine fn_frz h rfl rfl (plOf_args0 ..) (rfl : s0.nx = 0) ?_
  simp only [argPl, e60]
  clear hs hm hn
  cases a <;> cases b
  all_goals
    simp only [niI] at q hf
    repeat' (first
    | with_reducible refine Red.go ?_
    | with_reducible refine wp_drawG' ?_
    | ((with_reducible apply blkK_pass); rfl)
    | ((with_reducible apply gd_nil); rfl)
    | ((with_reducible apply gd_dry); (simp only [evDryF, evWetF, St.new, Nat.reduceAdd, Nat.zero_add, Nat.add_zero, Eo.evF, upd_ap, reduceIte, Nat.reduceEqDiff, Bool.false_eq_true, Bool.not_true, Bool.not_false, flat, binAV, binInt, gint, List.length_map, *]; rfl); kernel_rfl)
    | ((with_reducible first | apply gd_wet | apply gd_wet0); (simp only [footOfF, Eo.evF, upd_ap, reduceIte, Nat.reduceEqDiff]; rfl); kernel_rfl; (simp only [evWetF, Nat.reduceAdd, Eo.evF, upd_ap, reduceIte, Nat.reduceEqDiff, Bool.false_eq_true, Bool.not_true, Bool.not_false, flat, binAV, binInt, gint, List.length_map, *]; rfl); kernel_rfl; rfl)
    | ((with_reducible first | apply gd_wetW | apply gd_wetW0); (simp only [evWetF, Nat.reduceAdd, Eo.evF, upd_ap, reduceIte, Nat.reduceEqDiff, Bool.false_eq_true, Bool.not_true, Bool.not_false, flat, binAV, binInt, gint, List.length_map, *]; rfl); kernel_rfl)
    | ((with_reducible first | apply wpOps_dry | apply wpOps_wet | apply wpOps_wet0); (simp only [evDryF, evWetF, St.new, Nat.reduceAdd, Nat.zero_add, Nat.add_zero, Eo.evF, upd_ap, reduceIte, Nat.reduceEqDiff, Bool.false_eq_true, Bool.not_true, Bool.not_false, flat, binAV, binInt, gint, List.length_map, *]; rfl))
    | ((with_reducible apply wpOps_undef)
       · simp only [upd_ap, reduceIte, Nat.reduceEqDiff]; done)
    | ((with_reducible apply wpOps_told); assumption; (simp only [evsF, List.map_cons, List.map_nil, Eo.evF, upd_ap, reduceIte, Nat.reduceEqDiff, Bool.false_eq_true, Bool.not_true, Bool.not_false, flat, binAV, binInt, gint, List.length_map, *]; rfl); first | (simp only [q]; rfl) | assumption)
    | ((with_reducible first | apply wpOps_test | apply wp_test); (simp only [Eo.evF, upd_ap, reduceIte, Nat.reduceEqDiff, Bool.false_eq_true, Bool.not_true, Bool.not_false, flat, binAV, binInt, gint, List.length_map, *]; rfl))
    | (with_reducible apply testK_mk
       all_goals (intro hb; try simp only [Bool.not_true, Bool.not_false, Bool.not_eq_true', Bool.not_eq_false'] at hb)))
    all_goals
      refine fnK_three ?_
      refine frzK_mk (v' := form60V e s op n) ?_ rfl
      simp only [form60V, upd_ap, reduceIte, Nat.reduceEqDiff, Bool.false_eq_true, Bool.true_eq_false, Bool.or_true, Bool.or_false, Bool.true_or, Bool.false_or, if_true, if_false, *]
      kernel_rfl
def unCode : AV → Option Code'
  | .agg [.int .i64 op, .int .u64 (.ofNat n), .lst a, .lst b, .lst c] => match unInts a, unInts b, unInts c with | some x, some y, some z => some ⟨op, n, x, y, z⟩ | _, _, _ => none
  | _ => none
theorem unCode_enc (c : Code') : unCode (encCode c) = some c := by
  have hc : ((c.n : Int)) = Int.ofNat c.n := rfl
  simp only [encCode, hc, unCode, unInts_map]
theorem unCode_some (v : AV) (c : Code') (h : unCode v = some c) : v = encCode c := by
  unfold unCode at h
  split at h
  · split at h
    · rename_i h1 h2 h3
      simp only [Option.some.injEq] at h; subst h
      rw [unInts_some h1, unInts_some h2, unInts_some h3]
      rfl
    · simp at h
  · simp at h
def q60 : List AV → Option AV
  | [x, y, z] =>
    match unEnv x, unSig y, unCode z with
    | some e, some s, some c => if envShort e = true ∧ e.muts.length = e.globals.length ∧ c.n < 18446744073709551616 then some (form60V e s c.op c.n) else none
    | _, _, _ => none
  | _ => none
theorem q60_eq {e : Env'} (hs : envShort e = true) (hm : e.muts.length = e.globals.length) (s : Sig) {c : Code'} (hn : c.n < 18446744073709551616) : q60 [encEnv e, encSig s, encCode c] = some (form60V e s c.op c.n) := by
  have h1 := unEnv_enc e
  have h2 := unSig_enc s
  have h3 := unCode_enc c
  simp only [encEnv, encSig, encCode] at h1 h2 h3
  simp only [q60, h1, h2, h3]
  rw [if_pos ⟨hs, hm, hn⟩]
end Go.Ev.Lc
