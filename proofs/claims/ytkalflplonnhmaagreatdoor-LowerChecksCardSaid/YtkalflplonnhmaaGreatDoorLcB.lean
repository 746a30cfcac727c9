/- What the functions of the two Checks answer, by steps through their code. -/
import Derived.Test.YtkalflplonnhmaaGreatDoorLcA
set_option linter.all false
/- LowerChecks, the document's side: whether an instruction of a row may be; what comes behind it. -/
namespace Go.Ev.Lc
open Go.Ev.Tab
set_option maxRecDepth 100000
set_option linter.all false

def okV : AV → Bool
  | .tup [_, _, .bool c] => c
  | _ => false
def lenV : AV → Int
  | .lst es => es.length
  | _ => 0
def inV : AV → Int
  | .tup [a, _, _] => lenV a
  | _ => 0
def outV : AV → Int
  | .tup [_, b, _] => lenV b
  | _ => 0
def toB (op : Int) (n : Int) : Bool := if (op == 273 || op == 274) = true then n == 1 else if (op == 275) = true then decide (n ≥ 1) else n == 0
def fewB (c : Code') : Bool := !decide ((c.args.length : Int) > 8) && !decide ((c.outs.length : Int) > 8) && !decide ((c.to.length : Int) > 65)
def codeB (e : Env') (r : Row) (c : Code') : Bool :=
  fewB c && (okV (form60V e r.sig c.op c.n) && (inV (form60V e r.sig c.op c.n) == c.args.length) && (outV (form60V e r.sig c.op c.n) == c.outs.length) &&
    placesB c.args r.places false && placesB c.outs r.places true && placesB c.to r.code.length false && toB c.op c.to.length)
def codeShort (c : Code') : Bool := short c.args && short c.outs && short c.to
def unRow : AV → Option Row
  | .agg [.lst a, .lst b, .int .i64 p, .lst c, .lst d] => match unInts a, unInts b, unInts c, unList unCode d with | some x, some y, some z, some w => some ⟨⟨x, y⟩, p, z, w⟩ | _, _, _, _ => none
  | _ => none
theorem unRow_enc (r : Row) : unRow (encRow r) = some r := by simp only [unRow, unInts_map, unList_map (g := encCode) unCode_enc]
theorem unRow_some (v : AV) (r : Row) (h : unRow v = some r) : v = encRow r := by
  unfold unRow at h
  split at h
  · split at h
    · rename_i h1 h2 h3 h4
      simp only [Option.some.injEq] at h; subst h
      rw [unInts_some h1, unInts_some h2, unInts_some h3, unList_some unCode_some h4]
    · simp at h
  · simp at h
set_option maxHeartbeats 8000000 in
theorem t29 (E : Env) (h : E.fns 29 = some e29) (h60 : ToldBy E 60 q60) (h28 : ToldBy E 28 q28) (e : Env') (hs : envShort e = true) (hm : e.muts.length = e.globals.length) (r : Row) (i : Nat) (c : Code') (hc : r.code[i]? = some c)
    (hn : c.n < 18446744073709551616) (hcs : codeShort c = true) : AnsK E 0 29 [encEnv e, encRow r, K i] s0 (ans (.bool (codeB e r c))) := by
  simp only [codeShort, Bool.and_eq_true] at hcs
  obtain ⟨⟨sa, so⟩, st⟩ := hcs
  have hc' := map_get (f := encCode) hc
  have q := q60_eq hs hm r.sig hn
  obtain ⟨a, b, ok, hf⟩ := form60V_shape e r.sig c.op c.n
  rw [hf] at q
  unfold codeB
  rw [hf]
  clear hf
  refine fn_run h rfl rfl (plOf_args0 ..) ?_
  simp only [argPl, e29]
  clear hs hm hn hc
  have z : ((0 : Nat) : Int) = 0 := rfl
  cases a <;> cases b
  all_goals
    simp only [niI] at q ⊢
    repeat' (first
    | with_reducible refine Red.go ?_
    | ((with_reducible apply blkK_pass); rfl)
    | ((with_reducible first | apply wpOps_dry | apply wpOps_wet | apply wpOps_wet0); (simp only [evDryF, evWetF, St.new, Nat.reduceAdd, Nat.zero_add, Nat.add_zero, Eo.evF, upd_ap, reduceIte, Nat.reduceEqDiff, Bool.false_eq_true, Bool.not_true, Bool.not_false, flat, binAV, binInt, gint, List.length_map, natOf_cast, *]; rfl))
    | ((with_reducible apply wpOps_undef)
       · simp only [upd_ap, reduceIte, Nat.reduceEqDiff]; done)
    | ((with_reducible apply wpOps_told); assumption; (simp only [evsF, List.map_cons, List.map_nil, Eo.evF, upd_ap, reduceIte, Nat.reduceEqDiff, Bool.false_eq_true, Bool.not_true, Bool.not_false, flat, binAV, binInt, gint, List.length_map, natOf_cast, *]; rfl); first | (simp only [q28_eq, *]; rfl) | assumption)
    | ((with_reducible first | apply wpOps_test | apply wp_test); (simp only [Eo.evF, upd_ap, reduceIte, Nat.reduceEqDiff, Bool.false_eq_true, Bool.not_true, Bool.not_false, flat, binAV, binInt, gint, List.length_map, natOf_cast, *]; rfl))
    | (with_reducible apply testK_mk
       all_goals (intro hb; try simp only [Bool.not_true, Bool.not_false, Bool.not_eq_true', Bool.not_eq_false'] at hb)))
    all_goals first
      | (refine fnK_one ?_
         simp only [ans, tupled, fewB, okV, inV, outV, lenV, toB, niI, upd_ap, reduceIte, Nat.reduceEqDiff, List.length_map, *]
         first | rfl | simp)
      | skip
end Go.Ev.Lc
/- LowerChecks, the document's side: what comes behind an instruction. -/
namespace Go.Ev.Lc
open Go.Ev.Tab
set_option maxRecDepth 100000
set_option linter.all false

/-- The numbers of the instructions that may come behind instruction i. -/
def nextL (c : Code') (i : Nat) : List Int :=
  if (c.op == 276 || c.op == 277) = true then []
  else if (c.op == 273 || c.op == 275) = true then c.to
  else if (c.op == 274) = true then (match c.to with | t :: _ => [(i : Int) + 1, t] | [] => [])
  else [(i : Int) + 1]
def nextV (c : Code') (i : Nat) : AV := if (c.op == 276 || c.op == 277) = true then .nils else ints (nextL c i)
def nextOk (c : Code') : Bool := !(c.op == 274) || !c.to.isEmpty
set_option maxHeartbeats 4000000 in
theorem t61 (E : Env) (h : E.fns 61 = some { e61 with pure := true }) (r : Row) (hs : short r.code = true) (i : Nat) (c : Code') (hc : r.code[i]? = some c) (hok : nextOk c = true) : AnsK E 0 61 [encRow r, K i] s0 (ans (nextV c i)) := by
  have hc' := map_get (f := encCode) hc
  have hlt : i < r.code.length := by
    rcases Nat.lt_or_ge i r.code.length with h | h
    · exact h
    · rw [List.getElem?_eq_none h] at hc; simp at hc
  have hw : IntKind.i64.wrap ((i : Int) + 1) = (i : Int) + 1 := by have := wrap_succ hs hlt; rw [this]; rfl
  refine fn_frz h rfl rfl (plOf_args0 ..) (rfl : s0.nx = 0) ?_
  simp only [argPl, e61]
  clear hc hs hlt
  cases hto : c.to with
  | nil =>
    have hno : (c.op == 274) = false := by simpa [nextOk, hto] using hok
    clear hok
    repeat' (first
    | with_reducible refine Red.go ?_
    | ((with_reducible apply blkK_pass); rfl)
    | ((with_reducible first | apply wpOps_dry | apply wpOps_wet | apply wpOps_wet0); (simp only [evDryF, evWetF, St.new, Nat.reduceAdd, Nat.zero_add, Nat.add_zero, Eo.evF, upd_ap, reduceIte, Nat.reduceEqDiff, Bool.false_eq_true, Bool.not_true, Bool.not_false, flat, binAV, binInt, gint, List.length_map, natOf_cast, *]; rfl))
    | ((with_reducible apply wpOps_undef)
       · simp only [upd_ap, reduceIte, Nat.reduceEqDiff]; done)
    | ((with_reducible first | apply wpOps_test | apply wp_test); (simp only [Eo.evF, upd_ap, reduceIte, Nat.reduceEqDiff, Bool.false_eq_true, Bool.not_true, Bool.not_false, flat, binAV, binInt, gint, List.length_map, natOf_cast, *]; rfl))
    | (with_reducible apply testK_mk
       all_goals (intro hb; try simp only [Bool.not_true, Bool.not_false, Bool.not_eq_true', Bool.not_eq_false'] at hb)))
    all_goals
      refine fnK_one ?_
      refine frzK_mk (v' := nextV c i) ?_ rfl
      simp only [nextV, nextL, upd_ap, reduceIte, Nat.reduceEqDiff, Bool.false_eq_true, Bool.true_eq_false, Bool.or_true, Bool.or_false, Bool.true_or, Bool.false_or, if_true, if_false, *]
      kernel_rfl
  | cons t ts =>
    clear hok
    have ht0 : (List.map (fun n => AV.int .i64 n) c.to)[0]? = some (.int .i64 t) := by rw [hto]; rfl
    repeat' (first
    | with_reducible refine Red.go ?_
    | ((with_reducible apply blkK_pass); rfl)
    | ((with_reducible first | apply wpOps_dry | apply wpOps_wet | apply wpOps_wet0); (simp only [evDryF, evWetF, St.new, Nat.reduceAdd, Nat.zero_add, Nat.add_zero, Eo.evF, upd_ap, reduceIte, Nat.reduceEqDiff, Bool.false_eq_true, Bool.not_true, Bool.not_false, flat, binAV, binInt, gint, List.length_map, natOf_cast, *]; rfl))
    | ((with_reducible apply wpOps_undef)
       · simp only [upd_ap, reduceIte, Nat.reduceEqDiff]; done)
    | ((with_reducible first | apply wpOps_test | apply wp_test); (simp only [Eo.evF, upd_ap, reduceIte, Nat.reduceEqDiff, Bool.false_eq_true, Bool.not_true, Bool.not_false, flat, binAV, binInt, gint, List.length_map, natOf_cast, *]; rfl))
    | (with_reducible apply testK_mk
       all_goals (intro hb; try simp only [Bool.not_true, Bool.not_false, Bool.not_eq_true', Bool.not_eq_false'] at hb)))
    all_goals
      refine fnK_one ?_
      refine frzK_mk (v' := nextV c i) ?_ rfl
      simp only [nextV, nextL, upd_ap, reduceIte, Nat.reduceEqDiff, Bool.false_eq_true, Bool.true_eq_false, Bool.or_true, Bool.or_false, Bool.true_or, Bool.false_or, if_true, if_false, *]
      kernel_rfl
def q61 : List AV → Option AV
  | [x, .int .i64 (.ofNat i)] =>
    match unRow x with
    | some r => match r.code[i]? with | some c => (match short r.code && nextOk c with | true => some (nextV c i) | false => none) | none => none
    | none => none
  | _ => none
theorem q61_eq {r : Row} (hs : short r.code = true) {i : Nat} {c : Code'} (hc : r.code[i]? = some c) (hok : nextOk c = true) : q61 [encRow r, .int .i64 (i : Int)] = some (nextV c i) := by
  have h := unRow_enc r
  simp only [encRow] at h
  have hi : ((i : Int)) = Int.ofNat i := rfl
  rw [hi]
  simp only [q61, h, hc, hs, hok, Bool.and_self]
end Go.Ev.Lc
/- LowerChecks, the document's side: circles without a tick. -/
namespace Go.Ev.Lc
open Go.Ev.Tab
set_option maxRecDepth 100000
set_option linter.all false

/-- What an instruction goes to, if it isn't a tick. -/
def succs (r : Row) (i : Nat) : List Int := match r.code[i]? with | some c => if (c.op == 258) = true then [] else nextL c i | none => []
/-- Instructions each of which goes on to another one of them. -/
def Live (r : Row) (S : Nat → Prop) : Prop := ∀ i, S i → i < r.code.length ∧ ∃ j : Nat, (j : Int) ∈ succs r i ∧ S j
/-- All that may come next is within the row. -/
def Inside (r : Row) : Prop := ∀ i c, r.code[i]? = some c → nextOk c = true ∧ ∀ x ∈ nextL c i, 0 ≤ x ∧ x < r.code.length

abbrev rowCells (r : Row) : List AV := [ints r.sig.inp, ints r.sig.out, K r.places, ints r.params, codes r.code]
abbrev sC (r : Row) (g : List Bool) : St := ⟨.nd (.nd .lf (some (.cells (g.map AV.bool) 1 1)) .lf) (some (.cells (rowCells r) 5 1)) .lf, 2⟩

theorem cut_bool {g : List Bool} {j : Nat} {b : Bool} (h : g[j]? = some b) : cut (g.map AV.bool) (j * 1) 1 = some [.bool b] := by
  unfold cut
  have hj : j < g.length := by
    rcases Nat.lt_or_ge j g.length with h' | h'
    · exact h'
    · rw [List.getElem?_eq_none h'] at h; simp at h
  have : ((g.map AV.bool).drop (j * 1)).take 1 = [.bool b] := by
    rw [Nat.mul_one, List.drop_eq_getElem_cons (by simpa using hj)]
    rw [List.getElem?_eq_getElem hj] at h
    simp [Option.some.inj h]
  simp only [this]
  rfl
theorem row_sC1 (r : Row) (g : List Bool) : row (sC r g) 1 = some (g.map AV.bool, 1, 1) := rfl
theorem row_sC0 (r : Row) (g : List Bool) : row (sC r g) 0 = some (rowCells r, 5, 1) := rfl
theorem over_bool {g : List Bool} {j : Nat} (hj : j < g.length) : over (g.map AV.bool) (j * 1) [.bool true] = some ((g.set j true).map AV.bool) := by
  unfold over
  have h1 : Nat.ble (j * 1 + [AV.bool true].length) (g.map AV.bool).length = true := by
    apply ble_of
    simp; omega
  rw [h1]
  simp only [Option.some.injEq]
  rw [Nat.mul_one, List.map_set, List.set_eq_take_append_cons_drop]
  simp [hj]

def body31 := match e31.body with
  | .seq _ (.seq _ (.seq (.seq _ (.block _ (.loop b))) _)) => b
  | _ => .skip
def scan31 := match body31 with
  | .seq _ (.block _ (.seq _ (.seq _ (.block _ (.loop b))))) => b
  | _ => .skip
def look31 := match scan31 with
  | .seq _ (.seq (.block _ (.seq _ (.seq (.seq _ (.cond _ (.seq _ (.seq _ (.block _ (.loop b)))) _)) _))) _) => b
  | _ => .skip
def stays (g : List Bool) (l : List Int) : Bool := l.any fun x => !(g.getD x.toNat true)
theorem loop_look (E : Env) (r : Row) (g : List Bool) (l : List Int) (hl : short l = true) (hg : ∀ x ∈ l, 0 ≤ x ∧ x < g.length) (t : Bool) (i : Int) (Q : Post) :
    ∀ m k (b : Bool) (v : Pl), k + m = l.length →
      (∀ env, env 1 = .ptr 0 0 → env 3 = .sl 1 0 g.length → env 4 = .bool t → env 5 = K i → env 6 = .bool (b || stays g (l.drop k)) → Q (.exit 4) env (sC r g)) →
      RunT E 0 (.loop look31) (setAll v [(1, .ptr 0 0), (3, .sl 1 0 g.length), (4, .bool t), (5, K i), (6, .bool b), (7, ints l), (8, K k)]) (sC r g) Q := by
  intro m
  induction m with
  | zero =>
    intro k b v hk h1
    have hki := lt_f (l := l) (k := k) (by omega)
    have hd : stays g (l.drop k) = false := by rw [List.drop_eq_nil_of_le (by omega)]; rfl
    rw [hd, Bool.or_false] at h1
    refine lp ?_
    simp only [setAll, look31, scan31, body31, e31]
    clear hk hg
    repeat' (first
    | with_reducible refine Red.go ?_
    | ((with_reducible apply blkK_pass); rfl)
    | ((with_reducible first | apply wpOps_dry | apply wpOps_wet | apply wpOps_wet0); (simp only [evDryF, evWetF, St.new, Nat.reduceAdd, Nat.zero_add, Nat.add_zero, Eo.evF, upd_ap, reduceIte, Nat.reduceEqDiff, Bool.false_eq_true, Bool.not_true, Bool.not_false, flat, binAV, binInt, gint, List.length_map, *]; rfl))
    | ((with_reducible apply wpOps_undef)
       · simp only [upd_ap, reduceIte, Nat.reduceEqDiff]; done)
    | ((with_reducible first | apply wpOps_test | apply wp_test); (simp only [Eo.evF, upd_ap, reduceIte, Nat.reduceEqDiff, Bool.false_eq_true, Bool.not_true, Bool.not_false, flat, binAV, binInt, gint, List.length_map, *]; rfl))
    | (with_reducible apply testK_mk
       all_goals (intro hb; try simp only [Bool.not_true, Bool.not_false, Bool.not_eq_true', Bool.not_eq_false'] at hb)))
    exact h1 _ rfl rfl rfl rfl rfl
  | succ m ih =>
    intro k b v hk h1
    have hkl : k < l.length := by omega
    have hki := lt_t hkl
    obtain ⟨x, hx, hd⟩ := get_ex hkl
    have hx' := map_get (f := fun n => AV.int .i64 n) hx
    obtain ⟨hx0, hx1⟩ := hg x (List.mem_of_getElem? hx)
    obtain ⟨j, rfl⟩ : ∃ j : Nat, x = j := ⟨x.toNat, by omega⟩
    obtain ⟨y, hy, _⟩ := get_ex (l := g) (k := j) (by omega)
    have hcut := cut_bool hy
    have hjl : decide (j < g.length) = true := by simp; omega
    have hjl2 : j < g.length := by omega
    have hst : stays g (l.drop k) = (!y || stays g (l.drop (k + 1))) := by
      rw [hd]
      simp [stays, List.getD, hy]
    rw [hst] at h1
    have ih := fun b v h => ih (k + 1) b v (by omega) h
    refine lp ?_
    simp only [setAll, look31, scan31, body31, e31]
    have hw := wrap_succ hl hkl
    clear hg hd hx hy hx0 hx1
    cases b with
    | true =>
      simp only [Bool.true_or] at h1
      repeat' (first
      | with_reducible refine Red.go ?_
      | ((with_reducible apply blkK_pass); rfl)
      | ((with_reducible first | apply wpOps_dry | apply wpOps_wet | apply wpOps_wet0); (simp only [evDryF, evWetF, St.new, Nat.reduceAdd, Nat.zero_add, Nat.add_zero, Eo.evF, upd_ap, reduceIte, Nat.reduceEqDiff, Bool.false_eq_true, Bool.not_true, Bool.not_false, flat, binAV, binInt, gint, List.length_map, natOf_cast, *]; rfl))
      | ((with_reducible apply wpOps_undef)
         · simp only [upd_ap, reduceIte, Nat.reduceEqDiff]; done)
      | ((with_reducible first | apply wpOps_test | apply wp_test); (simp only [Eo.evF, upd_ap, reduceIte, Nat.reduceEqDiff, Bool.false_eq_true, Bool.not_true, Bool.not_false, flat, binAV, binInt, gint, List.length_map, natOf_cast, *]; rfl))
      | (with_reducible apply testK_mk
         all_goals (intro hb; try simp only [Bool.not_true, Bool.not_false, Bool.not_eq_true', Bool.not_eq_false'] at hb)))
      refine lpK_nrm ?_
      exact rebase (L := [(1, .ptr 0 0), (3, .sl 1 0 g.length), (4, .bool t), (5, K i), (6, .bool true), (7, ints l), (8, K (k + 1 : Nat))]) ⟨rfl, rfl, rfl, rfl, rfl, rfl, rfl, trivial⟩ (ih _ _ (by simpa using h1))
    | false =>
      simp only [Bool.false_or] at h1
      repeat' (first
      | with_reducible refine Red.go ?_
      | ((with_reducible apply blkK_pass); rfl)
      | ((with_reducible first | apply wpOps_dry | apply wpOps_wet | apply wpOps_wet0); (simp only [evDryF, evWetF, St.new, Nat.reduceAdd, Nat.zero_add, Nat.add_zero, Eo.evF, upd_ap, reduceIte, Nat.reduceEqDiff, Bool.false_eq_true, Bool.not_true, Bool.not_false, flat, binAV, binInt, gint, List.length_map, natOf_cast, row_sC1, *]; rfl))
      | ((with_reducible apply wpOps_undef)
         · simp only [upd_ap, reduceIte, Nat.reduceEqDiff]; done)
      | ((with_reducible first | apply wpOps_test | apply wp_test); (simp only [Eo.evF, upd_ap, reduceIte, Nat.reduceEqDiff, Bool.false_eq_true, Bool.not_true, Bool.not_false, flat, binAV, binInt, gint, List.length_map, natOf_cast, row_sC1, *]; rfl))
      | (with_reducible apply testK_mk
         all_goals (intro hb; try simp only [Bool.not_true, Bool.not_false, Bool.not_eq_true', Bool.not_eq_false'] at hb)))
      refine lpK_nrm ?_
      exact rebase (L := [(1, .ptr 0 0), (3, .sl 1 0 g.length), (4, .bool t), (5, K i), (6, .bool !y), (7, ints l), (8, K (k + 1 : Nat))]) ⟨rfl, rfl, rfl, rfl, rfl, rfl, rfl, trivial⟩ (ih _ _ h1)

theorem short_next {c : Code'} (h : short c.to = true) (i : Nat) : short (nextL c i) = true := by
  unfold nextL
  split
  · rfl
  · split
    · exact h
    · split
      · split <;> rfl
      · rfl
/-- One instruction of a round. -/
def goesNow (r : Row) (g : List Bool) (i : Nat) : Bool := !(stays g (succs r i)) && !(g.getD i true)
def scan (r : Row) : Nat → List Bool → List Bool × Bool
  | 0, g => (g, false)
  | i + 1, g => if goesNow r g i = true then ((scan r i (g.set i true)).1, true) else scan r i g
theorem scan_length (r : Row) : ∀ (i : Nat) (g : List Bool), (scan r i g).1.length = g.length
  | 0, _ => rfl
  | i + 1, g => by
    unfold scan
    split
    · simp only; rw [scan_length r i]; simp
    · exact scan_length r i g
theorem loop_scan (E : Env) (h61 : ToldBy E 61 q61) (r : Row) (hs : short r.code = true) (hin : Inside r) (hts : ∀ (i : Nat) (c : Code'), r.code[i]? = some c → short c.to = true) (Q : Post) :
    ∀ m (g : List Bool) (t : Bool) (v : Pl), m ≤ r.code.length → g.length = r.code.length →
      (∀ env, env 1 = .ptr 0 0 → env 3 = .sl 1 0 g.length → env 4 = .bool (t || (scan r m g).2) → Q (.exit 2) env (sC r (scan r m g).1)) →
      RunT E 0 (.loop scan31) (setAll v [(1, .ptr 0 0), (3, .sl 1 0 g.length), (4, .bool t), (5, K ((m : Int) - 1))]) (sC r g) Q := by
  intro m
  induction m with
  | zero =>
    intro g t v hm hg h1
    have hki : decide (((0 : Nat) : Int) - 1 ≥ 0) = false := by decide
    simp only [scan, Bool.or_false] at h1
    refine lp ?_
    simp only [setAll, scan31, body31, e31]
    clear hg hm hin hs hts
    repeat' (first
    | with_reducible refine Red.go ?_
    | with_reducible refine wp_draw ?_
    | ((with_reducible apply blkK_pass); rfl)
    | ((with_reducible first | apply wpOps_dry | apply wpOps_wet | apply wpOps_wet0 | apply wpDraw_dry); (simp only [evDryF, evWetF, St.new, Nat.reduceAdd, Nat.zero_add, Nat.add_zero, Eo.evF, upd_ap, reduceIte, Nat.reduceEqDiff, Bool.false_eq_true, Bool.not_true, Bool.not_false, flat, binAV, binInt, *]; rfl))
    | ((with_reducible apply wpDraw_load); (simp only [Eo.evF, upd_ap, reduceIte, Nat.reduceEqDiff, Bool.false_eq_true, Bool.not_true, Bool.not_false, flat, binAV, binInt, *]; rfl); rfl; rfl)
    | ((with_reducible first | apply wpOps_undef | apply wpDraw_undef)
       · simp only [upd_ap, reduceIte, Nat.reduceEqDiff]; done)
    | ((with_reducible first | apply wpOps_test | apply wp_test | apply draw_test); (simp only [Eo.evF, upd_ap, reduceIte, Nat.reduceEqDiff, Bool.false_eq_true, Bool.not_true, Bool.not_false, flat, binAV, binInt, *]; rfl))
    | (with_reducible apply testK_mk
       all_goals (intro hb; try simp only [Bool.not_true, Bool.not_false, Bool.not_eq_true', Bool.not_eq_false'] at hb)))
    exact h1 _ rfl rfl rfl
  | succ m ih =>
    intro g t v hm hg h1
    have hki : decide ((m : Int) ≥ 0) = true := by simp
    have he : ((m + 1 : Nat) : Int) - 1 = (m : Int) := by omega
    have hw : IntKind.i64.wrap ((m : Int) - 1) = (m : Int) - 1 := by have := short_lt hs; rw [IntKind.wrap_i64]; omega
    obtain ⟨c, hc, _⟩ := get_ex (l := r.code) (k := m) (by omega)
    have hc' := map_get (f := encCode) hc
    obtain ⟨y, hy, _⟩ := get_ex (l := g) (k := m) (by omega)
    have hcut := cut_bool hy
    have hml : m < g.length := by omega
    have hover := over_bool hml
    obtain ⟨hok, hins⟩ := hin m c hc
    have q := q61_eq hs hc hok
    have hsu : succs r m = if (c.op == 258) = true then [] else nextL c m := by simp only [succs, hc]
    have hgd : g.getD m true = y := by simp [List.getD, hy]
    rw [he]
    have hl : (g.set m true).length = g.length := List.length_set ..
    have ih1 := fun v => ih (g.set m true) true v (by omega) (by rw [hl]; exact hg)
    have ih2 := fun v => ih g t v (by omega) hg
    rw [hl] at ih1
    simp only [Bool.true_or] at ih1
    have hlg : ∀ x ∈ nextL c m, 0 ≤ x ∧ x < g.length := by rw [hg]; exact hins
    have hsl : short (nextL c m) = true := short_next (hts m c hc) m
    have z : ((0 : Nat) : Int) = 0 := rfl
    clear ih
    simp only [scan, goesNow, hgd, hsu] at h1
    refine lp ?_
    simp only [setAll, scan31, body31, e31]
    cases hop : (c.op == 258) with
    | true =>
      have hst : stays g ([] : List Int) = false := rfl
      simp only [hop, if_true, hst, Bool.not_false, Bool.true_and] at h1
      clear hin hs hins hok hc hy hm q hg hlg hsl hsu hgd hts
      repeat' (first
      | with_reducible refine Red.go ?_
      | with_reducible refine wp_draw ?_
      | ((with_reducible apply blkK_pass); rfl)
      | ((with_reducible first | apply wpOps_dry | apply wpOps_wet | apply wpOps_wet0 | apply wpDraw_dry); (simp only [evDryF, evWetF, St.new, Nat.reduceAdd, Nat.zero_add, Nat.add_zero, Eo.evF, upd_ap, reduceIte, Nat.reduceEqDiff, Bool.false_eq_true, Bool.not_true, Bool.not_false, flat, binAV, binInt, gint, List.length_map, natOf_cast, row_sC1, *]; rfl))
      | ((with_reducible apply wpDraw_load); (simp only [Eo.evF, upd_ap, reduceIte, Nat.reduceEqDiff, Bool.false_eq_true, Bool.not_true, Bool.not_false, flat, binAV, binInt, gint, List.length_map, natOf_cast, row_sC1, *]; rfl); rfl; rfl)
      | ((with_reducible first | apply wpOps_undef | apply wpDraw_undef)
         · simp only [upd_ap, reduceIte, Nat.reduceEqDiff]; done)
      | ((with_reducible first | apply wpOps_test | apply wp_test | apply draw_test); (simp only [Eo.evF, upd_ap, reduceIte, Nat.reduceEqDiff, Bool.false_eq_true, Bool.not_true, Bool.not_false, flat, binAV, binInt, gint, List.length_map, natOf_cast, row_sC1, *]; rfl))
      | (with_reducible apply testK_mk
         all_goals (intro hb; try simp only [Bool.not_true, Bool.not_false, Bool.not_eq_true', Bool.not_eq_false'] at hb)))
      · subst hb
        simp only [Bool.not_false, if_true, Bool.or_true] at h1
        refine lpK_nrm ?_
        exact rebase (L := [(1, .ptr 0 0), (3, .sl 1 0 g.length), (4, .bool true), (5, K ((m : Int) - 1))]) ⟨rfl, rfl, rfl, rfl, trivial⟩ (ih1 _ h1)
      · subst hb
        simp only [Bool.not_true, Bool.false_eq_true, if_false] at h1
        refine lpK_nrm ?_
        exact rebase (L := [(1, .ptr 0 0), (3, .sl 1 0 g.length), (4, .bool t), (5, K ((m : Int) - 1))]) ⟨rfl, rfl, rfl, rfl, trivial⟩ (ih2 _ h1)
    | false =>
      simp only [hop, Bool.false_eq_true, if_false] at h1
      cases hop2 : (c.op == 276 || c.op == 277) with
      | true =>
        have hn : nextL c m = [] := by simp only [nextL, hop2, if_true]
        have hv : nextV c m = .nils := by simp only [nextV, hop2, if_true]
        have hst : stays g ([] : List Int) = false := rfl
        rw [hv] at q
        rw [hn, hst] at h1
        simp only [Bool.not_false, Bool.true_and] at h1
        clear hin hs hins hok hc hy hm hg hlg hsl hsu hgd hn hv hop2 hts
        repeat' (first
        | with_reducible refine Red.go ?_
        | with_reducible refine wp_draw ?_
        | ((with_reducible apply blkK_pass); rfl)
        | ((with_reducible first | apply wpOps_dry | apply wpOps_wet | apply wpOps_wet0 | apply wpDraw_dry); (simp only [evDryF, evWetF, St.new, Nat.reduceAdd, Nat.zero_add, Nat.add_zero, Eo.evF, upd_ap, reduceIte, Nat.reduceEqDiff, Bool.false_eq_true, Bool.not_true, Bool.not_false, flat, binAV, binInt, gint, List.length_map, natOf_cast, row_sC1, *]; rfl))
        | ((with_reducible apply wpDraw_load); (simp only [Eo.evF, upd_ap, reduceIte, Nat.reduceEqDiff, Bool.false_eq_true, Bool.not_true, Bool.not_false, flat, binAV, binInt, gint, List.length_map, natOf_cast, row_sC1, *]; rfl); rfl; rfl)
        | ((with_reducible first | apply wpOps_undef | apply wpDraw_undef)
           · simp only [upd_ap, reduceIte, Nat.reduceEqDiff]; done)
        | ((with_reducible first | apply wpOps_told | apply wpDraw_told); assumption; (simp only [evsF, List.map_cons, List.map_nil, Eo.evF, upd_ap, reduceIte, Nat.reduceEqDiff, Bool.false_eq_true, Bool.not_true, Bool.not_false, flat, binAV, binInt, gint, List.length_map, natOf_cast, row_sC1, *]; rfl); first | (simp only [q]; rfl) | assumption)
        | ((with_reducible first | apply wpOps_test | apply wp_test | apply draw_test); (simp only [Eo.evF, upd_ap, reduceIte, Nat.reduceEqDiff, Bool.false_eq_true, Bool.not_true, Bool.not_false, flat, binAV, binInt, gint, List.length_map, natOf_cast, row_sC1, *]; rfl))
        | (with_reducible apply testK_mk
           all_goals (intro hb; try simp only [Bool.not_true, Bool.not_false, Bool.not_eq_true', Bool.not_eq_false'] at hb)))
        refine wp_loop (lp ?_)
        repeat' (first
        | with_reducible refine Red.go ?_
        | with_reducible refine wp_draw ?_
        | ((with_reducible apply blkK_pass); rfl)
        | ((with_reducible first | apply wpOps_dry | apply wpOps_wet | apply wpOps_wet0 | apply wpDraw_dry); (simp only [evDryF, evWetF, St.new, Nat.reduceAdd, Nat.zero_add, Nat.add_zero, Eo.evF, upd_ap, reduceIte, Nat.reduceEqDiff, Bool.false_eq_true, Bool.not_true, Bool.not_false, flat, binAV, binInt, gint, List.length_map, natOf_cast, row_sC1, Int.lt_irrefl, decide_false, *]; rfl))
        | ((with_reducible apply wpDraw_load); (simp only [Eo.evF, upd_ap, reduceIte, Nat.reduceEqDiff, Bool.false_eq_true, Bool.not_true, Bool.not_false, flat, binAV, binInt, gint, List.length_map, natOf_cast, row_sC1, Int.lt_irrefl, decide_false, *]; rfl); rfl; rfl)
        | ((with_reducible first | apply wpOps_undef | apply wpDraw_undef)
           · simp only [upd_ap, reduceIte, Nat.reduceEqDiff]; done)
        | ((with_reducible first | apply wpOps_test | apply wp_test | apply draw_test); (simp only [Eo.evF, upd_ap, reduceIte, Nat.reduceEqDiff, Bool.false_eq_true, Bool.not_true, Bool.not_false, flat, binAV, binInt, gint, List.length_map, natOf_cast, row_sC1, Int.lt_irrefl, decide_false, *]; rfl))
        | (with_reducible apply testK_mk
           all_goals (intro hb; try simp only [Bool.not_true, Bool.not_false, Bool.not_eq_true', Bool.not_eq_false'] at hb)))
        · subst hb
          simp only [Bool.not_false, if_true, Bool.or_true] at h1
          refine lpK_nrm ?_
          exact rebase (L := [(1, .ptr 0 0), (3, .sl 1 0 g.length), (4, .bool true), (5, K ((m : Int) - 1))]) ⟨rfl, rfl, rfl, rfl, trivial⟩ (ih1 _ h1)
        · subst hb
          simp only [Bool.not_true, Bool.false_eq_true, if_false] at h1
          refine lpK_nrm ?_
          exact rebase (L := [(1, .ptr 0 0), (3, .sl 1 0 g.length), (4, .bool t), (5, K ((m : Int) - 1))]) ⟨rfl, rfl, rfl, rfl, trivial⟩ (ih2 _ h1)
      | false =>
        have hv : nextV c m = ints (nextL c m) := by simp only [nextV, hop2, Bool.false_eq_true, if_false]
        rw [hv] at q
        clear hin hs hins hok hc hm hg hsu hgd hv hop2 hts
        clear hy
        repeat' (first
        | with_reducible refine Red.go ?_
        | with_reducible refine wp_draw ?_
        | ((with_reducible apply blkK_pass); rfl)
        | ((with_reducible first | apply wpOps_dry | apply wpOps_wet | apply wpOps_wet0 | apply wpDraw_dry); (simp only [evDryF, evWetF, St.new, Nat.reduceAdd, Nat.zero_add, Nat.add_zero, Eo.evF, upd_ap, reduceIte, Nat.reduceEqDiff, Bool.false_eq_true, Bool.not_true, Bool.not_false, flat, binAV, binInt, gint, List.length_map, natOf_cast, row_sC1, *]; rfl))
        | ((with_reducible apply wpDraw_load); (simp only [Eo.evF, upd_ap, reduceIte, Nat.reduceEqDiff, Bool.false_eq_true, Bool.not_true, Bool.not_false, flat, binAV, binInt, gint, List.length_map, natOf_cast, row_sC1, *]; rfl); rfl; rfl)
        | ((with_reducible first | apply wpOps_undef | apply wpDraw_undef)
           · simp only [upd_ap, reduceIte, Nat.reduceEqDiff]; done)
        | ((with_reducible first | apply wpOps_told | apply wpDraw_told); assumption; (simp only [evsF, List.map_cons, List.map_nil, Eo.evF, upd_ap, reduceIte, Nat.reduceEqDiff, Bool.false_eq_true, Bool.not_true, Bool.not_false, flat, binAV, binInt, gint, List.length_map, natOf_cast, row_sC1, *]; rfl); first | (simp only [q]; rfl) | assumption)
        | ((with_reducible first | apply wpOps_test | apply wp_test | apply draw_test); (simp only [Eo.evF, upd_ap, reduceIte, Nat.reduceEqDiff, Bool.false_eq_true, Bool.not_true, Bool.not_false, flat, binAV, binInt, gint, List.length_map, natOf_cast, row_sC1, *]; rfl))
        | (with_reducible apply testK_mk
           all_goals (intro hb; try simp only [Bool.not_true, Bool.not_false, Bool.not_eq_true', Bool.not_eq_false'] at hb)))
        refine wp_loop (rebase (L := [(1, .ptr 0 0), (3, .sl 1 0 g.length), (4, .bool t), (5, K m), (6, .bool false), (7, ints (nextL c m)), (8, K (0 : Nat))]) ⟨rfl, rfl, rfl, rfl, rfl, rfl, rfl, trivial⟩
          (loop_look E r g (nextL c m) hsl hlg t m _ (nextL c m).length 0 false _ (by omega) (fun env e1 e3 e4 e5 e6 => ?_)))
        rw [Bool.false_or, List.drop_zero] at e6
        generalize stays g (nextL c m) = st at h1 e6
        clear q hlg hsl
        cases st with
        | true =>
          simp only [Bool.not_true, Bool.false_and, Bool.false_eq_true, if_false] at h1
          repeat' (first
          | with_reducible refine Red.go ?_
          | with_reducible refine wp_draw ?_
          | ((with_reducible apply blkK_pass); rfl)
          | ((with_reducible first | apply wpOps_dry | apply wpOps_wet | apply wpOps_wet0 | apply wpDraw_dry); (simp only [evDryF, evWetF, St.new, Nat.reduceAdd, Nat.zero_add, Nat.add_zero, Eo.evF, upd_ap, reduceIte, Nat.reduceEqDiff, Bool.false_eq_true, Bool.not_true, Bool.not_false, flat, binAV, binInt, gint, List.length_map, natOf_cast, row_sC1, *]; rfl))
          | ((with_reducible apply wpDraw_load); (simp only [Eo.evF, upd_ap, reduceIte, Nat.reduceEqDiff, Bool.false_eq_true, Bool.not_true, Bool.not_false, flat, binAV, binInt, gint, List.length_map, natOf_cast, row_sC1, *]; rfl); rfl; rfl)
          | ((with_reducible first | apply wpOps_undef | apply wpDraw_undef)
             · simp only [upd_ap, reduceIte, Nat.reduceEqDiff]; done)
          | ((with_reducible first | apply wpOps_test | apply wp_test | apply draw_test); (simp only [Eo.evF, upd_ap, reduceIte, Nat.reduceEqDiff, Bool.false_eq_true, Bool.not_true, Bool.not_false, flat, binAV, binInt, gint, List.length_map, natOf_cast, row_sC1, *]; rfl))
          | (with_reducible apply testK_mk
             all_goals (intro hb; try simp only [Bool.not_true, Bool.not_false, Bool.not_eq_true', Bool.not_eq_false'] at hb)))
          refine lpK_nrm ?_
          exact rebase (L := [(1, .ptr 0 0), (3, .sl 1 0 g.length), (4, .bool t), (5, K ((m : Int) - 1))]) ⟨e1, e3, e4, rfl, trivial⟩ (ih2 _ h1)
        | false =>
          simp only [Bool.not_false, Bool.true_and] at h1
          repeat' (first
          | with_reducible refine Red.go ?_
          | with_reducible refine wp_draw ?_
          | ((with_reducible apply blkK_pass); rfl)
          | ((with_reducible first | apply wpOps_dry | apply wpOps_wet | apply wpOps_wet0 | apply wpDraw_dry); (simp only [evDryF, evWetF, St.new, Nat.reduceAdd, Nat.zero_add, Nat.add_zero, Eo.evF, upd_ap, reduceIte, Nat.reduceEqDiff, Bool.false_eq_true, Bool.not_true, Bool.not_false, flat, binAV, binInt, gint, List.length_map, natOf_cast, row_sC1, *]; rfl))
          | ((with_reducible apply wpDraw_load); (simp only [Eo.evF, upd_ap, reduceIte, Nat.reduceEqDiff, Bool.false_eq_true, Bool.not_true, Bool.not_false, flat, binAV, binInt, gint, List.length_map, natOf_cast, row_sC1, *]; rfl); rfl; rfl)
          | ((with_reducible first | apply wpOps_undef | apply wpDraw_undef)
             · simp only [upd_ap, reduceIte, Nat.reduceEqDiff]; done)
          | ((with_reducible first | apply wpOps_test | apply wp_test | apply draw_test); (simp only [Eo.evF, upd_ap, reduceIte, Nat.reduceEqDiff, Bool.false_eq_true, Bool.not_true, Bool.not_false, flat, binAV, binInt, gint, List.length_map, natOf_cast, row_sC1, *]; rfl))
          | (with_reducible apply testK_mk
             all_goals (intro hb; try simp only [Bool.not_true, Bool.not_false, Bool.not_eq_true', Bool.not_eq_false'] at hb)))
          · subst hb
            simp only [Bool.not_false, if_true, Bool.or_true] at h1
            refine lpK_nrm ?_
            exact rebase (L := [(1, .ptr 0 0), (3, .sl 1 0 g.length), (4, .bool true), (5, K ((m : Int) - 1))]) ⟨e1, e3, rfl, rfl, trivial⟩ (ih1 _ h1)
          · subst hb
            simp only [Bool.not_true, Bool.false_eq_true, if_false] at h1
            refine lpK_nrm ?_
            exact rebase (L := [(1, .ptr 0 0), (3, .sl 1 0 g.length), (4, .bool t), (5, K ((m : Int) - 1))]) ⟨e1, e3, e4, rfl, trivial⟩ (ih2 _ h1)
end Go.Ev.Lc
/- LowerChecks, the document's side: circles, the rounds. -/
namespace Go.Ev.Lc
open Go.Ev.Tab
set_option maxRecDepth 100000
set_option linter.all false

def cnt : List Bool → Nat
  | [] => 0
  | b :: r => (if b = true then 0 else 1) + cnt r
theorem cnt_set : ∀ {g : List Bool} {i : Nat}, g[i]? = some false → cnt (g.set i true) + 1 = cnt g
  | b :: r, 0, h => by simp at h; subst h; simp [cnt]; omega
  | b :: r, i + 1, h => by
    have := cnt_set (g := r) (i := i) (by simpa using h)
    simp only [List.set_cons_succ, cnt]
    omega
  | [], i, h => by simp at h
/-- What a round keeps. -/
structure Inv (r : Row) (g : List Bool) : Prop where
  len : g.length = r.code.length
  live : ∀ S, Live r S → ∀ i, S i → g[i]? = some false
def Closed (r : Row) (g : List Bool) : Prop := ∀ i, i < r.code.length → goesNow r g i = false
theorem stays_of {g : List Bool} {l : List Int} {j : Nat} (h1 : (j : Int) ∈ l) (h2 : g[j]? = some false) : stays g l = true := by
  simp only [stays, List.any_eq_true]
  exact ⟨j, h1, by simp [List.getD, h2]⟩
theorem goesNow_get {r : Row} {g : List Bool} {i : Nat} (h : goesNow r g i = true) : g[i]? = some false := by
  simp only [goesNow, Bool.and_eq_true, Bool.not_eq_true', List.getD] at h
  cases hg : g[i]? with
  | none => rw [hg] at h; simp at h
  | some b => rw [hg] at h; simp at h; rw [h.2]
theorem Inv.step {r : Row} {g : List Bool} (h : Inv r g) {i : Nat} (hg : goesNow r g i = true) : Inv r (g.set i true) := by
  refine ⟨by rw [List.length_set]; exact h.len, fun S hS k hk => ?_⟩
  have hk0 := h.live S hS k hk
  by_cases e : k = i
  · subst e
    exfalso
    obtain ⟨_, j, hj1, hj2⟩ := hS k hk
    have := stays_of hj1 (h.live S hS j hj2)
    simp [goesNow, this] at hg
  · rw [List.getElem?_set_ne (fun h => e h.symm)]
    exact hk0
theorem scan_inv {r : Row} : ∀ (m : Nat) {g : List Bool}, Inv r g → Inv r (scan r m g).1
  | 0, _, h => h
  | m + 1, g, h => by
    unfold scan
    split
    · rename_i hg; exact scan_inv m (h.step hg)
    · exact scan_inv m h
theorem scan_cnt {r : Row} : ∀ (m : Nat) (g : List Bool), cnt (scan r m g).1 ≤ cnt g ∧ ((scan r m g).2 = true → cnt (scan r m g).1 < cnt g)
  | 0, g => ⟨Nat.le_refl _, fun h => by simp [scan] at h⟩
  | m + 1, g => by
    unfold scan
    split
    · rename_i hg
      have h1 := cnt_set (goesNow_get hg)
      have h2 := (scan_cnt (r := r) m (g.set m true)).1
      exact ⟨by simp only; omega, fun _ => by simp only; omega⟩
    · exact scan_cnt m g
theorem scan_still {r : Row} : ∀ (m : Nat) (g : List Bool), (scan r m g).2 = false → (scan r m g).1 = g ∧ ∀ i, i < m → goesNow r g i = false
  | 0, g, _ => ⟨rfl, fun i hi => absurd hi (Nat.not_lt_zero i)⟩
  | m + 1, g, h => by
    unfold scan at h ⊢
    split at h
    · simp at h
    · rename_i hg
      rw [if_neg hg]
      obtain ⟨h1, h2⟩ := scan_still m g h
      refine ⟨h1, fun i hi => ?_⟩
      rcases Nat.lt_or_ge i m with hlt | hge
      · exact h2 i hlt
      · have : i = m := by omega
        subst this
        simpa using hg

theorem loop_off (E : Env) (r : Row) (g : List Bool) (v : Pl) (Q : Post) (h : ∀ env, env 3 = .sl 1 0 g.length → Q (.exit 0) env (sC r g)) :
    RunT E 0 (.loop body31) (setAll v [(1, .ptr 0 0), (3, .sl 1 0 g.length), (4, .bool false)]) (sC r g) Q := by
  refine lp ?_
  simp only [setAll, body31, e31]
  repeat' (first
  | with_reducible refine Red.go ?_
  | ((with_reducible apply blkK_pass); rfl)
  | ((with_reducible first | apply wpOps_dry | apply wpOps_wet | apply wpOps_wet0); (simp only [evDryF, evWetF, St.new, Nat.reduceAdd, Nat.zero_add, Nat.add_zero, Eo.evF, upd_ap, reduceIte, Nat.reduceEqDiff, Bool.false_eq_true, Bool.not_true, Bool.not_false, flat, *]; rfl))
  | ((with_reducible apply wpOps_undef)
     · simp only [upd_ap, reduceIte, Nat.reduceEqDiff]; done)
  | ((with_reducible first | apply wpOps_test | apply wp_test); (simp only [Eo.evF, upd_ap, reduceIte, Nat.reduceEqDiff, Bool.false_eq_true, Bool.not_true, Bool.not_false, flat, *]; rfl))
  | (with_reducible apply testK_mk
     all_goals (intro hb; try simp only [Bool.not_true, Bool.not_false, Bool.not_eq_true', Bool.not_eq_false'] at hb)))
  exact h _ rfl
theorem loop_rounds (E : Env) (h61 : ToldBy E 61 q61) (r : Row) (hs : short r.code = true) (hin : Inside r) (hts : ∀ (i : Nat) (c : Code'), r.code[i]? = some c → short c.to = true) (Q : Post)
    (h : ∀ g env, Inv r g → Closed r g → env 3 = .sl 1 0 g.length → Q (.exit 0) env (sC r g)) :
    ∀ m (g : List Bool) (v : Pl), cnt g = m → Inv r g → RunT E 0 (.loop body31) (setAll v [(1, .ptr 0 0), (3, .sl 1 0 g.length), (4, .bool true)]) (sC r g) Q := by
  intro m
  induction m using Nat.strongRecOn with
  | ind m ih =>
    intro g v hm hi
    have hlen := hi.len
    have hw : IntKind.i64.wrap ((r.code.length : Int) - 1) = (r.code.length : Int) - 1 := by have := short_lt hs; rw [IntKind.wrap_i64]; omega
    have hscan := fun Q v => loop_scan E h61 r hs hin hts Q r.code.length g false v (Nat.le_refl _) hlen
    have hsl := scan_length r r.code.length g
    have hsi := scan_inv r.code.length hi
    have hsc := scan_cnt (r := r) r.code.length g
    have hss := scan_still (r := r) r.code.length g
    refine lp ?_
    simp only [setAll, body31, e31]
    simp only [Bool.false_or] at hscan
    obtain ⟨g', ch, hsr⟩ : ∃ g' ch, scan r r.code.length g = (g', ch) := ⟨_, _, rfl⟩
    rw [hsr] at hscan hsl hsi hsc hss
    simp only at hscan hsl hsi hsc hss
    clear hsr
    clear hin hts hlen hs
    have hih : ch = true → ∀ v, RunT E 0 (.loop body31) (setAll v [(1, .ptr 0 0), (3, .sl 1 0 g'.length), (4, .bool true)]) (sC r g') Q := fun hc v => ih (cnt g') (by rw [← hm]; exact hsc.2 hc) g' v rfl hsi
    have hoff : ch = false → g' = g ∧ ∀ v, RunT E 0 (.loop body31) (setAll v [(1, .ptr 0 0), (3, .sl 1 0 g.length), (4, .bool false)]) (sC r g) Q := fun hc => ⟨(hss hc).1, fun v => loop_off E r g v Q fun env e => h g env hi (fun i hi => (hss hc).2 i hi) e⟩
    clear ih hsc hss hm hsi hi h
    rw [hsl] at hih
    repeat' (first
    | with_reducible refine Red.go ?_
    | with_reducible refine wp_draw ?_
    | ((with_reducible apply blkK_pass); rfl)
    | ((with_reducible first | apply wpOps_dry | apply wpOps_wet | apply wpOps_wet0 | apply wpDraw_dry); (simp only [evDryF, evWetF, St.new, Nat.reduceAdd, Nat.zero_add, Nat.add_zero, Eo.evF, upd_ap, reduceIte, Nat.reduceEqDiff, Bool.false_eq_true, Bool.not_true, Bool.not_false, flat, binAV, binInt, gint, List.length_map, *]; rfl))
    | ((with_reducible apply wpDraw_load); (simp only [Eo.evF, upd_ap, reduceIte, Nat.reduceEqDiff, Bool.false_eq_true, Bool.not_true, Bool.not_false, flat, binAV, binInt, gint, List.length_map, *]; rfl); rfl; rfl)
    | ((with_reducible first | apply wpOps_undef | apply wpDraw_undef)
       · simp only [upd_ap, reduceIte, Nat.reduceEqDiff]; done)
    | ((with_reducible first | apply wpOps_test | apply wp_test | apply draw_test); (simp only [Eo.evF, upd_ap, reduceIte, Nat.reduceEqDiff, Bool.false_eq_true, Bool.not_true, Bool.not_false, flat, binAV, binInt, gint, List.length_map, *]; rfl))
    | (with_reducible apply testK_mk
       all_goals (intro hb; try simp only [Bool.not_true, Bool.not_false, Bool.not_eq_true', Bool.not_eq_false'] at hb)))
    refine wp_loop (rebase (L := [(1, .ptr 0 0), (3, .sl 1 0 g.length), (4, .bool false), (5, K ((r.code.length : Int) - 1))]) ⟨rfl, rfl, rfl, rfl, trivial⟩ (hscan _ _ (fun env e1 e3 e4 => ?_)))
    clear hscan hw
    cases ch with
    | true =>
      have hih := hih rfl
      clear hoff hsl
      repeat' (first
      | with_reducible refine Red.go ?_
      | with_reducible refine wp_draw ?_
      | ((with_reducible apply blkK_pass); rfl)
      | ((with_reducible first | apply wpOps_dry | apply wpOps_wet | apply wpOps_wet0 | apply wpDraw_dry); (simp only [evDryF, evWetF, St.new, Nat.reduceAdd, Nat.zero_add, Nat.add_zero, Eo.evF, upd_ap, reduceIte, Nat.reduceEqDiff, Bool.false_eq_true, Bool.not_true, Bool.not_false, flat, *]; rfl))
      | ((with_reducible apply wpDraw_load); (simp only [Eo.evF, upd_ap, reduceIte, Nat.reduceEqDiff, Bool.false_eq_true, Bool.not_true, Bool.not_false, flat, *]; rfl); rfl; rfl)
      | ((with_reducible first | apply wpOps_undef | apply wpDraw_undef)
         · simp only [upd_ap, reduceIte, Nat.reduceEqDiff]; done)
      | ((with_reducible first | apply wpOps_test | apply wp_test | apply draw_test); (simp only [Eo.evF, upd_ap, reduceIte, Nat.reduceEqDiff, Bool.false_eq_true, Bool.not_true, Bool.not_false, flat, *]; rfl))
      | (with_reducible apply testK_mk
         all_goals (intro hb; try simp only [Bool.not_true, Bool.not_false, Bool.not_eq_true', Bool.not_eq_false'] at hb)))
      refine lpK_nrm ?_
      exact rebase (L := [(1, .ptr 0 0), (3, .sl 1 0 g.length), (4, .bool true)]) ⟨e1, e3, e4, trivial⟩ (hih _)
    | false =>
      obtain ⟨hg, hoff⟩ := hoff rfl
      subst hg
      clear hih hsl
      repeat' (first
      | with_reducible refine Red.go ?_
      | with_reducible refine wp_draw ?_
      | ((with_reducible apply blkK_pass); rfl)
      | ((with_reducible first | apply wpOps_dry | apply wpOps_wet | apply wpOps_wet0 | apply wpDraw_dry); (simp only [evDryF, evWetF, St.new, Nat.reduceAdd, Nat.zero_add, Nat.add_zero, Eo.evF, upd_ap, reduceIte, Nat.reduceEqDiff, Bool.false_eq_true, Bool.not_true, Bool.not_false, flat, *]; rfl))
      | ((with_reducible apply wpDraw_load); (simp only [Eo.evF, upd_ap, reduceIte, Nat.reduceEqDiff, Bool.false_eq_true, Bool.not_true, Bool.not_false, flat, *]; rfl); rfl; rfl)
      | ((with_reducible first | apply wpOps_undef | apply wpDraw_undef)
         · simp only [upd_ap, reduceIte, Nat.reduceEqDiff]; done)
      | ((with_reducible first | apply wpOps_test | apply wp_test | apply draw_test); (simp only [Eo.evF, upd_ap, reduceIte, Nat.reduceEqDiff, Bool.false_eq_true, Bool.not_true, Bool.not_false, flat, *]; rfl))
      | (with_reducible apply testK_mk
         all_goals (intro hb; try simp only [Bool.not_true, Bool.not_false, Bool.not_eq_true', Bool.not_eq_false'] at hb)))
      refine lpK_nrm ?_
      exact rebase (L := [(1, .ptr 0 0), (3, .sl 1 0 g'.length), (4, .bool false)]) ⟨e1, e3, e4, trivial⟩ (hoff _)

/-! ### the last look, and the whole -/
def last31 := match e31.body with
  | .seq _ (.seq _ (.seq _ (.seq (.seq _ (.block _ (.loop b))) _))) => b
  | _ => .skip
theorem loop_last (E : Env) (r : Row) (g : List Bool) (hl : short g = true) (Q : Post) : ∀ m k (v : Pl), k + m = g.length →
      ((g.drop k).any (fun b => !b) = false → ∀ env, Q (.exit 6) env (sC r g)) → ((g.drop k).any (fun b => !b) = true → ∀ env, env 2 = .bool true → Q .ret env (sC r g)) →
      RunT E 0 (.loop last31) (setAll v [(3, .sl 1 0 g.length), (9, K k)]) (sC r g) Q := by
  intro m
  induction m with
  | zero =>
    intro k v hk h1 h2
    have hki := lt_f (l := g) (k := k) (by omega)
    have h1 := h1 (by rw [List.drop_eq_nil_of_le (by omega)]; rfl)
    clear hk h2
    refine lp ?_
    simp only [setAll, last31, e31]
    repeat' (first
    | with_reducible refine Red.go ?_
    | ((with_reducible apply blkK_pass); rfl)
    | ((with_reducible first | apply wpOps_dry | apply wpOps_wet | apply wpOps_wet0); (simp only [evDryF, evWetF, St.new, Nat.reduceAdd, Nat.zero_add, Nat.add_zero, Eo.evF, upd_ap, reduceIte, Nat.reduceEqDiff, Bool.false_eq_true, Bool.not_true, Bool.not_false, flat, binAV, binInt, gint, *]; rfl))
    | ((with_reducible apply wpOps_undef)
       · simp only [upd_ap, reduceIte, Nat.reduceEqDiff]; done)
    | ((with_reducible first | apply wpOps_test | apply wp_test); (simp only [Eo.evF, upd_ap, reduceIte, Nat.reduceEqDiff, Bool.false_eq_true, Bool.not_true, Bool.not_false, flat, binAV, binInt, gint, *]; rfl))
    | (with_reducible apply testK_mk
       all_goals (intro hb; try simp only [Bool.not_true, Bool.not_false, Bool.not_eq_true', Bool.not_eq_false'] at hb)))
    exact h1 _
  | succ m ih =>
    intro k v hk h1 h2
    have hkl : k < g.length := by omega
    have hki := lt_t hkl
    obtain ⟨y, hy, hd⟩ := get_ex hkl
    have hcut := cut_bool hy
    have hw := wrap_succ hl hkl
    rw [hd, List.any_cons] at h1 h2
    have ih := fun v => ih (k + 1) v (by omega)
    refine lp ?_
    simp only [setAll, last31, e31]
    clear hy hd
    repeat' (first
    | with_reducible refine Red.go ?_
    | ((with_reducible apply blkK_pass); rfl)
    | ((with_reducible first | apply wpOps_dry | apply wpOps_wet | apply wpOps_wet0); (simp only [evDryF, evWetF, St.new, Nat.reduceAdd, Nat.zero_add, Nat.add_zero, Eo.evF, upd_ap, reduceIte, Nat.reduceEqDiff, Bool.false_eq_true, Bool.not_true, Bool.not_false, flat, binAV, binInt, gint, natOf_cast, row_sC1, *]; rfl))
    | ((with_reducible apply wpOps_undef)
       · simp only [upd_ap, reduceIte, Nat.reduceEqDiff]; done)
    | ((with_reducible first | apply wpOps_test | apply wp_test); (simp only [Eo.evF, upd_ap, reduceIte, Nat.reduceEqDiff, Bool.false_eq_true, Bool.not_true, Bool.not_false, flat, binAV, binInt, gint, natOf_cast, row_sC1, *]; rfl))
    | (with_reducible apply testK_mk
       all_goals (intro hb; try simp only [Bool.not_true, Bool.not_false, Bool.not_eq_true', Bool.not_eq_false'] at hb)))
    · subst hb
      exact h2 rfl _ rfl
    · subst hb
      simp only [Bool.not_true, Bool.false_or] at h1 h2
      refine lpK_nrm ?_
      exact rebase (L := [(3, .sl 1 0 g.length), (9, K (k + 1 : Nat))]) ⟨rfl, rfl, trivial⟩ (ih _ h1 h2)

/-- Is there a circle without a tick? -/
noncomputable def circlesB (r : Row) : Bool := @decide (∃ S, Live r S ∧ ∃ i, S i) (Classical.propDecidable _)
theorem succs_pos {r : Row} (hin : Inside r) {i : Nat} {x : Int} (h : x ∈ succs r i) : 0 ≤ x := by
  unfold succs at h
  split at h
  · rename_i c hc
    split at h
    · simp at h
    · exact ((hin i c hc).2 x h).1
  · simp at h
theorem circles_true {r : Row} {g : List Bool} (hin : Inside r) (hi : Inv r g) (hc : Closed r g) : circlesB r = g.any fun b => !b := by
  unfold circlesB
  cases hg : g.any fun b => !b with
  | false =>
    rw [@decide_eq_false_iff_not _ (Classical.propDecidable _)]
    rintro ⟨S, hS, i, hSi⟩
    have h1 := hi.live S hS i hSi
    have : g.any (fun b => !b) = true := List.any_eq_true.2 ⟨false, List.mem_of_getElem? h1, rfl⟩
    rw [hg] at this
    simp at this
  | true =>
    rw [@decide_eq_true_iff _ (Classical.propDecidable _)]
    obtain ⟨b, hb, hb2⟩ := List.any_eq_true.1 hg
    have hb3 : b = false := by simpa using hb2
    subst hb3
    obtain ⟨i, hgi⟩ := List.mem_iff_getElem?.1 hb
    refine ⟨fun i => g[i]? = some false, fun i hi2 => ?_, i, hgi⟩
    have hi2 : g[i]? = some false := hi2
    have hlt : i < g.length := by
      rcases Nat.lt_or_ge i g.length with h | h
      · exact h
      · rw [List.getElem?_eq_none h] at hi2; simp at hi2
    have hlt2 : i < r.code.length := by rw [← hi.len]; exact hlt
    refine ⟨hlt2, ?_⟩
    have hn := hc i hlt2
    simp only [goesNow, List.getD, hi2, Option.getD_some, Bool.not_false, Bool.and_true, Bool.not_eq_false'] at hn
    simp only [stays, List.any_eq_true] at hn
    obtain ⟨x, hx1, hx2⟩ := hn
    have hx0 := succs_pos hin hx1
    refine ⟨x.toNat, by rw [Int.toNat_of_nonneg hx0]; exact hx1, ?_⟩
    simp only [List.getD] at hx2
    cases hgx : g[x.toNat]? with
    | none => rw [hgx] at hx2; simp at hx2
    | some b => rw [hgx] at hx2; simp at hx2; exact hgx.trans (congrArg some hx2)
theorem flat_rep (n : Nat) : (List.replicate n [AV.bool false]).flatten = (List.replicate n false).map AV.bool := by
  induction n with
  | zero => rfl
  | succ n ih => simp only [List.replicate_succ, List.flatten_cons, List.map_cons, ih]; rfl
theorem inv_start (r : Row) : Inv r (List.replicate r.code.length false) := by
  refine ⟨by simp, fun S hS i hSi => ?_⟩
  obtain ⟨h1, _⟩ := hS i hSi
  simp [List.getElem?_replicate, h1]
set_option maxHeartbeats 1000000 in
theorem t31 (E : Env) (h : E.fns 31 = some e31) (h61 : ToldBy E 61 q61) (r : Row) (hn : r.code.length ≤ 4096) (hin : Inside r) (hts : ∀ (i : Nat) (c : Code'), r.code[i]? = some c → short c.to = true) :
    AnsK E 0 31 [encRow r] s0 (ans (.bool (circlesB r))) := by
  have hs : short r.code = true := by unfold short; simp; omega
  have hroom : (r.code.length ≤ r.code.length ∧ roomy r.code.length 1 = true) := ⟨Nat.le_refl _, by unfold roomy; apply ble_of; omega⟩
  refine fn_run h rfl rfl (plOf_args0 ..) ?_
  simp only [argPl, e31]
  have hrep := flat_rep r.code.length
  have hin' := hin
  have hts' := hts
  clear hin hts
  repeat' (first
  | with_reducible refine Red.go ?_
  | with_reducible refine wp_draw ?_
  | ((with_reducible apply blkK_pass); rfl)
  | ((with_reducible first | apply wpOps_dry | apply wpOps_wet | apply wpOps_wet0 | apply wpDraw_dry); (simp only [evDryF, evWetF, St.new, Nat.reduceAdd, Nat.zero_add, Nat.add_zero, Eo.evF, upd_ap, reduceIte, Nat.reduceEqDiff, Bool.false_eq_true, Bool.not_true, Bool.not_false, flat, binAV, binInt, gint, List.length_map, natOf_cast, *]; rfl))
  | ((with_reducible apply wpDraw_load); (simp only [Eo.evF, upd_ap, reduceIte, Nat.reduceEqDiff, Bool.false_eq_true, Bool.not_true, Bool.not_false, flat, binAV, binInt, gint, List.length_map, natOf_cast, *]; rfl); rfl; rfl)
  | ((with_reducible first | apply wpOps_undef | apply wpDraw_undef)
     · simp only [upd_ap, reduceIte, Nat.reduceEqDiff]; done)
  | ((with_reducible first | apply wpOps_test | apply wp_test | apply draw_test); (simp only [Eo.evF, upd_ap, reduceIte, Nat.reduceEqDiff, Bool.false_eq_true, Bool.not_true, Bool.not_false, flat, binAV, binInt, gint, List.length_map, natOf_cast, *]; rfl))
  | (with_reducible apply testK_mk
     all_goals (intro hb; try simp only [Bool.not_true, Bool.not_false, Bool.not_eq_true', Bool.not_eq_false'] at hb)))
  refine wp_loop (rebase (L := [(1, .ptr 0 0), (3, .sl 1 0 (List.replicate r.code.length false).length), (4, .bool true)]) ⟨rfl, by rw [List.length_replicate]; rfl, rfl, trivial⟩
    (loop_rounds E h61 r hs hin' hts' _ (fun g env hi hc e3 => ?_) _ (List.replicate r.code.length false) _ rfl (inv_start r)))
  have hcir := circles_true hin' hi hc
  have hgs : short g = true := by have := hi.len; unfold short; simp; omega
  clear hin' hts' hi hc hrep hroom hs hn
  repeat' (first
  | with_reducible refine Red.go ?_
  | with_reducible refine wp_draw ?_
  | ((with_reducible apply blkK_pass); rfl)
  | ((with_reducible first | apply wpOps_dry | apply wpOps_wet | apply wpOps_wet0 | apply wpDraw_dry); (simp only [evDryF, evWetF, St.new, Nat.reduceAdd, Nat.zero_add, Nat.add_zero, Eo.evF, upd_ap, reduceIte, Nat.reduceEqDiff, Bool.false_eq_true, Bool.not_true, Bool.not_false, flat, *]; rfl))
  | ((with_reducible apply wpDraw_load); (simp only [Eo.evF, upd_ap, reduceIte, Nat.reduceEqDiff, Bool.false_eq_true, Bool.not_true, Bool.not_false, flat, *]; rfl); rfl; rfl)
  | ((with_reducible first | apply wpOps_undef | apply wpDraw_undef)
     · simp only [upd_ap, reduceIte, Nat.reduceEqDiff]; done)
  | ((with_reducible first | apply wpOps_test | apply wp_test | apply draw_test); (simp only [Eo.evF, upd_ap, reduceIte, Nat.reduceEqDiff, Bool.false_eq_true, Bool.not_true, Bool.not_false, flat, *]; rfl))
  | (with_reducible apply testK_mk
     all_goals (intro hb; try simp only [Bool.not_true, Bool.not_false, Bool.not_eq_true', Bool.not_eq_false'] at hb)))
  refine wp_loop (rebase (L := [(3, .sl 1 0 g.length), (9, K (0 : Nat))]) ⟨e3, rfl, trivial⟩ (loop_last E r g hgs _ g.length 0 _ (by omega) (fun ha env => ?_) (fun ha env e2 => ?_)))
  · rw [List.drop_zero] at ha
    rw [ha] at hcir
    clear ha e3
    repeat' (first
    | with_reducible refine Red.go ?_
    | with_reducible refine wp_draw ?_
    | ((with_reducible apply blkK_pass); rfl)
    | ((with_reducible first | apply wpOps_dry | apply wpOps_wet | apply wpOps_wet0 | apply wpDraw_dry); (simp only [evDryF, evWetF, St.new, Nat.reduceAdd, Nat.zero_add, Nat.add_zero, Eo.evF, upd_ap, reduceIte, Nat.reduceEqDiff, Bool.false_eq_true, Bool.not_true, Bool.not_false, flat, *]; rfl))
    | ((with_reducible apply wpDraw_load); (simp only [Eo.evF, upd_ap, reduceIte, Nat.reduceEqDiff, Bool.false_eq_true, Bool.not_true, Bool.not_false, flat, *]; rfl); rfl; rfl)
    | ((with_reducible first | apply wpOps_undef | apply wpDraw_undef)
       · simp only [upd_ap, reduceIte, Nat.reduceEqDiff]; done)
    | ((with_reducible first | apply wpOps_test | apply wp_test | apply draw_test); (simp only [Eo.evF, upd_ap, reduceIte, Nat.reduceEqDiff, Bool.false_eq_true, Bool.not_true, Bool.not_false, flat, *]; rfl))
    | (with_reducible apply testK_mk
       all_goals (intro hb; try simp only [Bool.not_true, Bool.not_false, Bool.not_eq_true', Bool.not_eq_false'] at hb)))
    refine fnK_one ?_
    simp [ans, tupled, upd_ap, hcir]
  · rw [List.drop_zero] at ha
    rw [ha] at hcir
    clear ha e3
    repeat' (first
    | with_reducible refine Red.go ?_
    | with_reducible refine wp_draw ?_
    | ((with_reducible apply blkK_pass); rfl)
    | ((with_reducible first | apply wpOps_dry | apply wpOps_wet | apply wpOps_wet0 | apply wpDraw_dry); (simp only [evDryF, evWetF, St.new, Nat.reduceAdd, Nat.zero_add, Nat.add_zero, Eo.evF, upd_ap, reduceIte, Nat.reduceEqDiff, Bool.false_eq_true, Bool.not_true, Bool.not_false, flat, *]; rfl))
    | ((with_reducible apply wpDraw_load); (simp only [Eo.evF, upd_ap, reduceIte, Nat.reduceEqDiff, Bool.false_eq_true, Bool.not_true, Bool.not_false, flat, *]; rfl); rfl; rfl)
    | ((with_reducible first | apply wpOps_undef | apply wpDraw_undef)
       · simp only [upd_ap, reduceIte, Nat.reduceEqDiff]; done)
    | ((with_reducible first | apply wpOps_test | apply wp_test | apply draw_test); (simp only [Eo.evF, upd_ap, reduceIte, Nat.reduceEqDiff, Bool.false_eq_true, Bool.not_true, Bool.not_false, flat, *]; rfl))
    | (with_reducible apply testK_mk
       all_goals (intro hb; try simp only [Bool.not_true, Bool.not_false, Bool.not_eq_true', Bool.not_eq_false'] at hb)))
    refine fnK_one ?_
    simp [ans, tupled, upd_ap, hcir, e2]
end Go.Ev.Lc
