/- What the functions of the two Checks answer, by steps through their code. -/
import Derived.Test.YtkalflplonnhmaaGreatDoorLcB
import Derived.KernelRfl
set_option linter.all false
/- LowerChecks, the document's side: environments over any memory. -/
namespace Go.Ev.Lc
open Go.Ev.Tab
set_option maxRecDepth 100000
set_option linter.all false

theorem row_set (H : Tr ABlk) (i n : Nat) (cs : List AV) (sz ex : Nat) : row ⟨H.set i (.cells cs sz ex), n⟩ i = some (cs, sz, ex) := by
  unfold row
  simp only [Tr.set, Tr.get_put_self]
theorem t58n (E : Env) (h : E.fns 58 = some e58) (n : Int) : AnsK E 0 58 [.nils, K n] s0 (ans (.bool (kindsB [] n))) := by
  refine fn_run h rfl rfl (plOf_args0 ..) ?_
  simp only [argPl, e58]
  have z : ((0 : Nat) : Int) = 0 := rfl
  repeat' (first
  | with_reducible refine Red.go ?_
  | ((with_reducible apply blkK_pass); rfl)
  | ((with_reducible first | apply wpOps_dry | apply wpOps_wet | apply wpOps_wet0); (simp only [evDryF, evWetF, St.new, Nat.reduceAdd, Nat.zero_add, Nat.add_zero, Eo.evF, upd_ap, reduceIte, Nat.reduceEqDiff, Bool.false_eq_true, Bool.not_true, Bool.not_false, flat, binAV, binInt, gint, *]; rfl))
  | ((with_reducible apply wpOps_undef)
     · simp only [upd_ap, reduceIte, Nat.reduceEqDiff]; done)
  | ((with_reducible first | apply wpOps_test | apply wp_test); (simp only [Eo.evF, upd_ap, reduceIte, Nat.reduceEqDiff, Bool.false_eq_true, Bool.not_true, Bool.not_false, flat, binAV, binInt, gint, *]; rfl))
  | (with_reducible apply testK_mk
     all_goals (intro hb; try simp only [Bool.not_true, Bool.not_false, Bool.not_eq_true', Bool.not_eq_false'] at hb)))
  · refine fnK_one ?_
    simp [ans, tupled, kindsB, upd_ap, *]
  · refine wp_loop (lp ?_)
    repeat' (first
    | with_reducible refine Red.go ?_
    | ((with_reducible apply blkK_pass); rfl)
    | ((with_reducible first | apply wpOps_dry | apply wpOps_wet | apply wpOps_wet0); (simp only [evDryF, evWetF, St.new, Nat.reduceAdd, Nat.zero_add, Nat.add_zero, Eo.evF, upd_ap, reduceIte, Nat.reduceEqDiff, Bool.false_eq_true, Bool.not_true, Bool.not_false, flat, binAV, binInt, gint, Int.lt_irrefl, decide_false, *]; rfl))
    | ((with_reducible apply wpOps_undef)
       · simp only [upd_ap, reduceIte, Nat.reduceEqDiff]; done)
    | ((with_reducible first | apply wpOps_test | apply wp_test); (simp only [Eo.evF, upd_ap, reduceIte, Nat.reduceEqDiff, Bool.false_eq_true, Bool.not_true, Bool.not_false, flat, binAV, binInt, gint, Int.lt_irrefl, decide_false, *]; rfl))
    | (with_reducible apply testK_mk
       all_goals (intro hb; try simp only [Bool.not_true, Bool.not_false, Bool.not_eq_true', Bool.not_eq_false'] at hb)))
    refine fnK_one ?_
    simp [ans, tupled, kindsB, upd_ap, *]
def q58x : List AV → Option AV
  | [.nils, .int .i64 n] => some (.bool (kindsB [] n))
  | args => q58 args
theorem q58x_eq {l : List Int} (h : short l = true) (n : Int) : q58x [ints l, .int .i64 n] = some (.bool (kindsB l n)) := q58_eq h n
theorem q58x_nils (n : Int) : q58x [.nils, .int .i64 n] = some (.bool (kindsB [] n)) := rfl
theorem loop27g (E : Env) (h59 : ToldBy E 59 q59) (e : Env') (hl : short e.sigs = true) (hs : e.sigs.all sigShort = true) (s : St) (b : Nat) (hrow : row s b = some (envCells e, 5, 1)) (Q : Post) : ∀ m k (g : Pl), k + m = e.sigs.length →
      ((e.sigs.drop k).all sigB = true → ∀ env, Q (.exit 0) env s) → ((e.sigs.drop k).all sigB = false → ∀ env, env 2 = .bool false → Q .ret env s) →
      RunT E 0 (.loop body27) (upd (upd g 1 (.ptr b 0)) 3 (K k)) s Q := by
  intro m
  induction m with
  | zero =>
    intro k g hk h1 h2
    have hki := lt_f (l := e.sigs) (k := k) (by omega)
    have h1 := h1 (by rw [List.drop_eq_nil_of_le (by omega)]; rfl)
    clear hk h2
    refine lp ?_
    simp only [body27, e27]
    repeat' (first
    | with_reducible refine Red.go ?_
    | ((with_reducible apply blkK_pass); rfl)
    | ((with_reducible first | apply wpOps_dry | apply wpOps_wet | apply wpOps_wet0); (simp only [evDryF, evWetF, St.new, Nat.reduceAdd, Nat.zero_add, Nat.add_zero, Eo.evF, upd_ap, reduceIte, Nat.reduceEqDiff, Bool.false_eq_true, Bool.not_true, Bool.not_false, flat, binAV, binInt, gint, List.length_map, *]; rfl))
    | ((with_reducible apply wpOps_undef)
       · simp only [upd_ap, reduceIte, Nat.reduceEqDiff]; done)
    | ((with_reducible first | apply wpOps_test | apply wp_test); (simp only [Eo.evF, upd_ap, reduceIte, Nat.reduceEqDiff, Bool.false_eq_true, Bool.not_true, Bool.not_false, flat, binAV, binInt, gint, List.length_map, *]; rfl))
    | (with_reducible apply testK_mk
       all_goals (intro hb; try simp only [Bool.not_true, Bool.not_false, Bool.not_eq_true', Bool.not_eq_false'] at hb)))
    exact h1 _
  | succ m ih =>
    intro k g hk h1 h2
    have hkl : k < e.sigs.length := by omega
    have hki := lt_t hkl
    obtain ⟨y, hy, hd⟩ := get_ex hkl
    have hy' := map_get (f := encSig) hy
    have hys : sigShort y = true := List.all_eq_true.1 hs y (List.mem_of_getElem? hy)
    rw [hd, List.all_cons] at h1 h2
    refine lp ?_
    simp only [body27, e27]
    repeat' (first
    | with_reducible refine Red.go ?_
    | ((with_reducible apply blkK_pass); rfl)
    | ((with_reducible first | apply wpOps_dry | apply wpOps_wet | apply wpOps_wet0); (simp only [evDryF, evWetF, St.new, Nat.reduceAdd, Nat.zero_add, Nat.add_zero, Eo.evF, upd_ap, reduceIte, Nat.reduceEqDiff, Bool.false_eq_true, Bool.not_true, Bool.not_false, flat, binAV, binInt, gint, List.length_map, natOf_cast, *]; rfl))
    | ((with_reducible apply wpOps_undef)
       · simp only [upd_ap, reduceIte, Nat.reduceEqDiff]; done)
    | ((with_reducible apply wpOps_told); assumption; (simp only [evsF, List.map_cons, List.map_nil, Eo.evF, upd_ap, reduceIte, Nat.reduceEqDiff, Bool.false_eq_true, Bool.not_true, Bool.not_false, flat, binAV, binInt, gint, List.length_map, natOf_cast, *]; rfl); first | (simp only [q59_eq hys]; rfl) | assumption)
    | ((with_reducible first | apply wpOps_test | apply wp_test); (simp only [Eo.evF, upd_ap, reduceIte, Nat.reduceEqDiff, Bool.false_eq_true, Bool.not_true, Bool.not_false, flat, binAV, binInt, gint, List.length_map, natOf_cast, *]; rfl))
    | (with_reducible apply testK_mk
       all_goals (intro hb; try simp only [Bool.not_true, Bool.not_false, Bool.not_eq_true', Bool.not_eq_false'] at hb)))
    · exact h2 (by rw [hb]; rfl) _ rfl
    · refine lpK_nrm ?_
      rw [hb, Bool.true_and] at h1 h2
      exact rebase (L := [(1, .ptr b 0), (3, K (k + 1 : Nat))]) ⟨rfl, congrArg (AV.int .i64) (wrap_succ hl hkl), trivial⟩ (ih (k + 1) _ (by omega) h1 h2)
theorem t27g (E : Env) (h : E.fns 27 = some e27) (h58 : ToldBy E 58 q58x) (h59 : ToldBy E 59 q59) (e : Env') (hs : envShort e = true) (s : St) (KK : AV → St → Prop) (hk : KK (.bool (envB e)) (s.new (.cells (envCells e) 5 1))) : AnsK E 0 27 [encEnv e] s KK := by
  obtain ⟨s1, s2, s3, s4⟩ := envShort_and hs
  have hr := row_set s.H s.nx (s.nx + 1) (envCells e) 5 1
  refine fn_run h rfl rfl (plOf_args0 ..) ?_
  simp only [argPl, e27]
  repeat' (first
  | with_reducible refine Red.go ?_
  | ((with_reducible apply blkK_pass); rfl)
  | ((with_reducible first | apply wpOps_dry | apply wpOps_wet | apply wpOps_wet0); (simp only [evDryF, evWetF, St.new, Nat.reduceAdd, Nat.zero_add, Nat.add_zero, Eo.evF, upd_ap, reduceIte, Nat.reduceEqDiff, Bool.false_eq_true, Bool.not_true, Bool.not_false, flat, binAV, binInt, gint, List.length_map, row_set, *]; rfl))
  | ((with_reducible apply wpOps_undef)
     · simp only [upd_ap, reduceIte, Nat.reduceEqDiff]; done)
  | ((with_reducible apply wpOps_told); assumption; (simp only [evsF, List.map_cons, List.map_nil, Eo.evF, upd_ap, reduceIte, Nat.reduceEqDiff, Bool.false_eq_true, Bool.not_true, Bool.not_false, flat, binAV, binInt, gint, List.length_map, row_set, *]; rfl); first | (simp only [q58x_eq, *]; rfl) | assumption)
  | ((with_reducible first | apply wpOps_test | apply wp_test); (simp only [Eo.evF, upd_ap, reduceIte, Nat.reduceEqDiff, Bool.false_eq_true, Bool.not_true, Bool.not_false, flat, binAV, binInt, gint, List.length_map, row_set, *]; rfl))
  | (with_reducible apply testK_mk
     all_goals (intro hb; try simp only [Bool.not_true, Bool.not_false, Bool.not_eq_true', Bool.not_eq_false'] at hb)))
  all_goals first
    | (refine fnK_one ?_
       have hb' : envB e = false := by
         clear hk hr
         simp [envB, *]
       rw [hb'] at hk
       exact hk)
    | skip
  refine wp_loop (rebase (L := [(1, .ptr s.nx 0), (3, K (0 : Nat))]) ⟨rfl, rfl, trivial⟩ (loop27g E h59 e s1 s4 _ s.nx hr _ e.sigs.length 0 _ (by omega) (fun ha env => ?_) (fun ha env h4 => ?_)))
  · rw [List.drop_zero] at ha
    have hb' : envB e = true := by
      clear hk hr
      simp [envB, *]
    rw [hb'] at hk
    clear hr ha hb'
    repeat' (first
    | with_reducible refine Red.go ?_
    | ((with_reducible apply blkK_pass); rfl)
    | ((with_reducible first | apply wpOps_dry | apply wpOps_wet | apply wpOps_wet0); (simp only [evDryF, evWetF, St.new, Nat.reduceAdd, Nat.zero_add, Nat.add_zero, Eo.evF, upd_ap, reduceIte, Nat.reduceEqDiff, Bool.false_eq_true, Bool.not_true, Bool.not_false, flat, *]; rfl))
    | ((with_reducible apply wpOps_undef)
       · simp only [upd_ap, reduceIte, Nat.reduceEqDiff]; done)
    | ((with_reducible first | apply wpOps_test | apply wp_test); (simp only [Eo.evF, upd_ap, reduceIte, Nat.reduceEqDiff, Bool.false_eq_true, Bool.not_true, Bool.not_false, flat, *]; rfl))
    | (with_reducible apply testK_mk
       all_goals (intro hb; try simp only [Bool.not_true, Bool.not_false, Bool.not_eq_true', Bool.not_eq_false'] at hb)))
    refine fnK_one ?_
    exact hk
  · rw [List.drop_zero] at ha
    have hb' : envB e = false := by simp only [envB, ha, Bool.and_false]
    rw [hb'] at hk
    clear hr ha hb'
    repeat' (first
    | with_reducible refine Red.go ?_
    | ((with_reducible apply blkK_pass); rfl)
    | ((with_reducible first | apply wpOps_dry | apply wpOps_wet | apply wpOps_wet0); (simp only [evDryF, evWetF, St.new, Nat.reduceAdd, Nat.zero_add, Nat.add_zero, Eo.evF, upd_ap, reduceIte, Nat.reduceEqDiff, Bool.false_eq_true, Bool.not_true, Bool.not_false, flat, *]; rfl))
    | ((with_reducible apply wpOps_undef)
       · simp only [upd_ap, reduceIte, Nat.reduceEqDiff]; done)
    | ((with_reducible first | apply wpOps_test | apply wp_test); (simp only [Eo.evF, upd_ap, reduceIte, Nat.reduceEqDiff, Bool.false_eq_true, Bool.not_true, Bool.not_false, flat, *]; rfl))
    | (with_reducible apply testK_mk
       all_goals (intro hb; try simp only [Bool.not_true, Bool.not_false, Bool.not_eq_true', Bool.not_eq_false'] at hb)))
    refine fnK_one ?_
    rw [h4]
    exact hk
/-- An environment of one signature that was made here. -/
theorem t27one (E : Env) (h : E.fns 27 = some e27) (h58 : ToldBy E 58 q58x) (h59 : ToldBy E 59 q59) (x : Sig) (hx : sigShort x = true) (s : St) (b ex : Nat) (hb0 : (b = s.nx) = False) (hrow : ∀ o n, row ⟨s.H.set s.nx o, n⟩ b = some ([ints x.inp, ints x.out], 2, ex)) (KK : AV → St → Prop)
    (hk : KK (.bool (sigB x)) (s.new (.cells [.sl b 0 1, K 0, .nils, .nils, .bool false] 5 1))) : AnsK E 0 27 [.agg [.sl b 0 1, K 0, .nils, .nils, .bool false]] s KK := by
  refine fn_run h rfl rfl (plOf_args0 ..) ?_
  simp only [argPl, e27]
  have z : ((0 : Nat) : Int) = 0 := rfl
  have q1 : q58x [.nils, .int .i64 32] = some (.bool true) := rfl
  have q2 := q59_eq hx
  have n1 : natOf (.int .i64 0) = some 0 := rfl
  clear hx hb0
  repeat' (first
  | with_reducible refine Red.go ?_
  | ((with_reducible apply blkK_pass); rfl)
  | ((with_reducible first | apply wpOps_dry | apply wpOps_wet | apply wpOps_wet0); (simp only [evDryF, evWetF, St.new, Nat.reduceAdd, Nat.zero_add, Nat.add_zero, Eo.evF, upd_ap, reduceIte, Nat.reduceEqDiff, Bool.false_eq_true, Bool.not_true, Bool.not_false, flat, binAV, binInt, gint, row_set, Int.lt_irrefl, decide_false, *]; rfl))
  | ((with_reducible apply wpOps_undef)
     · simp only [upd_ap, reduceIte, Nat.reduceEqDiff]; done)
  | ((with_reducible apply wpOps_told); assumption; (simp only [evsF, List.map_cons, List.map_nil, Eo.evF, upd_ap, reduceIte, Nat.reduceEqDiff, Bool.false_eq_true, Bool.not_true, Bool.not_false, flat, binAV, binInt, gint, row_set, Int.lt_irrefl, decide_false, *]; rfl); first | (simp only [q1, q2]; rfl) | assumption)
  | ((with_reducible first | apply wpOps_test | apply wp_test); (simp only [Eo.evF, upd_ap, reduceIte, Nat.reduceEqDiff, Bool.false_eq_true, Bool.not_true, Bool.not_false, flat, binAV, binInt, gint, row_set, Int.lt_irrefl, decide_false, *]; rfl))
  | (with_reducible apply testK_mk
     all_goals (intro hb; try simp only [Bool.not_true, Bool.not_false, Bool.not_eq_true', Bool.not_eq_false'] at hb)))
  all_goals first
    | (exfalso; revert hb; decide)
    | skip
  have w1 : IntKind.i64.wrap (0 + 1) = 1 := by decide
  have d1 : decide ((0 : Int) < ((1 : Nat) : Int)) = true := by decide
  have d2 : decide ((1 : Int) < ((1 : Nat) : Int)) = false := by decide
  clear hb
  refine wp_loop (lp ?_)
  repeat' (first
  | with_reducible refine Red.go ?_
  | ((with_reducible apply blkK_pass); rfl)
  | ((with_reducible first | apply wpOps_dry | apply wpOps_wet | apply wpOps_wet0); (simp only [evDryF, evWetF, St.new, Nat.reduceAdd, Nat.zero_add, Nat.add_zero, Eo.evF, upd_ap, reduceIte, Nat.reduceEqDiff, Bool.false_eq_true, Bool.not_true, Bool.not_false, flat, binAV, binInt, gint, row_set, Int.lt_irrefl, decide_false, *]; rfl))
  | ((with_reducible apply wpOps_undef)
     · simp only [upd_ap, reduceIte, Nat.reduceEqDiff]; done)
  | ((with_reducible apply wpOps_told); assumption; (simp only [evsF, List.map_cons, List.map_nil, Eo.evF, upd_ap, reduceIte, Nat.reduceEqDiff, Bool.false_eq_true, Bool.not_true, Bool.not_false, flat, binAV, binInt, gint, row_set, Int.lt_irrefl, decide_false, *]; rfl); first | (simp only [q1, q2]; rfl) | assumption)
  | ((with_reducible first | apply wpOps_test | apply wp_test); (simp only [Eo.evF, upd_ap, reduceIte, Nat.reduceEqDiff, Bool.false_eq_true, Bool.not_true, Bool.not_false, flat, binAV, binInt, gint, row_set, Int.lt_irrefl, decide_false, *]; rfl))
  | (with_reducible apply testK_mk
     all_goals (intro hb; try simp only [Bool.not_true, Bool.not_false, Bool.not_eq_true', Bool.not_eq_false'] at hb)))
  · refine fnK_one ?_
    rw [hb] at hk
    exact hk
  · rw [hb] at hk
    refine lpK_nrm (lp ?_)
    repeat' (first
    | with_reducible refine Red.go ?_
    | ((with_reducible apply blkK_pass); rfl)
    | ((with_reducible first | apply wpOps_dry | apply wpOps_wet | apply wpOps_wet0); (simp only [evDryF, evWetF, St.new, Nat.reduceAdd, Nat.zero_add, Nat.add_zero, Eo.evF, upd_ap, reduceIte, Nat.reduceEqDiff, Bool.false_eq_true, Bool.not_true, Bool.not_false, flat, binAV, binInt, gint, row_set, Int.lt_irrefl, decide_false, *]; rfl))
    | ((with_reducible apply wpOps_undef)
       · simp only [upd_ap, reduceIte, Nat.reduceEqDiff]; done)
    | ((with_reducible apply wpOps_told); assumption; (simp only [evsF, List.map_cons, List.map_nil, Eo.evF, upd_ap, reduceIte, Nat.reduceEqDiff, Bool.false_eq_true, Bool.not_true, Bool.not_false, flat, binAV, binInt, gint, row_set, Int.lt_irrefl, decide_false, *]; rfl); first | (simp only [q1, q2]; rfl) | assumption)
    | ((with_reducible first | apply wpOps_test | apply wp_test); (simp only [Eo.evF, upd_ap, reduceIte, Nat.reduceEqDiff, Bool.false_eq_true, Bool.not_true, Bool.not_false, flat, binAV, binInt, gint, row_set, Int.lt_irrefl, decide_false, *]; rfl))
    | (with_reducible apply testK_mk
       all_goals (intro hb; try simp only [Bool.not_true, Bool.not_false, Bool.not_eq_true', Bool.not_eq_false'] at hb)))
    refine fnK_one ?_
    exact hk
end Go.Ev.Lc
/- LowerChecks, the document's side: Check. -/
namespace Go.Ev.Lc
open Go.Ev.Tab
set_option maxRecDepth 100000
set_option linter.all false

theorem placesFrom_inside {l : List Int} {n : Int} {u : Bool} : ∀ m i, i + m = l.length → placesFrom l n u m i = true → ∀ j, i ≤ j → ∀ x, l[j]? = some x → inside n x = true
  | 0, i, h, _, j, hj, x, hx => by
    rw [List.getElem?_eq_none (by omega)] at hx; simp at hx
  | m + 1, i, h, hp, j, hj, x, hx => by
    simp only [placesFrom, Bool.and_eq_true] at hp
    rcases Nat.lt_or_ge i j with hlt | hge
    · exact placesFrom_inside m (i + 1) (by omega) hp.2 j hlt x hx
    · have : j = i := by omega
      subst this
      have h1 := hp.1
      simp only [okAt, hx, Bool.and_eq_true] at h1
      exact h1.1
theorem placesB_inside {l : List Int} {n : Int} {u : Bool} (h : placesB l n u = true) {x : Int} (hx : x ∈ l) : 0 ≤ x ∧ x < n := by
  obtain ⟨j, hj⟩ := List.mem_iff_getElem?.1 hx
  have := placesFrom_inside l.length 0 (by omega) h j (Nat.zero_le _) x hj
  simp only [inside, Bool.not_eq_true', Bool.or_eq_false_iff, decide_eq_false_iff_not] at this
  omega

def opAt (r : Row) (i : Nat) : Int := match r.code[i]? with | some c => c.op | none => 0
/-- Rows whose lists are short, and whose numbers are words. -/
structure RowOk (r : Row) : Prop where
  inp : short r.sig.inp = true
  out : short r.sig.out = true
  params : short r.params = true
  code : short r.code = true
  each : ∀ (i : Nat) (c : Code'), r.code[i]? = some c → codeShort c = true ∧ c.n < 18446744073709551616
  ops : ∀ c ∈ r.code, -9223372036854775808 ≤ c.op ∧ c.op < 9223372036854775808
noncomputable def refCheckB (e : Env') (r : Row) : Bool :=
  envB e && !decide ((r.code.length : Int) < 1) && !decide ((r.code.length : Int) > 4096) && !decide (r.places < 0) && !decide (r.places > 4096) && !decide ((r.sig.inp.length : Int) > 8) && !decide ((r.sig.out.length : Int) > 8) &&
    ((r.params.length : Int) == r.sig.inp.length) && placesB r.params r.places true && sigB r.sig && r.code.all (codeB e r) &&
    ((opAt r 0 == 258) && goesB (opAt r (r.code.length - 1)) && !(opAt r (r.code.length - 1) == 274) && !circlesB r)

def q29 : List AV → Option AV
  | [x, y, .int .i64 (.ofNat i)] =>
    match unEnv x, unRow y with
    | some e, some r => match r.code[i]? with | some c => if envShort e = true ∧ e.muts.length = e.globals.length ∧ c.n < 18446744073709551616 ∧ codeShort c = true then some (.bool (codeB e r c)) else none | none => none
    | _, _ => none
  | _ => none
theorem q29_eq {e : Env'} (hs : envShort e = true) (hm : e.muts.length = e.globals.length) {r : Row} {i : Nat} {c : Code'} (hc : r.code[i]? = some c) (hn : c.n < 18446744073709551616) (hcs : codeShort c = true) :
    q29 [encEnv e, encRow r, .int .i64 (i : Int)] = some (.bool (codeB e r c)) := by
  have h1 := unEnv_enc e
  have h2 := unRow_enc r
  simp only [encEnv, encRow] at h1 h2
  have hi : ((i : Int)) = Int.ofNat i := rfl
  rw [hi]
  simp only [q29, h1, h2, hc]
  rw [if_pos ⟨hs, hm, hn, hcs⟩]
open Classical in
noncomputable def q31 : List AV → Option AV
  | [x] => match unRow x with | some r => if r.code.length ≤ 4096 ∧ Inside r ∧ (∀ (i : Nat) (c : Code'), r.code[i]? = some c → short c.to = true) then some (.bool (circlesB r)) else none | none => none
  | _ => none
theorem q31_eq {r : Row} (h : r.code.length ≤ 4096) (hin : Inside r) (hts : ∀ (i : Nat) (c : Code'), r.code[i]? = some c → short c.to = true) : q31 [encRow r] = some (.bool (circlesB r)) := by
  have h2 := unRow_enc r
  simp only [encRow] at h2
  simp only [q31, h2]
  rw [if_pos ⟨h, hin, hts⟩]

/-- What the document's Check has seen ahead of its look for circles keeps all steps within. -/
theorem inside_of {e : Env'} {r : Row} (hall : r.code.all (codeB e r) = true) (hg : goesB (opAt r (r.code.length - 1)) = true) (h274 : (opAt r (r.code.length - 1) == 274) = false) : Inside r := by
  intro i c hc
  have hlt : i < r.code.length := by
    rcases Nat.lt_or_ge i r.code.length with h | h
    · exact h
    · rw [List.getElem?_eq_none h] at hc; simp at hc
  have hcb := List.all_eq_true.1 hall c (List.mem_of_getElem? hc)
  simp only [codeB, Bool.and_eq_true] at hcb
  obtain ⟨_, ⟨_, hto⟩, htb⟩ := hcb
  have hin : ∀ x ∈ c.to, 0 ≤ x ∧ x < r.code.length := fun x hx => placesB_inside hto hx
  have hlast : i = r.code.length - 1 → goesB c.op = true ∧ (c.op == 274) = false := by
    intro h
    have : opAt r (r.code.length - 1) = c.op := by rw [← h]; simp only [opAt, hc]
    rw [this] at hg h274
    exact ⟨hg, h274⟩
  refine ⟨?_, ?_⟩
  · unfold nextOk
    cases h4 : (c.op == 274) with
    | false => rfl
    | true =>
      simp only [toB, h4, Bool.or_true, if_true] at htb
      cases hcto : c.to with
      | nil => rw [hcto] at htb; simp at htb
      | cons _ _ => rfl
  · intro x hx
    unfold nextL at hx
    split at hx
    · simp at hx
    · rename_i h1
      split at hx
      · exact hin x hx
      · rename_i h2
        have hne : i ≠ r.code.length - 1 ∨ (c.op == 274) = true := by
          by_cases h : i = r.code.length - 1
          · obtain ⟨g1, g2⟩ := hlast h
            simp only [goesB, Bool.and_eq_true, decide_eq_true_eq] at g1
            simp at h1 h2 g2
            omega
          · exact .inl h
        split at hx
        · rename_i h3
          have hi : i ≠ r.code.length - 1 := by
            intro h
            have := (hlast h).2
            rw [h3] at this
            simp at this
          split at hx
          · rename_i t ts hts
            simp only [List.mem_cons, List.not_mem_nil, or_false] at hx
            rcases hx with rfl | rfl
            · omega
            · exact hin _ (by rw [hts]; simp)
          · simp at hx
        · rename_i h3
          simp only [List.mem_cons, List.not_mem_nil, or_false] at hx
          subst hx
          rcases hne with h | h
          · omega
          · exact absurd h h3
end Go.Ev.Lc
/- LowerChecks, the document's side: Check, the walk. -/
namespace Go.Ev.Lc
open Go.Ev.Tab
set_option maxRecDepth 100000
set_option linter.all false

def body9 := match e9.body with
  | .seq _ (.seq _ (.seq _ (.seq _ (.seq (.seq _ (.block _ (.loop b))) _)))) => b
  | _ => .skip
theorem loop9 (E : Env) (h29 : ToldBy E 29 q29) (e : Env') (hs : envShort e = true) (hm : e.muts.length = e.globals.length) (r : Row) (ho : RowOk r) (s : St) (hr2 : row s 0 = some (envCells e, 5, 1)) (hr3 : row s 1 = some (rowCells r, 5, 1)) (Q : Post) :
    ∀ m k (g : Pl), k + m = r.code.length →
      ((r.code.drop k).all (codeB e r) = true → ∀ env, env 2 = .ptr 0 0 → env 3 = .ptr 1 0 → env 5 = K r.code.length → Q (.exit 0) env s) → ((r.code.drop k).all (codeB e r) = false → ∀ env, env 4 = .bool false → Q .ret env s) →
      RunT E 0 (.loop body9) (setAll g [(2, .ptr 0 0), (3, .ptr 1 0), (5, K r.code.length), (6, K k)]) s Q := by
  intro m
  induction m with
  | zero =>
    intro k g hk h1 h2
    have hki := lt_f (l := r.code) (k := k) (by omega)
    have h1 := h1 (by rw [List.drop_eq_nil_of_le (by omega)]; rfl)
    clear hk h2 hm ho
    refine lp ?_
    simp only [setAll, body9, e9]
    repeat' (first
    | with_reducible refine Red.go ?_
    | ((with_reducible apply blkK_pass); rfl)
    | ((with_reducible first | apply wpOps_dry | apply wpOps_wet | apply wpOps_wet0); (simp only [evDryF, evWetF, St.new, Nat.reduceAdd, Nat.zero_add, Nat.add_zero, Eo.evF, upd_ap, reduceIte, Nat.reduceEqDiff, Bool.false_eq_true, Bool.not_true, Bool.not_false, flat, binAV, binInt, gint, List.length_map, *]; rfl))
    | ((with_reducible apply wpOps_undef)
       · simp only [upd_ap, reduceIte, Nat.reduceEqDiff]; done)
    | ((with_reducible first | apply wpOps_test | apply wp_test); (simp only [Eo.evF, upd_ap, reduceIte, Nat.reduceEqDiff, Bool.false_eq_true, Bool.not_true, Bool.not_false, flat, binAV, binInt, gint, List.length_map, *]; rfl))
    | (with_reducible apply testK_mk
       all_goals (intro hb; try simp only [Bool.not_true, Bool.not_false, Bool.not_eq_true', Bool.not_eq_false'] at hb)))
    exact h1 _ rfl rfl rfl
  | succ m ih =>
    intro k g hk h1 h2
    have hkl : k < r.code.length := by omega
    have hki := lt_t hkl
    obtain ⟨c, hc, hd⟩ := get_ex hkl
    obtain ⟨hcs, hcn⟩ := ho.each k c hc
    have q := q29_eq hs hm hc hcn hcs
    have hw := wrap_succ ho.code hkl
    have ih := fun v => ih (k + 1) v (by omega)
    rw [hd, List.all_cons] at h1 h2
    clear hm ho hc hd hcs hcn hs
    refine lp ?_
    simp only [setAll, body9, e9]
    repeat' (first
    | with_reducible refine Red.go ?_
    | ((with_reducible apply blkK_pass); rfl)
    | ((with_reducible first | apply wpOps_dry | apply wpOps_wet | apply wpOps_wet0); (simp only [evDryF, evWetF, St.new, Nat.reduceAdd, Nat.zero_add, Nat.add_zero, Eo.evF, upd_ap, reduceIte, Nat.reduceEqDiff, Bool.false_eq_true, Bool.not_true, Bool.not_false, flat, binAV, binInt, gint, List.length_map, *]; rfl))
    | ((with_reducible apply wpOps_undef)
       · simp only [upd_ap, reduceIte, Nat.reduceEqDiff]; done)
    | ((with_reducible apply wpOps_told); assumption; (simp only [evsF, List.map_cons, List.map_nil, Eo.evF, upd_ap, reduceIte, Nat.reduceEqDiff, Bool.false_eq_true, Bool.not_true, Bool.not_false, flat, binAV, binInt, gint, List.length_map, *]; rfl); first | (simp only [q]; rfl) | assumption)
    | ((with_reducible first | apply wpOps_test | apply wp_test); (simp only [Eo.evF, upd_ap, reduceIte, Nat.reduceEqDiff, Bool.false_eq_true, Bool.not_true, Bool.not_false, flat, binAV, binInt, gint, List.length_map, *]; rfl))
    | (with_reducible apply testK_mk
       all_goals (intro hb; try simp only [Bool.not_true, Bool.not_false, Bool.not_eq_true', Bool.not_eq_false'] at hb)))
    · exact h2 (by rw [hb]; rfl) _ rfl
    · refine lpK_nrm ?_
      rw [hb, Bool.true_and] at h1 h2
      exact rebase (L := [(2, .ptr 0 0), (3, .ptr 1 0), (5, K r.code.length), (6, K (k + 1 : Nat))]) ⟨rfl, rfl, rfl, rfl, trivial⟩ (ih _ h1 h2)
set_option maxHeartbeats 4000000 in
theorem t9 (E : Env) (h : E.fns 9 = some e9) (h27 : E.fns 27 = some e27) (h58 : ToldBy E 58 q58x) (h59 : ToldBy E 59 q59) (h28 : ToldBy E 28 q28) (h29 : ToldBy E 29 q29) (h30 : ToldBy E 30 q30) (h31 : ToldBy E 31 q31)
    (e : Env') (hs : envShort e = true) (r : Row) (ho : RowOk r) : AnsK E 0 9 [encEnv e, encRow r] s0 (ans (.bool (refCheckB e r))) := by
  have ho' := ho
  obtain ⟨o1, o2, o3, o4, o5⟩ := ho
  have hsig : sigShort r.sig = true := by simp only [sigShort, o1, o2, Bool.and_self]
  refine fn_run h rfl rfl (plOf_args0 ..) ?_
  simp only [argPl, e9]
  repeat' (first
  | with_reducible refine Red.go ?_
  | with_reducible refine wp_draw ?_
  | ((with_reducible apply blkK_pass); rfl)
  | ((with_reducible first | apply wpOps_dry | apply wpOps_wet | apply wpOps_wet0 | apply wpDraw_dry); (simp only [evDryF, evWetF, St.new, Nat.reduceAdd, Nat.zero_add, Nat.add_zero, Eo.evF, upd_ap, reduceIte, Nat.reduceEqDiff, Bool.false_eq_true, Bool.not_true, Bool.not_false, flat, binAV, binInt, gint, List.length_map, *]; rfl))
  | ((with_reducible apply wpDraw_load); (simp only [Eo.evF, upd_ap, reduceIte, Nat.reduceEqDiff, Bool.false_eq_true, Bool.not_true, Bool.not_false, flat, binAV, binInt, gint, List.length_map, *]; rfl); rfl; rfl)
  | ((with_reducible first | apply wpOps_undef | apply wpDraw_undef)
     · simp only [upd_ap, reduceIte, Nat.reduceEqDiff]; done)
  | ((with_reducible first | apply wpOps_test | apply wp_test | apply draw_test); (simp only [Eo.evF, upd_ap, reduceIte, Nat.reduceEqDiff, Bool.false_eq_true, Bool.not_true, Bool.not_false, flat, binAV, binInt, gint, List.length_map, *]; rfl))
  | (with_reducible apply testK_mk
     all_goals (intro hb; try simp only [Bool.not_true, Bool.not_false, Bool.not_eq_true', Bool.not_eq_false'] at hb)))
  refine wpOps_call (g := 27) (a := []) (b := []) rfl (by simp only [evsF, List.map_cons, List.map_nil, Eo.evF, upd_ap, reduceIte, Nat.reduceEqDiff]; rfl) ?_
  refine callK_run h27 rfl (t27g E h27 h58 h59 e hs _ _ ?_)
  cases hE : envB e with
  | false =>
    clear hs
    repeat' (first
    | with_reducible refine Red.go ?_
    | with_reducible refine wp_draw ?_
    | ((with_reducible apply blkK_pass); rfl)
    | ((with_reducible first | apply wpOps_dry | apply wpOps_wet | apply wpOps_wet0 | apply wpDraw_dry); (simp only [evDryF, evWetF, St.new, Nat.reduceAdd, Nat.zero_add, Nat.add_zero, Eo.evF, upd_ap, reduceIte, Nat.reduceEqDiff, Bool.false_eq_true, Bool.not_true, Bool.not_false, flat, binAV, binInt, gint, List.length_map, *]; rfl))
    | ((with_reducible apply wpDraw_load); (simp only [Eo.evF, upd_ap, reduceIte, Nat.reduceEqDiff, Bool.false_eq_true, Bool.not_true, Bool.not_false, flat, binAV, binInt, gint, List.length_map, *]; rfl); rfl; rfl)
    | ((with_reducible first | apply wpOps_undef | apply wpDraw_undef)
       · simp only [upd_ap, reduceIte, Nat.reduceEqDiff]; done)
    | ((with_reducible first | apply wpOps_told | apply wpDraw_told); assumption; (simp only [evsF, List.map_cons, List.map_nil, Eo.evF, upd_ap, reduceIte, Nat.reduceEqDiff, Bool.false_eq_true, Bool.not_true, Bool.not_false, flat, binAV, binInt, gint, List.length_map, *]; rfl); first | (simp only [q28_eq, *]; rfl) | assumption)
    | ((with_reducible first | apply wpOps_test | apply wp_test | apply draw_test); (simp only [Eo.evF, upd_ap, reduceIte, Nat.reduceEqDiff, Bool.false_eq_true, Bool.not_true, Bool.not_false, flat, binAV, binInt, gint, List.length_map, *]; rfl))
    | (with_reducible apply testK_mk
       all_goals (intro hb; try simp only [Bool.not_true, Bool.not_false, Bool.not_eq_true', Bool.not_eq_false'] at hb)))
    refine fnK_one ?_
    simp [ans, tupled, refCheckB, upd_ap, hE]
  | true =>
    have hm : e.muts.length = e.globals.length := by
      simp only [envB, Bool.and_eq_true, beq_iff_eq] at hE
      omega
    have hs' := hs
    have hm' := hm
    clear hs hm
    repeat' (first
    | with_reducible refine Red.go ?_
    | with_reducible refine wp_draw ?_
    | ((with_reducible apply blkK_pass); rfl)
    | ((with_reducible first | apply wpOps_dry | apply wpOps_wet | apply wpOps_wet0 | apply wpDraw_dry); (simp only [evDryF, evWetF, St.new, Nat.reduceAdd, Nat.zero_add, Nat.add_zero, Eo.evF, upd_ap, reduceIte, Nat.reduceEqDiff, Bool.false_eq_true, Bool.not_true, Bool.not_false, flat, binAV, binInt, gint, List.length_map, *]; rfl))
    | ((with_reducible apply wpDraw_load); (simp only [Eo.evF, upd_ap, reduceIte, Nat.reduceEqDiff, Bool.false_eq_true, Bool.not_true, Bool.not_false, flat, binAV, binInt, gint, List.length_map, *]; rfl); rfl; rfl)
    | ((with_reducible first | apply wpOps_undef | apply wpDraw_undef)
       · simp only [upd_ap, reduceIte, Nat.reduceEqDiff]; done)
    | ((with_reducible first | apply wpOps_told | apply wpDraw_told); assumption; (simp only [evsF, List.map_cons, List.map_nil, Eo.evF, upd_ap, reduceIte, Nat.reduceEqDiff, Bool.false_eq_true, Bool.not_true, Bool.not_false, flat, binAV, binInt, gint, List.length_map, *]; rfl); first | (simp only [q28_eq, *]; rfl) | assumption)
    | ((with_reducible first | apply wpOps_test | apply wp_test | apply draw_test); (simp only [Eo.evF, upd_ap, reduceIte, Nat.reduceEqDiff, Bool.false_eq_true, Bool.not_true, Bool.not_false, flat, binAV, binInt, gint, List.length_map, *]; rfl))
    | (with_reducible apply testK_mk
       all_goals (intro hb; try simp only [Bool.not_true, Bool.not_false, Bool.not_eq_true', Bool.not_eq_false'] at hb)))
    all_goals first
      | (refine fnK_one ?_
         simp only [ans, tupled, upd_ap, reduceIte, Nat.reduceEqDiff]
         simp [refCheckB, *]
         done)
      | skip
    refine wpOps_call (g := 27) (a := []) (b := []) (x := [.agg [.sl 3 0 1, K 0, .nils, .nils, .bool false]]) rfl rfl ?_
    refine callK_run h27 rfl (t27one E h27 h58 h59 r.sig hsig _ 3 1 (by simp) (fun o n => by kernel_rfl) _ ?_)
    rename_i b1 b2 b3 b4 b5 b6 b7
    cases hS : sigB r.sig with
    | false =>
      repeat' (first
      | with_reducible refine Red.go ?_
      | with_reducible refine wp_draw ?_
      | ((with_reducible apply blkK_pass); rfl)
      | ((with_reducible first | apply wpOps_dry | apply wpOps_wet | apply wpOps_wet0 | apply wpDraw_dry); (simp only [evDryF, evWetF, St.new, Nat.reduceAdd, Nat.zero_add, Nat.add_zero, Eo.evF, upd_ap, reduceIte, Nat.reduceEqDiff, Bool.false_eq_true, Bool.not_true, Bool.not_false, flat, *]; rfl))
      | ((with_reducible apply wpDraw_load); (simp only [Eo.evF, upd_ap, reduceIte, Nat.reduceEqDiff, Bool.false_eq_true, Bool.not_true, Bool.not_false, flat, *]; rfl); rfl; rfl)
      | ((with_reducible first | apply wpOps_undef | apply wpDraw_undef)
         · simp only [upd_ap, reduceIte, Nat.reduceEqDiff]; done)
      | ((with_reducible first | apply wpOps_test | apply wp_test | apply draw_test); (simp only [Eo.evF, upd_ap, reduceIte, Nat.reduceEqDiff, Bool.false_eq_true, Bool.not_true, Bool.not_false, flat, *]; rfl))
      | (with_reducible apply testK_mk
         all_goals (intro hb; try simp only [Bool.not_true, Bool.not_false, Bool.not_eq_true', Bool.not_eq_false'] at hb)))
      refine fnK_one ?_
      simp only [ans, tupled, upd_ap, reduceIte, Nat.reduceEqDiff]
      simp [refCheckB, *]
    | true =>
      have hpre : refCheckB e r = (r.code.all (codeB e r) && ((opAt r 0 == 258) && goesB (opAt r (r.code.length - 1)) && !(opAt r (r.code.length - 1) == 274) && !circlesB r)) := by
        simp only [refCheckB, *]
        simp
      clear b3 b4 b5 b6 b7 hb o1 o2 o3 hsig hE
      repeat' (first
      | with_reducible refine Red.go ?_
      | with_reducible refine wp_draw ?_
      | ((with_reducible apply blkK_pass); rfl)
      | ((with_reducible first | apply wpOps_dry | apply wpOps_wet | apply wpOps_wet0 | apply wpDraw_dry); (simp only [evDryF, evWetF, St.new, Nat.reduceAdd, Nat.zero_add, Nat.add_zero, Eo.evF, upd_ap, reduceIte, Nat.reduceEqDiff, Bool.false_eq_true, Bool.not_true, Bool.not_false, flat, *]; rfl))
      | ((with_reducible apply wpDraw_load); (simp only [Eo.evF, upd_ap, reduceIte, Nat.reduceEqDiff, Bool.false_eq_true, Bool.not_true, Bool.not_false, flat, *]; rfl); rfl; rfl)
      | ((with_reducible first | apply wpOps_undef | apply wpDraw_undef)
         · simp only [upd_ap, reduceIte, Nat.reduceEqDiff]; done)
      | ((with_reducible first | apply wpOps_test | apply wp_test | apply draw_test); (simp only [Eo.evF, upd_ap, reduceIte, Nat.reduceEqDiff, Bool.false_eq_true, Bool.not_true, Bool.not_false, flat, *]; rfl))
      | (with_reducible apply testK_mk
         all_goals (intro hb; try simp only [Bool.not_true, Bool.not_false, Bool.not_eq_true', Bool.not_eq_false'] at hb)))
      refine wp_loop (rebase (L := [(2, .ptr 0 0), (3, .ptr 1 0), (5, K r.code.length), (6, K (0 : Nat))]) ⟨rfl, rfl, rfl, rfl, trivial⟩ (loop9 E h29 e hs' hm' r ho' _ (by kernel_rfl) (by kernel_rfl) _ r.code.length 0 _ (by omega) (fun ha env e2 e3 e5 => ?_) (fun ha env e4 => ?_)))
      · rw [List.drop_zero] at ha
        have hlen1 : 0 < r.code.length := by simp at b1; omega
        have hle : r.code.length ≤ 4096 := by simp at b2; omega
        obtain ⟨c0, hc0, _⟩ := get_ex (l := r.code) (k := 0) hlen1
        obtain ⟨cl, hcl, _⟩ := get_ex (l := r.code) (k := r.code.length - 1) (by omega)
        have g0 := map_get (f := encCode) hc0
        have gl := map_get (f := encCode) hcl
        have n1 : natOf (.int .i64 0) = some 0 := rfl
        have hwl : IntKind.i64.wrap ((r.code.length : Int) - 1) = ((r.code.length - 1 : Nat) : Int) := by rw [IntKind.wrap_i64]; omega
        have hop0 : opAt r 0 = c0.op := by simp only [opAt, hc0]
        have hopl : opAt r (r.code.length - 1) = cl.op := by simp only [opAt, hcl]
        rw [ha, hop0, hopl, Bool.true_and] at hpre
        have hts : ∀ (i : Nat) (c : Code'), r.code[i]? = some c → short c.to = true := fun i c hc => by
          have := (o5 i c hc).1
          simp only [codeShort, Bool.and_eq_true] at this
          exact this.2
        have hin : goesB cl.op = true → (cl.op == 274) = false → Inside r := fun x y => inside_of ha (by rw [hopl]; exact x) (by rw [hopl]; exact y)
        have q31' : goesB cl.op = true → (cl.op == 274) = false → q31 [encRow r] = some (.bool (circlesB r)) := fun x y => q31_eq hle (hin x y) hts
        clear hin hts hopl hop0 hcl hc0 hle hlen1 ha ho' b1 b2 o4 o5 hm' hs' hS
        repeat' (first
        | with_reducible refine Red.go ?_
        | with_reducible refine wp_draw ?_
        | ((with_reducible apply blkK_pass); rfl)
        | ((with_reducible first | apply wpOps_dry | apply wpOps_wet | apply wpOps_wet0 | apply wpDraw_dry); (simp only [evDryF, evWetF, St.new, Nat.reduceAdd, Nat.zero_add, Nat.add_zero, Eo.evF, upd_ap, reduceIte, Nat.reduceEqDiff, Bool.false_eq_true, Bool.not_true, Bool.not_false, flat, binAV, binInt, natOf_cast, *]; rfl))
        | ((with_reducible apply wpDraw_load); (simp only [Eo.evF, upd_ap, reduceIte, Nat.reduceEqDiff, Bool.false_eq_true, Bool.not_true, Bool.not_false, flat, binAV, binInt, natOf_cast, *]; rfl); rfl; rfl)
        | ((with_reducible first | apply wpOps_undef | apply wpDraw_undef)
           · simp only [upd_ap, reduceIte, Nat.reduceEqDiff]; done)
        | ((with_reducible first | apply wpOps_told | apply wpDraw_told); assumption; (simp only [evsF, List.map_cons, List.map_nil, Eo.evF, upd_ap, reduceIte, Nat.reduceEqDiff, Bool.false_eq_true, Bool.not_true, Bool.not_false, flat, binAV, binInt, natOf_cast, *]; rfl); first | (simp only [q30_eq]; rfl) | assumption)
        | ((with_reducible first | apply wpOps_test | apply wp_test | apply draw_test); (simp only [Eo.evF, upd_ap, reduceIte, Nat.reduceEqDiff, Bool.false_eq_true, Bool.not_true, Bool.not_false, flat, binAV, binInt, natOf_cast, *]; rfl))
        | (with_reducible apply testK_mk
           all_goals (intro hb; try simp only [Bool.not_true, Bool.not_false, Bool.not_eq_true', Bool.not_eq_false'] at hb)))
        all_goals first
          | (refine fnK_one ?_
             simp only [ans, tupled, upd_ap, reduceIte, Nat.reduceEqDiff]
             simp [hpre, *]
             done)
          | skip
        have q := q31' (by assumption) (by assumption)
        clear q31'
        repeat' (first
        | with_reducible refine Red.go ?_
        | with_reducible refine wp_draw ?_
        | ((with_reducible apply blkK_pass); rfl)
        | ((with_reducible first | apply wpOps_dry | apply wpOps_wet | apply wpOps_wet0 | apply wpDraw_dry); (simp only [evDryF, evWetF, St.new, Nat.reduceAdd, Nat.zero_add, Nat.add_zero, Eo.evF, upd_ap, reduceIte, Nat.reduceEqDiff, Bool.false_eq_true, Bool.not_true, Bool.not_false, flat, binAV, binInt, *]; rfl))
        | ((with_reducible apply wpDraw_load); (simp only [Eo.evF, upd_ap, reduceIte, Nat.reduceEqDiff, Bool.false_eq_true, Bool.not_true, Bool.not_false, flat, binAV, binInt, *]; rfl); rfl; rfl)
        | ((with_reducible first | apply wpOps_undef | apply wpDraw_undef)
           · simp only [upd_ap, reduceIte, Nat.reduceEqDiff]; done)
        | ((with_reducible first | apply wpOps_told | apply wpDraw_told); assumption; (simp only [evsF, List.map_cons, List.map_nil, Eo.evF, upd_ap, reduceIte, Nat.reduceEqDiff, Bool.false_eq_true, Bool.not_true, Bool.not_false, flat, binAV, binInt, *]; rfl); first | (simp only [q]; rfl) | assumption)
        | ((with_reducible first | apply wpOps_test | apply wp_test | apply draw_test); (simp only [Eo.evF, upd_ap, reduceIte, Nat.reduceEqDiff, Bool.false_eq_true, Bool.not_true, Bool.not_false, flat, binAV, binInt, *]; rfl))
        | (with_reducible apply testK_mk
           all_goals (intro hb; try simp only [Bool.not_true, Bool.not_false, Bool.not_eq_true', Bool.not_eq_false'] at hb)))
        refine fnK_one ?_
        simp only [ans, tupled, upd_ap, reduceIte, Nat.reduceEqDiff]
        simp [hpre, *]
      · rw [List.drop_zero] at ha
        rw [ha, Bool.false_and] at hpre
        clear ha
        repeat' (first
        | with_reducible refine Red.go ?_
        | with_reducible refine wp_draw ?_
        | ((with_reducible apply blkK_pass); rfl)
        | ((with_reducible first | apply wpOps_dry | apply wpOps_wet | apply wpOps_wet0 | apply wpDraw_dry); (simp only [evDryF, evWetF, St.new, Nat.reduceAdd, Nat.zero_add, Nat.add_zero, Eo.evF, upd_ap, reduceIte, Nat.reduceEqDiff, Bool.false_eq_true, Bool.not_true, Bool.not_false, flat, *]; rfl))
        | ((with_reducible apply wpDraw_load); (simp only [Eo.evF, upd_ap, reduceIte, Nat.reduceEqDiff, Bool.false_eq_true, Bool.not_true, Bool.not_false, flat, *]; rfl); rfl; rfl)
        | ((with_reducible first | apply wpOps_undef | apply wpDraw_undef)
           · simp only [upd_ap, reduceIte, Nat.reduceEqDiff]; done)
        | ((with_reducible first | apply wpOps_test | apply wp_test | apply draw_test); (simp only [Eo.evF, upd_ap, reduceIte, Nat.reduceEqDiff, Bool.false_eq_true, Bool.not_true, Bool.not_false, flat, *]; rfl))
        | (with_reducible apply testK_mk
           all_goals (intro hb; try simp only [Bool.not_true, Bool.not_false, Bool.not_eq_true', Bool.not_eq_false'] at hb)))
        refine fnK_one ?_
        simp [ans, tupled, upd_ap, e4, hpre]
end Go.Ev.Lc
/- LowerChecks, the program's side: lists looked through by a function. -/
namespace Go.Ev.Lc
open Go.Ev.Tab
set_option maxRecDepth 100000
set_option linter.all false

/-- A closure that answers p and leaves memory alone. -/
def Tells (E : Env) (lo : Nat) (g : FuncId) (a b : List AV) (s : St) (x : AV) (v : Bool) : Prop := ∀ KK : AV → St → Prop, KK (.bool v) s → callK E lo g (a ++ [x] ++ b) s KK
def body80 := match e80.body with
  | .seq _ (.seq (.seq _ (.block _ (.loop b))) _) => b
  | _ => .skip
theorem loop80 (E : Env) {lo : Nat} (l : List Int) (hl : short l = true) (g : FuncId) (a b : List AV) (p : Int → Bool) (s : St) (hp : ∀ x ∈ l, Tells E lo g a b s (K x) (p x)) (Q : Post) :
    ∀ m k (v : Pl), k + m = l.length → ((l.drop k).any p = false → ∀ env, Q (.exit 0) env s) → ((l.drop k).any p = true → ∀ (j : Nat) env, env 4 = K j → Q .ret env s) →
      RunT E lo (.loop body80) (setAll v [(0, ints l), (1, .fn g a b), (7, K l.length), (8, K k)]) s Q := by
  intro m
  induction m with
  | zero =>
    intro k v hk h1 h2
    have hki := lt_f (l := l) (k := k) (by omega)
    have h1 := h1 (by rw [List.drop_eq_nil_of_le (by omega)]; rfl)
    clear hk h2 hp
    refine lp ?_
    simp only [setAll, body80, e80]
    repeat' (first
    | with_reducible refine Red.go ?_
    | ((with_reducible apply blkK_pass); rfl)
    | ((with_reducible first | apply wpOps_dry | apply wpOps_wet | apply wpOps_wet0); (simp only [evDryF, evWetF, St.new, Nat.reduceAdd, Nat.zero_add, Nat.add_zero, Eo.evF, upd_ap, reduceIte, Nat.reduceEqDiff, Bool.false_eq_true, Bool.not_true, Bool.not_false, flat, binAV, binInt, gint, List.length_map, *]; rfl))
    | ((with_reducible apply wpOps_undef)
       · simp only [upd_ap, reduceIte, Nat.reduceEqDiff]; done)
    | ((with_reducible first | apply wpOps_test | apply wp_test); (simp only [Eo.evF, upd_ap, reduceIte, Nat.reduceEqDiff, Bool.false_eq_true, Bool.not_true, Bool.not_false, flat, binAV, binInt, gint, List.length_map, *]; rfl))
    | (with_reducible apply testK_mk
       all_goals (intro hb; try simp only [Bool.not_true, Bool.not_false, Bool.not_eq_true', Bool.not_eq_false'] at hb)))
    exact h1 _
  | succ m ih =>
    intro k v hk h1 h2
    have hkl : k < l.length := by omega
    have hki := lt_t hkl
    obtain ⟨y, hy, hd⟩ := get_ex hkl
    have hy' := map_get (f := fun n => AV.int .i64 n) hy
    have hpy := hp y (List.mem_of_getElem? hy)
    have hw := wrap_succ hl hkl
    have ih := fun v => ih (k + 1) v (by omega)
    rw [hd, List.any_cons] at h1 h2
    clear hy hd hp
    refine lp ?_
    simp only [setAll, body80, e80]
    repeat' (first
    | with_reducible refine Red.go ?_
    | ((with_reducible apply blkK_pass); rfl)
    | ((with_reducible first | apply wpOps_dry | apply wpOps_wet | apply wpOps_wet0); (simp only [evDryF, evWetF, St.new, Nat.reduceAdd, Nat.zero_add, Nat.add_zero, Eo.evF, upd_ap, reduceIte, Nat.reduceEqDiff, Bool.false_eq_true, Bool.not_true, Bool.not_false, flat, binAV, binInt, gint, List.length_map, natOf_cast, *]; rfl))
    | ((with_reducible apply wpOps_undef)
       · simp only [upd_ap, reduceIte, Nat.reduceEqDiff]; done)
    | ((with_reducible first | apply wpOps_test | apply wp_test); (simp only [Eo.evF, upd_ap, reduceIte, Nat.reduceEqDiff, Bool.false_eq_true, Bool.not_true, Bool.not_false, flat, binAV, binInt, gint, List.length_map, natOf_cast, *]; rfl))
    | (with_reducible apply testK_mk
       all_goals (intro hb; try simp only [Bool.not_true, Bool.not_false, Bool.not_eq_true', Bool.not_eq_false'] at hb)))
    refine wpOps_call (g := g) (a := a) (b := b) (by simp only [Eo.evF, upd_ap, reduceIte, Nat.reduceEqDiff]) (by simp only [evsF, List.map_cons, List.map_nil, Eo.evF, upd_ap, reduceIte, Nat.reduceEqDiff]; rfl) ?_
    refine hpy _ ?_
    clear hpy
    cases hb : p y with
    | true =>
      rw [hb] at h2
      have h2 := h2 rfl k
      clear h1
      repeat' (first
      | with_reducible refine Red.go ?_
      | ((with_reducible apply blkK_pass); rfl)
      | ((with_reducible first | apply wpOps_dry | apply wpOps_wet | apply wpOps_wet0); (simp only [evDryF, evWetF, St.new, Nat.reduceAdd, Nat.zero_add, Nat.add_zero, Eo.evF, upd_ap, reduceIte, Nat.reduceEqDiff, Bool.false_eq_true, Bool.not_true, Bool.not_false, flat, *]; rfl))
      | ((with_reducible apply wpOps_undef)
         · simp only [upd_ap, reduceIte, Nat.reduceEqDiff]; done)
      | ((with_reducible first | apply wpOps_test | apply wp_test); (simp only [Eo.evF, upd_ap, reduceIte, Nat.reduceEqDiff, Bool.false_eq_true, Bool.not_true, Bool.not_false, flat, *]; rfl))
      | (with_reducible apply testK_mk
         all_goals (intro hb; try simp only [Bool.not_true, Bool.not_false, Bool.not_eq_true', Bool.not_eq_false'] at hb)))
      exact h2 _ rfl
    | false =>
      rw [hb, Bool.false_or] at h1 h2
      repeat' (first
      | with_reducible refine Red.go ?_
      | ((with_reducible apply blkK_pass); rfl)
      | ((with_reducible first | apply wpOps_dry | apply wpOps_wet | apply wpOps_wet0); (simp only [evDryF, evWetF, St.new, Nat.reduceAdd, Nat.zero_add, Nat.add_zero, Eo.evF, upd_ap, reduceIte, Nat.reduceEqDiff, Bool.false_eq_true, Bool.not_true, Bool.not_false, flat, binAV, binInt, *]; rfl))
      | ((with_reducible apply wpOps_undef)
         · simp only [upd_ap, reduceIte, Nat.reduceEqDiff]; done)
      | ((with_reducible first | apply wpOps_test | apply wp_test); (simp only [Eo.evF, upd_ap, reduceIte, Nat.reduceEqDiff, Bool.false_eq_true, Bool.not_true, Bool.not_false, flat, binAV, binInt, *]; rfl))
      | (with_reducible apply testK_mk
         all_goals (intro hb; try simp only [Bool.not_true, Bool.not_false, Bool.not_eq_true', Bool.not_eq_false'] at hb)))
      refine lpK_nrm ?_
      exact rebase (L := [(0, ints l), (1, .fn g a b), (7, K l.length), (8, K (k + 1 : Nat))]) ⟨rfl, rfl, rfl, rfl, trivial⟩ (ih _ h1 h2)
/-- IndexFunc: -1, or some place. -/
theorem t80 (E : Env) {lo : Nat} (h : E.fns 80 = some e80) (l : List Int) (hl : short l = true) (g : FuncId) (a b : List AV) (p : Int → Bool) (s : St) (hp : ∀ x ∈ l, Tells E lo g a b s (K x) (p x)) (KK : AV → St → Prop)
    (h1 : l.any p = false → KK (K (-1)) s) (h2 : l.any p = true → ∀ j : Nat, KK (K j) s) : AnsK E lo 80 [ints l, .fn g a b] s KK := by
  refine fn_run h rfl rfl (plOf_args0 ..) ?_
  simp only [argPl, e80]
  have hp' := hp
  clear hp
  repeat' (first
  | with_reducible refine Red.go ?_
  | with_reducible refine wp_draw ?_
  | ((with_reducible apply blkK_pass); rfl)
  | ((with_reducible first | apply wpOps_dry | apply wpOps_wet | apply wpOps_wet0 | apply wpDraw_dry); (simp only [evDryF, evWetF, St.new, Nat.reduceAdd, Nat.zero_add, Nat.add_zero, Eo.evF, upd_ap, reduceIte, Nat.reduceEqDiff, Bool.false_eq_true, Bool.not_true, Bool.not_false, flat, binAV, binInt, gint, List.length_map, *]; rfl))
  | ((with_reducible apply wpDraw_load); (simp only [Eo.evF, upd_ap, reduceIte, Nat.reduceEqDiff, Bool.false_eq_true, Bool.not_true, Bool.not_false, flat, binAV, binInt, gint, List.length_map, *]; rfl); rfl; rfl)
  | ((with_reducible first | apply wpOps_undef | apply wpDraw_undef)
     · simp only [upd_ap, reduceIte, Nat.reduceEqDiff]; done)
  | ((with_reducible first | apply wpOps_test | apply wp_test | apply draw_test); (simp only [Eo.evF, upd_ap, reduceIte, Nat.reduceEqDiff, Bool.false_eq_true, Bool.not_true, Bool.not_false, flat, binAV, binInt, gint, List.length_map, *]; rfl))
  | (with_reducible apply testK_mk
     all_goals (intro hb; try simp only [Bool.not_true, Bool.not_false, Bool.not_eq_true', Bool.not_eq_false'] at hb)))
  refine wp_loop (rebase (L := [(0, ints l), (1, .fn g a b), (7, K l.length), (8, K (0 : Nat))]) ⟨rfl, rfl, rfl, rfl, trivial⟩ (loop80 E l hl g a b p s hp' _ l.length 0 _ (by omega) (fun ha env => ?_) (fun ha j env e4 => ?_)))
  · rw [List.drop_zero] at ha
    have h1 := h1 ha
    clear h2 ha hp'
    repeat' (first
    | with_reducible refine Red.go ?_
    | with_reducible refine wp_draw ?_
    | ((with_reducible apply blkK_pass); rfl)
    | ((with_reducible first | apply wpOps_dry | apply wpOps_wet | apply wpOps_wet0 | apply wpDraw_dry); (simp only [evDryF, evWetF, St.new, Nat.reduceAdd, Nat.zero_add, Nat.add_zero, Eo.evF, upd_ap, reduceIte, Nat.reduceEqDiff, Bool.false_eq_true, Bool.not_true, Bool.not_false, flat, *]; rfl))
    | ((with_reducible apply wpDraw_load); (simp only [Eo.evF, upd_ap, reduceIte, Nat.reduceEqDiff, Bool.false_eq_true, Bool.not_true, Bool.not_false, flat, *]; rfl); rfl; rfl)
    | ((with_reducible first | apply wpOps_undef | apply wpDraw_undef)
       · simp only [upd_ap, reduceIte, Nat.reduceEqDiff]; done)
    | ((with_reducible first | apply wpOps_test | apply wp_test | apply draw_test); (simp only [Eo.evF, upd_ap, reduceIte, Nat.reduceEqDiff, Bool.false_eq_true, Bool.not_true, Bool.not_false, flat, *]; rfl))
    | (with_reducible apply testK_mk
       all_goals (intro hb; try simp only [Bool.not_true, Bool.not_false, Bool.not_eq_true', Bool.not_eq_false'] at hb)))
    refine fnK_one ?_
    exact h1
  · rw [List.drop_zero] at ha
    have h2 := h2 ha j
    clear h1 ha hp'
    repeat' (first
    | with_reducible refine Red.go ?_
    | with_reducible refine wp_draw ?_
    | ((with_reducible apply blkK_pass); rfl)
    | ((with_reducible first | apply wpOps_dry | apply wpOps_wet | apply wpOps_wet0 | apply wpDraw_dry); (simp only [evDryF, evWetF, St.new, Nat.reduceAdd, Nat.zero_add, Nat.add_zero, Eo.evF, upd_ap, reduceIte, Nat.reduceEqDiff, Bool.false_eq_true, Bool.not_true, Bool.not_false, flat, *]; rfl))
    | ((with_reducible apply wpDraw_load); (simp only [Eo.evF, upd_ap, reduceIte, Nat.reduceEqDiff, Bool.false_eq_true, Bool.not_true, Bool.not_false, flat, *]; rfl); rfl; rfl)
    | ((with_reducible first | apply wpOps_undef | apply wpDraw_undef)
       · simp only [upd_ap, reduceIte, Nat.reduceEqDiff]; done)
    | ((with_reducible first | apply wpOps_test | apply wp_test | apply draw_test); (simp only [Eo.evF, upd_ap, reduceIte, Nat.reduceEqDiff, Bool.false_eq_true, Bool.not_true, Bool.not_false, flat, *]; rfl))
    | (with_reducible apply testK_mk
       all_goals (intro hb; try simp only [Bool.not_true, Bool.not_false, Bool.not_eq_true', Bool.not_eq_false'] at hb)))
    refine fnK_one ?_
    rw [e4]
    exact h2
/-- ContainsFunc. -/
theorem t51 (E : Env) {lo : Nat} (h : E.fns 51 = some e51) (h80 : E.fns 80 = some e80) (l : List Int) (hl : short l = true) (g : FuncId) (a b : List AV) (p : Int → Bool) (s : St) (hp : ∀ x ∈ l, Tells E lo g a b s (K x) (p x)) (KK : AV → St → Prop)
    (hk : KK (.bool (l.any p)) s) : AnsK E lo 51 [ints l, .fn g a b] s KK := by
  refine fn_run h rfl rfl (plOf_args0 ..) ?_
  simp only [argPl, e51]
  have hp' := hp
  clear hp
  repeat' (first
  | with_reducible refine Red.go ?_
  | ((with_reducible apply blkK_pass); rfl)
  | ((with_reducible first | apply wpOps_dry | apply wpOps_wet | apply wpOps_wet0); (simp only [evDryF, evWetF, St.new, Nat.reduceAdd, Nat.zero_add, Nat.add_zero, Eo.evF, upd_ap, reduceIte, Nat.reduceEqDiff, Bool.false_eq_true, Bool.not_true, Bool.not_false, flat, binAV, binInt, gint, List.length_map, *]; rfl))
  | ((with_reducible apply wpOps_undef)
     · simp only [upd_ap, reduceIte, Nat.reduceEqDiff]; done)
  | ((with_reducible first | apply wpOps_test | apply wp_test); (simp only [Eo.evF, upd_ap, reduceIte, Nat.reduceEqDiff, Bool.false_eq_true, Bool.not_true, Bool.not_false, flat, binAV, binInt, gint, List.length_map, *]; rfl))
  | (with_reducible apply testK_mk
     all_goals (intro hb; try simp only [Bool.not_true, Bool.not_false, Bool.not_eq_true', Bool.not_eq_false'] at hb)))
  refine wpOps_call (g := 80) (a := []) (b := []) rfl (by simp only [evsF, List.map_cons, List.map_nil, Eo.evF, upd_ap, reduceIte, Nat.reduceEqDiff]; rfl) ?_
  refine callK_run h80 rfl (t80 E h80 l hl g a b p s hp' _ (fun ha => ?_) (fun ha j => ?_))
  · have d : decide ((-1 : Int) ≥ 0) = false := by decide
    rw [ha] at hk
    clear hp' ha
    repeat' (first
    | with_reducible refine Red.go ?_
    | ((with_reducible apply blkK_pass); rfl)
    | ((with_reducible first | apply wpOps_dry | apply wpOps_wet | apply wpOps_wet0); (simp only [evDryF, evWetF, St.new, Nat.reduceAdd, Nat.zero_add, Nat.add_zero, Eo.evF, upd_ap, reduceIte, Nat.reduceEqDiff, Bool.false_eq_true, Bool.not_true, Bool.not_false, flat, binAV, binInt, *]; rfl))
    | ((with_reducible apply wpOps_undef)
       · simp only [upd_ap, reduceIte, Nat.reduceEqDiff]; done)
    | ((with_reducible first | apply wpOps_test | apply wp_test); (simp only [Eo.evF, upd_ap, reduceIte, Nat.reduceEqDiff, Bool.false_eq_true, Bool.not_true, Bool.not_false, flat, binAV, binInt, *]; rfl))
    | (with_reducible apply testK_mk
       all_goals (intro hb; try simp only [Bool.not_true, Bool.not_false, Bool.not_eq_true', Bool.not_eq_false'] at hb)))
    refine fnK_one ?_
    exact hk
  · have d : decide ((j : Int) ≥ 0) = true := by simp
    rw [ha] at hk
    clear hp' ha
    repeat' (first
    | with_reducible refine Red.go ?_
    | ((with_reducible apply blkK_pass); rfl)
    | ((with_reducible first | apply wpOps_dry | apply wpOps_wet | apply wpOps_wet0); (simp only [evDryF, evWetF, St.new, Nat.reduceAdd, Nat.zero_add, Nat.add_zero, Eo.evF, upd_ap, reduceIte, Nat.reduceEqDiff, Bool.false_eq_true, Bool.not_true, Bool.not_false, flat, binAV, binInt, *]; rfl))
    | ((with_reducible apply wpOps_undef)
       · simp only [upd_ap, reduceIte, Nat.reduceEqDiff]; done)
    | ((with_reducible first | apply wpOps_test | apply wp_test); (simp only [Eo.evF, upd_ap, reduceIte, Nat.reduceEqDiff, Bool.false_eq_true, Bool.not_true, Bool.not_false, flat, binAV, binInt, *]; rfl))
    | (with_reducible apply testK_mk
       all_goals (intro hb; try simp only [Bool.not_true, Bool.not_false, Bool.not_eq_true', Bool.not_eq_false'] at hb)))
    refine fnK_one ?_
    exact hk

/-! ### within -/
def outB (n x : Int) : Bool := decide (x < 0) || decide (x ≥ n)
theorem t52 (E : Env) (h : E.fns 52 = some e52) (n x : Int) (s : St) (b ex : Nat) (hrow : row s b = some ([K n], 1, ex)) : Tells E 0 52 [] [.ptr b 0] s (K x) (outB n x) := by
  intro KK hk
  refine callK_run h rfl ?_
  refine fn_run h rfl rfl (plOf_args0 ..) ?_
  simp only [argPl, e52, List.nil_append, List.cons_append]
  repeat' (first
  | with_reducible refine Red.go ?_
  | ((with_reducible apply blkK_pass); rfl)
  | ((with_reducible first | apply wpOps_dry | apply wpOps_wet | apply wpOps_wet0); (simp only [evDryF, evWetF, St.new, Nat.reduceAdd, Nat.zero_add, Nat.add_zero, Eo.evF, upd_ap, reduceIte, Nat.reduceEqDiff, Bool.false_eq_true, Bool.not_true, Bool.not_false, flat, binAV, binInt, *]; rfl))
  | ((with_reducible apply wpOps_undef)
     · simp only [upd_ap, reduceIte, Nat.reduceEqDiff]; done)
  | ((with_reducible first | apply wpOps_test | apply wp_test); (simp only [Eo.evF, upd_ap, reduceIte, Nat.reduceEqDiff, Bool.false_eq_true, Bool.not_true, Bool.not_false, flat, binAV, binInt, *]; rfl))
  | (with_reducible apply testK_mk
     all_goals (intro hb; try simp only [Bool.not_true, Bool.not_false, Bool.not_eq_true', Bool.not_eq_false'] at hb)))
  all_goals
    refine fnK_one ?_
    have hb' := hb
    clear hrow
    simp only [outB, hb] at hk
    first | exact hk | (simp only [Bool.false_or, Bool.true_or] at hk; exact hk) | (simp [outB, *] at hk; simpa [upd_ap] using hk)
def withinB (n : Int) (l : List Int) : Bool := !l.any (outB n)
theorem t20 (E : Env) (h : E.fns 20 = some e20) (h51 : E.fns 51 = some e51) (h80 : E.fns 80 = some e80) (h52 : E.fns 52 = some e52) (n : Int) (l : List Int) (hl : short l = true) : AnsK E 0 20 [K n, ints l] s0 (ans (.bool (withinB n l))) := by
  refine fn_run h rfl rfl (plOf_args0 ..) ?_
  simp only [argPl, e20]
  repeat' (first
  | with_reducible refine Red.go ?_
  | ((with_reducible apply blkK_pass); rfl)
  | ((with_reducible first | apply wpOps_dry | apply wpOps_wet | apply wpOps_wet0); (simp only [evDryF, evWetF, St.new, Nat.reduceAdd, Nat.zero_add, Nat.add_zero, Eo.evF, upd_ap, reduceIte, Nat.reduceEqDiff, Bool.false_eq_true, Bool.not_true, Bool.not_false, flat, *]; rfl))
  | ((with_reducible apply wpOps_undef)
     · simp only [upd_ap, reduceIte, Nat.reduceEqDiff]; done)
  | ((with_reducible first | apply wpOps_test | apply wp_test); (simp only [Eo.evF, upd_ap, reduceIte, Nat.reduceEqDiff, Bool.false_eq_true, Bool.not_true, Bool.not_false, flat, *]; rfl))
  | (with_reducible apply testK_mk
     all_goals (intro hb; try simp only [Bool.not_true, Bool.not_false, Bool.not_eq_true', Bool.not_eq_false'] at hb)))
  refine wpOps_call (g := 51) (a := []) (b := []) (x := [ints l, .fn 52 [] [.ptr 0 0]]) rfl rfl ?_
  refine callK_run h51 rfl (t51 E h51 h80 l hl 52 [] [.ptr 0 0] (outB n) _ (fun x _ => t52 E h52 n x _ 0 1 rfl) _ ?_)
  repeat' (first
  | with_reducible refine Red.go ?_
  | ((with_reducible apply blkK_pass); rfl)
  | ((with_reducible first | apply wpOps_dry | apply wpOps_wet | apply wpOps_wet0); (simp only [evDryF, evWetF, St.new, Nat.reduceAdd, Nat.zero_add, Nat.add_zero, Eo.evF, upd_ap, reduceIte, Nat.reduceEqDiff, Bool.false_eq_true, Bool.not_true, Bool.not_false, flat, *]; rfl))
  | ((with_reducible apply wpOps_undef)
     · simp only [upd_ap, reduceIte, Nat.reduceEqDiff]; done)
  | ((with_reducible first | apply wpOps_test | apply wp_test); (simp only [Eo.evF, upd_ap, reduceIte, Nat.reduceEqDiff, Bool.false_eq_true, Bool.not_true, Bool.not_false, flat, *]; rfl))
  | (with_reducible apply testK_mk
     all_goals (intro hb; try simp only [Bool.not_true, Bool.not_false, Bool.not_eq_true', Bool.not_eq_false'] at hb)))
  refine fnK_one ?_
  simp [ans, tupled, withinB, upd_ap]
def q20 : List AV → Option AV
  | [.int .i64 n, .lst es] => match unInts es with | some l => (match short l with | true => some (.bool (withinB n l)) | false => none) | none => none
  | _ => none
theorem q20_eq (n : Int) {l : List Int} (h : short l = true) : q20 [.int .i64 n, ints l] = some (.bool (withinB n l)) := by simp only [q20, unInts_map, h]
end Go.Ev.Lc
/- LowerChecks, the program's side: kinds, signatures, places unlike one another. -/
namespace Go.Ev.Lc
open Go.Ev.Tab
set_option maxRecDepth 100000
set_option linter.all false

theorem t78 (E : Env) (h : E.fns 78 = some e78) (n : Int) : AnsK E 0 78 [K n] s0 (ans (.bool (kindB n))) := by
  refine fn_run h rfl rfl (plOf_args0 ..) ?_
  simp only [argPl, e78]
  repeat' (first
  | with_reducible refine Red.go ?_
  | ((with_reducible apply blkK_pass); rfl)
  | ((with_reducible first | apply wpOps_dry | apply wpOps_wet | apply wpOps_wet0); (simp only [evDryF, evWetF, St.new, Nat.reduceAdd, Nat.zero_add, Nat.add_zero, Eo.evF, upd_ap, reduceIte, Nat.reduceEqDiff, Bool.false_eq_true, Bool.not_true, Bool.not_false, flat, *]; rfl))
  | ((with_reducible apply wpOps_undef)
     · simp only [upd_ap, reduceIte, Nat.reduceEqDiff]; done)
  | ((with_reducible first | apply wpOps_test | apply wp_test); (simp only [Eo.evF, upd_ap, reduceIte, Nat.reduceEqDiff, Bool.false_eq_true, Bool.not_true, Bool.not_false, flat, *]; rfl))
  | (with_reducible apply testK_mk
     all_goals (intro hb; try simp only [Bool.not_true, Bool.not_false, Bool.not_eq_true', Bool.not_eq_false'] at hb)))
  all_goals
    refine fnK_one ?_
    simp [ans, tupled, kindB, upd_ap, *]
theorem t77 (E : Env) (h : E.fns 77 = some e77) (h78 : ToldBy E 78 q83) (x : Int) (s : St) : Tells E 0 77 [] [] s (K x) (!kindB x) := by
  intro KK hk
  refine callK_run h rfl ?_
  refine fn_run h rfl rfl (plOf_args0 ..) ?_
  simp only [argPl, e77, List.nil_append, List.append_nil]
  repeat' (first
  | with_reducible refine Red.go ?_
  | ((with_reducible apply blkK_pass); rfl)
  | ((with_reducible first | apply wpOps_dry | apply wpOps_wet | apply wpOps_wet0); (simp only [evDryF, evWetF, St.new, Nat.reduceAdd, Nat.zero_add, Nat.add_zero, Eo.evF, upd_ap, reduceIte, Nat.reduceEqDiff, Bool.false_eq_true, Bool.not_true, Bool.not_false, flat, *]; rfl))
  | ((with_reducible apply wpOps_undef)
     · simp only [upd_ap, reduceIte, Nat.reduceEqDiff]; done)
  | ((with_reducible apply wpOps_told); assumption; (simp only [evsF, List.map_cons, List.map_nil, Eo.evF, upd_ap, reduceIte, Nat.reduceEqDiff, Bool.false_eq_true, Bool.not_true, Bool.not_false, flat, *]; rfl); first | (simp only [q83_eq]; rfl) | assumption)
  | ((with_reducible first | apply wpOps_test | apply wp_test); (simp only [Eo.evF, upd_ap, reduceIte, Nat.reduceEqDiff, Bool.false_eq_true, Bool.not_true, Bool.not_false, flat, *]; rfl))
  | (with_reducible apply testK_mk
     all_goals (intro hb; try simp only [Bool.not_true, Bool.not_false, Bool.not_eq_true', Bool.not_eq_false'] at hb)))
  refine fnK_one ?_
  exact hk
def kindsI (most : Int) (l : List Int) : Bool := decide ((l.length : Int) ≤ most) && !l.any fun x => !kindB x
theorem kindsI_eq (most : Int) (l : List Int) : kindsI most l = kindsB l most := by
  have h : (!l.any fun x => !kindB x) = l.all kindB := by
    induction l with
    | nil => rfl
    | cons a r ih => simp only [List.any_cons, List.all_cons, Bool.not_or, Bool.not_not, ih]
  have h2 : decide ((l.length : Int) ≤ most) = !decide ((l.length : Int) > most) := by
    by_cases hd : (l.length : Int) ≤ most
    · have : ¬ ((l.length : Int) > most) := by omega
      simp [hd, this]
    · have : (l.length : Int) > most := by omega
      simp [hd, this]
  simp only [kindsI, kindsB, h, h2]
theorem t47 (E : Env) (h : E.fns 47 = some e47) (h51 : E.fns 51 = some e51) (h80 : E.fns 80 = some e80) (h77 : E.fns 77 = some e77) (h78 : ToldBy E 78 q83) (most : Int) (l : List Int) (hl : short l = true) : AnsK E 0 47 [K most, ints l] s0 (ans (.bool (kindsB l most))) := by
  rw [← kindsI_eq]
  refine fn_run h rfl rfl (plOf_args0 ..) ?_
  simp only [argPl, e47]
  repeat' (first
  | with_reducible refine Red.go ?_
  | ((with_reducible apply blkK_pass); rfl)
  | ((with_reducible first | apply wpOps_dry | apply wpOps_wet | apply wpOps_wet0); (simp only [evDryF, evWetF, St.new, Nat.reduceAdd, Nat.zero_add, Nat.add_zero, Eo.evF, upd_ap, reduceIte, Nat.reduceEqDiff, Bool.false_eq_true, Bool.not_true, Bool.not_false, flat, binAV, binInt, gint, List.length_map, *]; rfl))
  | ((with_reducible apply wpOps_undef)
     · simp only [upd_ap, reduceIte, Nat.reduceEqDiff]; done)
  | ((with_reducible first | apply wpOps_test | apply wp_test); (simp only [Eo.evF, upd_ap, reduceIte, Nat.reduceEqDiff, Bool.false_eq_true, Bool.not_true, Bool.not_false, flat, binAV, binInt, gint, List.length_map, *]; rfl))
  | (with_reducible apply testK_mk
     all_goals (intro hb; try simp only [Bool.not_true, Bool.not_false, Bool.not_eq_true', Bool.not_eq_false'] at hb)))
  · refine wpOps_call (g := 51) (a := []) (b := []) (x := [ints l, .fn 77 [] []]) rfl rfl ?_
    refine callK_run h51 rfl (t51 E h51 h80 l hl 77 [] [] (fun x => !kindB x) _ (fun x _ => t77 E h77 h78 x _) _ ?_)
    repeat' (first
    | with_reducible refine Red.go ?_
    | ((with_reducible apply blkK_pass); rfl)
    | ((with_reducible first | apply wpOps_dry | apply wpOps_wet | apply wpOps_wet0); (simp only [evDryF, evWetF, St.new, Nat.reduceAdd, Nat.zero_add, Nat.add_zero, Eo.evF, upd_ap, reduceIte, Nat.reduceEqDiff, Bool.false_eq_true, Bool.not_true, Bool.not_false, flat, *]; rfl))
    | ((with_reducible apply wpOps_undef)
       · simp only [upd_ap, reduceIte, Nat.reduceEqDiff]; done)
    | ((with_reducible first | apply wpOps_test | apply wp_test); (simp only [Eo.evF, upd_ap, reduceIte, Nat.reduceEqDiff, Bool.false_eq_true, Bool.not_true, Bool.not_false, flat, *]; rfl))
    | (with_reducible apply testK_mk
       all_goals (intro hb; try simp only [Bool.not_true, Bool.not_false, Bool.not_eq_true', Bool.not_eq_false'] at hb)))
    refine fnK_one ?_
    simp [ans, tupled, kindsI, upd_ap, *]
  · refine fnK_one ?_
    simp [ans, tupled, kindsI, upd_ap, *]
def q47 : List AV → Option AV
  | [.int .i64 n, .lst es] => match unInts es with | some l => (match short l with | true => some (.bool (kindsB l n)) | false => none) | none => none
  | _ => none
theorem q47_eq (n : Int) {l : List Int} (h : short l = true) : q47 [.int .i64 n, ints l] = some (.bool (kindsB l n)) := by simp only [q47, unInts_map, h]
theorem t50 (E : Env) (h : E.fns 50 = some e50) (h47 : ToldBy E 47 q47) (x : Sig) (hl1 : short x.inp = true) (hl2 : short x.out = true) : AnsK E 0 50 [encSig x] s0 (ans (.bool (sigB x))) := by
  refine fn_run h rfl rfl (plOf_args0 ..) ?_
  simp only [argPl, e50]
  repeat' (first
  | with_reducible refine Red.go ?_
  | ((with_reducible apply blkK_pass); rfl)
  | ((with_reducible first | apply wpOps_dry | apply wpOps_wet | apply wpOps_wet0); (simp only [evDryF, evWetF, St.new, Nat.reduceAdd, Nat.zero_add, Nat.add_zero, Eo.evF, upd_ap, reduceIte, Nat.reduceEqDiff, Bool.false_eq_true, Bool.not_true, Bool.not_false, flat, *]; rfl))
  | ((with_reducible apply wpOps_undef)
     · simp only [upd_ap, reduceIte, Nat.reduceEqDiff]; done)
  | ((with_reducible apply wpOps_told); assumption; (simp only [evsF, List.map_cons, List.map_nil, Eo.evF, upd_ap, reduceIte, Nat.reduceEqDiff, Bool.false_eq_true, Bool.not_true, Bool.not_false, flat, *]; rfl); first | (simp only [q47_eq, *]; rfl) | assumption)
  | ((with_reducible first | apply wpOps_test | apply wp_test); (simp only [Eo.evF, upd_ap, reduceIte, Nat.reduceEqDiff, Bool.false_eq_true, Bool.not_true, Bool.not_false, flat, *]; rfl))
  | (with_reducible apply testK_mk
     all_goals (intro hb; try simp only [Bool.not_true, Bool.not_false, Bool.not_eq_true', Bool.not_eq_false'] at hb)))
  all_goals
    refine fnK_one ?_
    simp [ans, tupled, sigB, upd_ap, *]

/-! ### Index, Contains, unlike -/
def body55 := match e55.body with
  | .seq _ (.seq (.seq _ (.block _ (.loop b))) _) => b
  | _ => .skip
theorem loop55 (E : Env) (l : List Int) (hl : short l = true) (x : Int) (s : St) (Q : Post) :
    ∀ m k (v : Pl), k + m = l.length → ((l.drop k).any (x == ·) = false → ∀ env, Q (.exit 0) env s) → ((l.drop k).any (x == ·) = true → ∀ (j : Nat) env, env 4 = K j → Q .ret env s) →
      RunT E 0 (.loop body55) (setAll v [(0, ints l), (1, K x), (7, K l.length), (8, K k)]) s Q := by
  intro m
  induction m with
  | zero =>
    intro k v hk h1 h2
    have hki := lt_f (l := l) (k := k) (by omega)
    have h1 := h1 (by rw [List.drop_eq_nil_of_le (by omega)]; rfl)
    clear hk h2
    refine lp ?_
    simp only [setAll, body55, e55]
    repeat' (first
    | with_reducible refine Red.go ?_
    | ((with_reducible apply blkK_pass); rfl)
    | ((with_reducible first | apply wpOps_dry | apply wpOps_wet | apply wpOps_wet0); (simp only [evDryF, evWetF, St.new, Nat.reduceAdd, Nat.zero_add, Nat.add_zero, Eo.evF, upd_ap, reduceIte, Nat.reduceEqDiff, Bool.false_eq_true, Bool.not_true, Bool.not_false, flat, binAV, binInt, gint, List.length_map, *]; rfl))
    | ((with_reducible apply wpOps_undef)
       · simp only [upd_ap, reduceIte, Nat.reduceEqDiff]; done)
    | ((with_reducible first | apply wpOps_test | apply wp_test); (simp only [Eo.evF, upd_ap, reduceIte, Nat.reduceEqDiff, Bool.false_eq_true, Bool.not_true, Bool.not_false, flat, binAV, binInt, gint, List.length_map, *]; rfl))
    | (with_reducible apply testK_mk
       all_goals (intro hb; try simp only [Bool.not_true, Bool.not_false, Bool.not_eq_true', Bool.not_eq_false'] at hb)))
    exact h1 _
  | succ m ih =>
    intro k v hk h1 h2
    have hkl : k < l.length := by omega
    have hki := lt_t hkl
    obtain ⟨y, hy, hd⟩ := get_ex hkl
    have hy' := map_get (f := fun n => AV.int .i64 n) hy
    have hw := wrap_succ hl hkl
    have ih := fun v => ih (k + 1) v (by omega)
    rw [hd, List.any_cons] at h1 h2
    clear hy hd
    refine lp ?_
    simp only [setAll, body55, e55]
    repeat' (first
    | with_reducible refine Red.go ?_
    | ((with_reducible apply blkK_pass); rfl)
    | ((with_reducible first | apply wpOps_dry | apply wpOps_wet | apply wpOps_wet0); (simp only [evDryF, evWetF, St.new, Nat.reduceAdd, Nat.zero_add, Nat.add_zero, Eo.evF, upd_ap, reduceIte, Nat.reduceEqDiff, Bool.false_eq_true, Bool.not_true, Bool.not_false, flat, binAV, binInt, gint, List.length_map, natOf_cast, *]; rfl))
    | ((with_reducible apply wpOps_undef)
       · simp only [upd_ap, reduceIte, Nat.reduceEqDiff]; done)
    | ((with_reducible first | apply wpOps_test | apply wp_test); (simp only [Eo.evF, upd_ap, reduceIte, Nat.reduceEqDiff, Bool.false_eq_true, Bool.not_true, Bool.not_false, flat, binAV, binInt, gint, List.length_map, natOf_cast, *]; rfl))
    | (with_reducible apply testK_mk
       all_goals (intro hb; try simp only [Bool.not_true, Bool.not_false, Bool.not_eq_true', Bool.not_eq_false'] at hb)))
    · exact h2 (by rw [hb]; rfl) k _ rfl
    · rw [hb, Bool.false_or] at h1 h2
      refine lpK_nrm ?_
      exact rebase (L := [(0, ints l), (1, K x), (7, K l.length), (8, K (k + 1 : Nat))]) ⟨rfl, rfl, rfl, rfl, trivial⟩ (ih _ h1 h2)
theorem t55 (E : Env) (h : E.fns 55 = some e55) (l : List Int) (hl : short l = true) (x : Int) (s : St) (KK : AV → St → Prop) (h1 : l.any (x == ·) = false → KK (K (-1)) s) (h2 : l.any (x == ·) = true → ∀ j : Nat, KK (K j) s) : AnsK E 0 55 [ints l, K x] s KK := by
  refine fn_run h rfl rfl (plOf_args0 ..) ?_
  simp only [argPl, e55]
  repeat' (first
  | with_reducible refine Red.go ?_
  | with_reducible refine wp_draw ?_
  | ((with_reducible apply blkK_pass); rfl)
  | ((with_reducible first | apply wpOps_dry | apply wpOps_wet | apply wpOps_wet0 | apply wpDraw_dry); (simp only [evDryF, evWetF, St.new, Nat.reduceAdd, Nat.zero_add, Nat.add_zero, Eo.evF, upd_ap, reduceIte, Nat.reduceEqDiff, Bool.false_eq_true, Bool.not_true, Bool.not_false, flat, binAV, binInt, gint, List.length_map, *]; rfl))
  | ((with_reducible apply wpDraw_load); (simp only [Eo.evF, upd_ap, reduceIte, Nat.reduceEqDiff, Bool.false_eq_true, Bool.not_true, Bool.not_false, flat, binAV, binInt, gint, List.length_map, *]; rfl); rfl; rfl)
  | ((with_reducible first | apply wpOps_undef | apply wpDraw_undef)
     · simp only [upd_ap, reduceIte, Nat.reduceEqDiff]; done)
  | ((with_reducible first | apply wpOps_test | apply wp_test | apply draw_test); (simp only [Eo.evF, upd_ap, reduceIte, Nat.reduceEqDiff, Bool.false_eq_true, Bool.not_true, Bool.not_false, flat, binAV, binInt, gint, List.length_map, *]; rfl))
  | (with_reducible apply testK_mk
     all_goals (intro hb; try simp only [Bool.not_true, Bool.not_false, Bool.not_eq_true', Bool.not_eq_false'] at hb)))
  refine wp_loop (rebase (L := [(0, ints l), (1, K x), (7, K l.length), (8, K (0 : Nat))]) ⟨rfl, rfl, rfl, rfl, trivial⟩ (loop55 E l hl x s _ l.length 0 _ (by omega) (fun ha env => ?_) (fun ha j env e4 => ?_)))
  · rw [List.drop_zero] at ha
    have h1 := h1 ha
    clear h2 ha
    repeat' (first
    | with_reducible refine Red.go ?_
    | with_reducible refine wp_draw ?_
    | ((with_reducible apply blkK_pass); rfl)
    | ((with_reducible first | apply wpOps_dry | apply wpOps_wet | apply wpOps_wet0 | apply wpDraw_dry); (simp only [evDryF, evWetF, St.new, Nat.reduceAdd, Nat.zero_add, Nat.add_zero, Eo.evF, upd_ap, reduceIte, Nat.reduceEqDiff, Bool.false_eq_true, Bool.not_true, Bool.not_false, flat, *]; rfl))
    | ((with_reducible apply wpDraw_load); (simp only [Eo.evF, upd_ap, reduceIte, Nat.reduceEqDiff, Bool.false_eq_true, Bool.not_true, Bool.not_false, flat, *]; rfl); rfl; rfl)
    | ((with_reducible first | apply wpOps_undef | apply wpDraw_undef)
       · simp only [upd_ap, reduceIte, Nat.reduceEqDiff]; done)
    | ((with_reducible first | apply wpOps_test | apply wp_test | apply draw_test); (simp only [Eo.evF, upd_ap, reduceIte, Nat.reduceEqDiff, Bool.false_eq_true, Bool.not_true, Bool.not_false, flat, *]; rfl))
    | (with_reducible apply testK_mk
       all_goals (intro hb; try simp only [Bool.not_true, Bool.not_false, Bool.not_eq_true', Bool.not_eq_false'] at hb)))
    refine fnK_one ?_
    exact h1
  · rw [List.drop_zero] at ha
    have h2 := h2 ha j
    clear h1 ha
    repeat' (first
    | with_reducible refine Red.go ?_
    | with_reducible refine wp_draw ?_
    | ((with_reducible apply blkK_pass); rfl)
    | ((with_reducible first | apply wpOps_dry | apply wpOps_wet | apply wpOps_wet0 | apply wpDraw_dry); (simp only [evDryF, evWetF, St.new, Nat.reduceAdd, Nat.zero_add, Nat.add_zero, Eo.evF, upd_ap, reduceIte, Nat.reduceEqDiff, Bool.false_eq_true, Bool.not_true, Bool.not_false, flat, *]; rfl))
    | ((with_reducible apply wpDraw_load); (simp only [Eo.evF, upd_ap, reduceIte, Nat.reduceEqDiff, Bool.false_eq_true, Bool.not_true, Bool.not_false, flat, *]; rfl); rfl; rfl)
    | ((with_reducible first | apply wpOps_undef | apply wpDraw_undef)
       · simp only [upd_ap, reduceIte, Nat.reduceEqDiff]; done)
    | ((with_reducible first | apply wpOps_test | apply wp_test | apply draw_test); (simp only [Eo.evF, upd_ap, reduceIte, Nat.reduceEqDiff, Bool.false_eq_true, Bool.not_true, Bool.not_false, flat, *]; rfl))
    | (with_reducible apply testK_mk
       all_goals (intro hb; try simp only [Bool.not_true, Bool.not_false, Bool.not_eq_true', Bool.not_eq_false'] at hb)))
    refine fnK_one ?_
    rw [e4]
    exact h2
theorem t25 (E : Env) (h : E.fns 25 = some e25) (h55 : E.fns 55 = some e55) (l : List Int) (hl : short l = true) (x : Int) : AnsK E 0 25 [ints l, K x] s0 (ans (.bool (l.any (x == ·)))) := by
  refine fn_run h rfl rfl (plOf_args0 ..) ?_
  simp only [argPl, e25]
  repeat' (first
  | with_reducible refine Red.go ?_
  | ((with_reducible apply blkK_pass); rfl)
  | ((with_reducible first | apply wpOps_dry | apply wpOps_wet | apply wpOps_wet0); (simp only [evDryF, evWetF, St.new, Nat.reduceAdd, Nat.zero_add, Nat.add_zero, Eo.evF, upd_ap, reduceIte, Nat.reduceEqDiff, Bool.false_eq_true, Bool.not_true, Bool.not_false, flat, binAV, binInt, gint, List.length_map, *]; rfl))
  | ((with_reducible apply wpOps_undef)
     · simp only [upd_ap, reduceIte, Nat.reduceEqDiff]; done)
  | ((with_reducible first | apply wpOps_test | apply wp_test); (simp only [Eo.evF, upd_ap, reduceIte, Nat.reduceEqDiff, Bool.false_eq_true, Bool.not_true, Bool.not_false, flat, binAV, binInt, gint, List.length_map, *]; rfl))
  | (with_reducible apply testK_mk
     all_goals (intro hb; try simp only [Bool.not_true, Bool.not_false, Bool.not_eq_true', Bool.not_eq_false'] at hb)))
  refine wpOps_call (g := 55) (a := []) (b := []) (x := [ints l, K x]) rfl rfl ?_
  refine callK_run h55 rfl (t55 E h55 l hl x _ _ (fun ha => ?_) (fun ha j => ?_))
  · have d : decide ((-1 : Int) ≥ 0) = false := by decide
    rw [ha]
    clear ha
    repeat' (first
    | with_reducible refine Red.go ?_
    | ((with_reducible apply blkK_pass); rfl)
    | ((with_reducible first | apply wpOps_dry | apply wpOps_wet | apply wpOps_wet0); (simp only [evDryF, evWetF, St.new, Nat.reduceAdd, Nat.zero_add, Nat.add_zero, Eo.evF, upd_ap, reduceIte, Nat.reduceEqDiff, Bool.false_eq_true, Bool.not_true, Bool.not_false, flat, binAV, binInt, *]; rfl))
    | ((with_reducible apply wpOps_undef)
       · simp only [upd_ap, reduceIte, Nat.reduceEqDiff]; done)
    | ((with_reducible first | apply wpOps_test | apply wp_test); (simp only [Eo.evF, upd_ap, reduceIte, Nat.reduceEqDiff, Bool.false_eq_true, Bool.not_true, Bool.not_false, flat, binAV, binInt, *]; rfl))
    | (with_reducible apply testK_mk
       all_goals (intro hb; try simp only [Bool.not_true, Bool.not_false, Bool.not_eq_true', Bool.not_eq_false'] at hb)))
    refine fnK_one ?_
    rfl
  · have d : decide ((j : Int) ≥ 0) = true := by simp
    rw [ha]
    clear ha
    repeat' (first
    | with_reducible refine Red.go ?_
    | ((with_reducible apply blkK_pass); rfl)
    | ((with_reducible first | apply wpOps_dry | apply wpOps_wet | apply wpOps_wet0); (simp only [evDryF, evWetF, St.new, Nat.reduceAdd, Nat.zero_add, Nat.add_zero, Eo.evF, upd_ap, reduceIte, Nat.reduceEqDiff, Bool.false_eq_true, Bool.not_true, Bool.not_false, flat, binAV, binInt, *]; rfl))
    | ((with_reducible apply wpOps_undef)
       · simp only [upd_ap, reduceIte, Nat.reduceEqDiff]; done)
    | ((with_reducible first | apply wpOps_test | apply wp_test); (simp only [Eo.evF, upd_ap, reduceIte, Nat.reduceEqDiff, Bool.false_eq_true, Bool.not_true, Bool.not_false, flat, binAV, binInt, *]; rfl))
    | (with_reducible apply testK_mk
       all_goals (intro hb; try simp only [Bool.not_true, Bool.not_false, Bool.not_eq_true', Bool.not_eq_false'] at hb)))
    refine fnK_one ?_
    rfl
end Go.Ev.Lc
/- LowerChecks, the program's side: unlike, Equal, EnvRight. -/
namespace Go.Ev.Lc
open Go.Ev.Tab
set_option maxRecDepth 100000
set_option linter.all false

/-! ### lists of signatures, and of code -/
def body79 := match e79.body with
  | .seq _ (.seq (.seq _ (.block _ (.loop b))) _) => b
  | _ => .skip
theorem loop79 (E : Env) {lo : Nat} (l : List Sig) (hl : short l = true) (g : FuncId) (a b : List AV) (p : Sig → Bool) (s : St) (hp : ∀ x ∈ l, Tells E lo g a b s (encSig x) (p x)) (Q : Post) :
    ∀ m k (v : Pl), k + m = l.length → ((l.drop k).any p = false → ∀ env, Q (.exit 0) env s) → ((l.drop k).any p = true → ∀ (j : Nat) env, env 4 = K j → Q .ret env s) →
      RunT E lo (.loop body79) (setAll v [(0, sigs l), (1, .fn g a b), (7, K l.length), (8, K k)]) s Q := by
  intro m
  induction m with
  | zero =>
    intro k v hk h1 h2
    have hki := lt_f (l := l) (k := k) (by omega)
    have h1 := h1 (by rw [List.drop_eq_nil_of_le (by omega)]; rfl)
    clear hk h2 hp
    refine lp ?_
    simp only [setAll, body79, e79]
    repeat' (first
    | with_reducible refine Red.go ?_
    | ((with_reducible apply blkK_pass); rfl)
    | ((with_reducible first | apply wpOps_dry | apply wpOps_wet | apply wpOps_wet0); (simp only [evDryF, evWetF, St.new, Nat.reduceAdd, Nat.zero_add, Nat.add_zero, Eo.evF, upd_ap, reduceIte, Nat.reduceEqDiff, Bool.false_eq_true, Bool.not_true, Bool.not_false, flat, binAV, binInt, gint, List.length_map, *]; rfl))
    | ((with_reducible apply wpOps_undef)
       · simp only [upd_ap, reduceIte, Nat.reduceEqDiff]; done)
    | ((with_reducible first | apply wpOps_test | apply wp_test); (simp only [Eo.evF, upd_ap, reduceIte, Nat.reduceEqDiff, Bool.false_eq_true, Bool.not_true, Bool.not_false, flat, binAV, binInt, gint, List.length_map, *]; rfl))
    | (with_reducible apply testK_mk
       all_goals (intro hb; try simp only [Bool.not_true, Bool.not_false, Bool.not_eq_true', Bool.not_eq_false'] at hb)))
    exact h1 _
  | succ m ih =>
    intro k v hk h1 h2
    have hkl : k < l.length := by omega
    have hki := lt_t hkl
    obtain ⟨y, hy, hd⟩ := get_ex hkl
    have hy' := map_get (f := encSig) hy
    have hpy := hp y (List.mem_of_getElem? hy)
    have hw := wrap_succ hl hkl
    have ih := fun v => ih (k + 1) v (by omega)
    rw [hd, List.any_cons] at h1 h2
    clear hy hd hp
    refine lp ?_
    simp only [setAll, body79, e79]
    repeat' (first
    | with_reducible refine Red.go ?_
    | ((with_reducible apply blkK_pass); rfl)
    | ((with_reducible first | apply wpOps_dry | apply wpOps_wet | apply wpOps_wet0); (simp only [evDryF, evWetF, St.new, Nat.reduceAdd, Nat.zero_add, Nat.add_zero, Eo.evF, upd_ap, reduceIte, Nat.reduceEqDiff, Bool.false_eq_true, Bool.not_true, Bool.not_false, flat, binAV, binInt, gint, List.length_map, natOf_cast, *]; rfl))
    | ((with_reducible apply wpOps_undef)
       · simp only [upd_ap, reduceIte, Nat.reduceEqDiff]; done)
    | ((with_reducible first | apply wpOps_test | apply wp_test); (simp only [Eo.evF, upd_ap, reduceIte, Nat.reduceEqDiff, Bool.false_eq_true, Bool.not_true, Bool.not_false, flat, binAV, binInt, gint, List.length_map, natOf_cast, *]; rfl))
    | (with_reducible apply testK_mk
       all_goals (intro hb; try simp only [Bool.not_true, Bool.not_false, Bool.not_eq_true', Bool.not_eq_false'] at hb)))
    refine wpOps_call (g := g) (a := a) (b := b) (by simp only [Eo.evF, upd_ap, reduceIte, Nat.reduceEqDiff]) (by simp only [evsF, List.map_cons, List.map_nil, Eo.evF, upd_ap, reduceIte, Nat.reduceEqDiff]; rfl) ?_
    refine hpy _ ?_
    clear hpy
    cases hb : p y with
    | true =>
      rw [hb] at h2
      have h2 := h2 rfl k
      clear h1
      repeat' (first
      | with_reducible refine Red.go ?_
      | ((with_reducible apply blkK_pass); rfl)
      | ((with_reducible first | apply wpOps_dry | apply wpOps_wet | apply wpOps_wet0); (simp only [evDryF, evWetF, St.new, Nat.reduceAdd, Nat.zero_add, Nat.add_zero, Eo.evF, upd_ap, reduceIte, Nat.reduceEqDiff, Bool.false_eq_true, Bool.not_true, Bool.not_false, flat, *]; rfl))
      | ((with_reducible apply wpOps_undef)
         · simp only [upd_ap, reduceIte, Nat.reduceEqDiff]; done)
      | ((with_reducible first | apply wpOps_test | apply wp_test); (simp only [Eo.evF, upd_ap, reduceIte, Nat.reduceEqDiff, Bool.false_eq_true, Bool.not_true, Bool.not_false, flat, *]; rfl))
      | (with_reducible apply testK_mk
         all_goals (intro hb; try simp only [Bool.not_true, Bool.not_false, Bool.not_eq_true', Bool.not_eq_false'] at hb)))
      exact h2 _ rfl
    | false =>
      rw [hb, Bool.false_or] at h1 h2
      repeat' (first
      | with_reducible refine Red.go ?_
      | ((with_reducible apply blkK_pass); rfl)
      | ((with_reducible first | apply wpOps_dry | apply wpOps_wet | apply wpOps_wet0); (simp only [evDryF, evWetF, St.new, Nat.reduceAdd, Nat.zero_add, Nat.add_zero, Eo.evF, upd_ap, reduceIte, Nat.reduceEqDiff, Bool.false_eq_true, Bool.not_true, Bool.not_false, flat, binAV, binInt, *]; rfl))
      | ((with_reducible apply wpOps_undef)
         · simp only [upd_ap, reduceIte, Nat.reduceEqDiff]; done)
      | ((with_reducible first | apply wpOps_test | apply wp_test); (simp only [Eo.evF, upd_ap, reduceIte, Nat.reduceEqDiff, Bool.false_eq_true, Bool.not_true, Bool.not_false, flat, binAV, binInt, *]; rfl))
      | (with_reducible apply testK_mk
         all_goals (intro hb; try simp only [Bool.not_true, Bool.not_false, Bool.not_eq_true', Bool.not_eq_false'] at hb)))
      refine lpK_nrm ?_
      exact rebase (L := [(0, sigs l), (1, .fn g a b), (7, K l.length), (8, K (k + 1 : Nat))]) ⟨rfl, rfl, rfl, rfl, trivial⟩ (ih _ h1 h2)
/-- IndexFunc: -1, or some place. -/
theorem t79 (E : Env) {lo : Nat} (h : E.fns 79 = some e79) (l : List Sig) (hl : short l = true) (g : FuncId) (a b : List AV) (p : Sig → Bool) (s : St) (hp : ∀ x ∈ l, Tells E lo g a b s (encSig x) (p x)) (KK : AV → St → Prop)
    (h1 : l.any p = false → KK (K (-1)) s) (h2 : l.any p = true → ∀ j : Nat, KK (K j) s) : AnsK E lo 79 [sigs l, .fn g a b] s KK := by
  refine fn_run h rfl rfl (plOf_args0 ..) ?_
  simp only [argPl, e79]
  have hp' := hp
  clear hp
  repeat' (first
  | with_reducible refine Red.go ?_
  | with_reducible refine wp_draw ?_
  | ((with_reducible apply blkK_pass); rfl)
  | ((with_reducible first | apply wpOps_dry | apply wpOps_wet | apply wpOps_wet0 | apply wpDraw_dry); (simp only [evDryF, evWetF, St.new, Nat.reduceAdd, Nat.zero_add, Nat.add_zero, Eo.evF, upd_ap, reduceIte, Nat.reduceEqDiff, Bool.false_eq_true, Bool.not_true, Bool.not_false, flat, binAV, binInt, gint, List.length_map, *]; rfl))
  | ((with_reducible apply wpDraw_load); (simp only [Eo.evF, upd_ap, reduceIte, Nat.reduceEqDiff, Bool.false_eq_true, Bool.not_true, Bool.not_false, flat, binAV, binInt, gint, List.length_map, *]; rfl); rfl; rfl)
  | ((with_reducible first | apply wpOps_undef | apply wpDraw_undef)
     · simp only [upd_ap, reduceIte, Nat.reduceEqDiff]; done)
  | ((with_reducible first | apply wpOps_test | apply wp_test | apply draw_test); (simp only [Eo.evF, upd_ap, reduceIte, Nat.reduceEqDiff, Bool.false_eq_true, Bool.not_true, Bool.not_false, flat, binAV, binInt, gint, List.length_map, *]; rfl))
  | (with_reducible apply testK_mk
     all_goals (intro hb; try simp only [Bool.not_true, Bool.not_false, Bool.not_eq_true', Bool.not_eq_false'] at hb)))
  refine wp_loop (rebase (L := [(0, sigs l), (1, .fn g a b), (7, K l.length), (8, K (0 : Nat))]) ⟨rfl, rfl, rfl, rfl, trivial⟩ (loop79 E l hl g a b p s hp' _ l.length 0 _ (by omega) (fun ha env => ?_) (fun ha j env e4 => ?_)))
  · rw [List.drop_zero] at ha
    have h1 := h1 ha
    clear h2 ha hp'
    repeat' (first
    | with_reducible refine Red.go ?_
    | with_reducible refine wp_draw ?_
    | ((with_reducible apply blkK_pass); rfl)
    | ((with_reducible first | apply wpOps_dry | apply wpOps_wet | apply wpOps_wet0 | apply wpDraw_dry); (simp only [evDryF, evWetF, St.new, Nat.reduceAdd, Nat.zero_add, Nat.add_zero, Eo.evF, upd_ap, reduceIte, Nat.reduceEqDiff, Bool.false_eq_true, Bool.not_true, Bool.not_false, flat, *]; rfl))
    | ((with_reducible apply wpDraw_load); (simp only [Eo.evF, upd_ap, reduceIte, Nat.reduceEqDiff, Bool.false_eq_true, Bool.not_true, Bool.not_false, flat, *]; rfl); rfl; rfl)
    | ((with_reducible first | apply wpOps_undef | apply wpDraw_undef)
       · simp only [upd_ap, reduceIte, Nat.reduceEqDiff]; done)
    | ((with_reducible first | apply wpOps_test | apply wp_test | apply draw_test); (simp only [Eo.evF, upd_ap, reduceIte, Nat.reduceEqDiff, Bool.false_eq_true, Bool.not_true, Bool.not_false, flat, *]; rfl))
    | (with_reducible apply testK_mk
       all_goals (intro hb; try simp only [Bool.not_true, Bool.not_false, Bool.not_eq_true', Bool.not_eq_false'] at hb)))
    refine fnK_one ?_
    exact h1
  · rw [List.drop_zero] at ha
    have h2 := h2 ha j
    clear h1 ha hp'
    repeat' (first
    | with_reducible refine Red.go ?_
    | with_reducible refine wp_draw ?_
    | ((with_reducible apply blkK_pass); rfl)
    | ((with_reducible first | apply wpOps_dry | apply wpOps_wet | apply wpOps_wet0 | apply wpDraw_dry); (simp only [evDryF, evWetF, St.new, Nat.reduceAdd, Nat.zero_add, Nat.add_zero, Eo.evF, upd_ap, reduceIte, Nat.reduceEqDiff, Bool.false_eq_true, Bool.not_true, Bool.not_false, flat, *]; rfl))
    | ((with_reducible apply wpDraw_load); (simp only [Eo.evF, upd_ap, reduceIte, Nat.reduceEqDiff, Bool.false_eq_true, Bool.not_true, Bool.not_false, flat, *]; rfl); rfl; rfl)
    | ((with_reducible first | apply wpOps_undef | apply wpDraw_undef)
       · simp only [upd_ap, reduceIte, Nat.reduceEqDiff]; done)
    | ((with_reducible first | apply wpOps_test | apply wp_test | apply draw_test); (simp only [Eo.evF, upd_ap, reduceIte, Nat.reduceEqDiff, Bool.false_eq_true, Bool.not_true, Bool.not_false, flat, *]; rfl))
    | (with_reducible apply testK_mk
       all_goals (intro hb; try simp only [Bool.not_true, Bool.not_false, Bool.not_eq_true', Bool.not_eq_false'] at hb)))
    refine fnK_one ?_
    rw [e4]
    exact h2
/-- ContainsFunc. -/
theorem t48 (E : Env) {lo : Nat} (h : E.fns 48 = some e48) (h79 : E.fns 79 = some e79) (l : List Sig) (hl : short l = true) (g : FuncId) (a b : List AV) (p : Sig → Bool) (s : St) (hp : ∀ x ∈ l, Tells E lo g a b s (encSig x) (p x)) (KK : AV → St → Prop)
    (hk : KK (.bool (l.any p)) s) : AnsK E lo 48 [sigs l, .fn g a b] s KK := by
  refine fn_run h rfl rfl (plOf_args0 ..) ?_
  simp only [argPl, e48]
  have hp' := hp
  clear hp
  repeat' (first
  | with_reducible refine Red.go ?_
  | ((with_reducible apply blkK_pass); rfl)
  | ((with_reducible first | apply wpOps_dry | apply wpOps_wet | apply wpOps_wet0); (simp only [evDryF, evWetF, St.new, Nat.reduceAdd, Nat.zero_add, Nat.add_zero, Eo.evF, upd_ap, reduceIte, Nat.reduceEqDiff, Bool.false_eq_true, Bool.not_true, Bool.not_false, flat, binAV, binInt, gint, List.length_map, *]; rfl))
  | ((with_reducible apply wpOps_undef)
     · simp only [upd_ap, reduceIte, Nat.reduceEqDiff]; done)
  | ((with_reducible first | apply wpOps_test | apply wp_test); (simp only [Eo.evF, upd_ap, reduceIte, Nat.reduceEqDiff, Bool.false_eq_true, Bool.not_true, Bool.not_false, flat, binAV, binInt, gint, List.length_map, *]; rfl))
  | (with_reducible apply testK_mk
     all_goals (intro hb; try simp only [Bool.not_true, Bool.not_false, Bool.not_eq_true', Bool.not_eq_false'] at hb)))
  refine wpOps_call (g := 79) (a := []) (b := []) rfl (by simp only [evsF, List.map_cons, List.map_nil, Eo.evF, upd_ap, reduceIte, Nat.reduceEqDiff]; rfl) ?_
  refine callK_run h79 rfl (t79 E h79 l hl g a b p s hp' _ (fun ha => ?_) (fun ha j => ?_))
  · have d : decide ((-1 : Int) ≥ 0) = false := by decide
    rw [ha] at hk
    clear hp' ha
    repeat' (first
    | with_reducible refine Red.go ?_
    | ((with_reducible apply blkK_pass); rfl)
    | ((with_reducible first | apply wpOps_dry | apply wpOps_wet | apply wpOps_wet0); (simp only [evDryF, evWetF, St.new, Nat.reduceAdd, Nat.zero_add, Nat.add_zero, Eo.evF, upd_ap, reduceIte, Nat.reduceEqDiff, Bool.false_eq_true, Bool.not_true, Bool.not_false, flat, binAV, binInt, *]; rfl))
    | ((with_reducible apply wpOps_undef)
       · simp only [upd_ap, reduceIte, Nat.reduceEqDiff]; done)
    | ((with_reducible first | apply wpOps_test | apply wp_test); (simp only [Eo.evF, upd_ap, reduceIte, Nat.reduceEqDiff, Bool.false_eq_true, Bool.not_true, Bool.not_false, flat, binAV, binInt, *]; rfl))
    | (with_reducible apply testK_mk
       all_goals (intro hb; try simp only [Bool.not_true, Bool.not_false, Bool.not_eq_true', Bool.not_eq_false'] at hb)))
    refine fnK_one ?_
    exact hk
  · have d : decide ((j : Int) ≥ 0) = true := by simp
    rw [ha] at hk
    clear hp' ha
    repeat' (first
    | with_reducible refine Red.go ?_
    | ((with_reducible apply blkK_pass); rfl)
    | ((with_reducible first | apply wpOps_dry | apply wpOps_wet | apply wpOps_wet0); (simp only [evDryF, evWetF, St.new, Nat.reduceAdd, Nat.zero_add, Nat.add_zero, Eo.evF, upd_ap, reduceIte, Nat.reduceEqDiff, Bool.false_eq_true, Bool.not_true, Bool.not_false, flat, binAV, binInt, *]; rfl))
    | ((with_reducible apply wpOps_undef)
       · simp only [upd_ap, reduceIte, Nat.reduceEqDiff]; done)
    | ((with_reducible first | apply wpOps_test | apply wp_test); (simp only [Eo.evF, upd_ap, reduceIte, Nat.reduceEqDiff, Bool.false_eq_true, Bool.not_true, Bool.not_false, flat, binAV, binInt, *]; rfl))
    | (with_reducible apply testK_mk
       all_goals (intro hb; try simp only [Bool.not_true, Bool.not_false, Bool.not_eq_true', Bool.not_eq_false'] at hb)))
    refine fnK_one ?_
    exact hk

def body53 := match e53.body with
  | .seq _ (.seq (.seq _ (.block _ (.loop b))) _) => b
  | _ => .skip
theorem loop53 (E : Env) {lo : Nat} (l : List Code') (hl : short l = true) (g : FuncId) (a b : List AV) (p : Code' → Bool) (s : St) (hp : ∀ x ∈ l, Tells E lo g a b s (encCode x) (p x)) (Q : Post) :
    ∀ m k (v : Pl), k + m = l.length → ((l.drop k).any p = false → ∀ env, Q (.exit 0) env s) → ((l.drop k).any p = true → ∀ (j : Nat) env, env 4 = K j → Q .ret env s) →
      RunT E lo (.loop body53) (setAll v [(0, codes l), (1, .fn g a b), (7, K l.length), (8, K k)]) s Q := by
  intro m
  induction m with
  | zero =>
    intro k v hk h1 h2
    have hki := lt_f (l := l) (k := k) (by omega)
    have h1 := h1 (by rw [List.drop_eq_nil_of_le (by omega)]; rfl)
    clear hk h2 hp
    refine lp ?_
    simp only [setAll, body53, e53]
    repeat' (first
    | with_reducible refine Red.go ?_
    | ((with_reducible apply blkK_pass); rfl)
    | ((with_reducible first | apply wpOps_dry | apply wpOps_wet | apply wpOps_wet0); (simp only [evDryF, evWetF, St.new, Nat.reduceAdd, Nat.zero_add, Nat.add_zero, Eo.evF, upd_ap, reduceIte, Nat.reduceEqDiff, Bool.false_eq_true, Bool.not_true, Bool.not_false, flat, binAV, binInt, gint, List.length_map, *]; rfl))
    | ((with_reducible apply wpOps_undef)
       · simp only [upd_ap, reduceIte, Nat.reduceEqDiff]; done)
    | ((with_reducible first | apply wpOps_test | apply wp_test); (simp only [Eo.evF, upd_ap, reduceIte, Nat.reduceEqDiff, Bool.false_eq_true, Bool.not_true, Bool.not_false, flat, binAV, binInt, gint, List.length_map, *]; rfl))
    | (with_reducible apply testK_mk
       all_goals (intro hb; try simp only [Bool.not_true, Bool.not_false, Bool.not_eq_true', Bool.not_eq_false'] at hb)))
    exact h1 _
  | succ m ih =>
    intro k v hk h1 h2
    have hkl : k < l.length := by omega
    have hki := lt_t hkl
    obtain ⟨y, hy, hd⟩ := get_ex hkl
    have hy' := map_get (f := encCode) hy
    have hpy := hp y (List.mem_of_getElem? hy)
    have hw := wrap_succ hl hkl
    have ih := fun v => ih (k + 1) v (by omega)
    rw [hd, List.any_cons] at h1 h2
    clear hy hd hp
    refine lp ?_
    simp only [setAll, body53, e53]
    repeat' (first
    | with_reducible refine Red.go ?_
    | ((with_reducible apply blkK_pass); rfl)
    | ((with_reducible first | apply wpOps_dry | apply wpOps_wet | apply wpOps_wet0); (simp only [evDryF, evWetF, St.new, Nat.reduceAdd, Nat.zero_add, Nat.add_zero, Eo.evF, upd_ap, reduceIte, Nat.reduceEqDiff, Bool.false_eq_true, Bool.not_true, Bool.not_false, flat, binAV, binInt, gint, List.length_map, natOf_cast, *]; rfl))
    | ((with_reducible apply wpOps_undef)
       · simp only [upd_ap, reduceIte, Nat.reduceEqDiff]; done)
    | ((with_reducible first | apply wpOps_test | apply wp_test); (simp only [Eo.evF, upd_ap, reduceIte, Nat.reduceEqDiff, Bool.false_eq_true, Bool.not_true, Bool.not_false, flat, binAV, binInt, gint, List.length_map, natOf_cast, *]; rfl))
    | (with_reducible apply testK_mk
       all_goals (intro hb; try simp only [Bool.not_true, Bool.not_false, Bool.not_eq_true', Bool.not_eq_false'] at hb)))
    refine wpOps_call (g := g) (a := a) (b := b) (by simp only [Eo.evF, upd_ap, reduceIte, Nat.reduceEqDiff]) (by simp only [evsF, List.map_cons, List.map_nil, Eo.evF, upd_ap, reduceIte, Nat.reduceEqDiff]; rfl) ?_
    refine hpy _ ?_
    clear hpy
    cases hb : p y with
    | true =>
      rw [hb] at h2
      have h2 := h2 rfl k
      clear h1
      repeat' (first
      | with_reducible refine Red.go ?_
      | ((with_reducible apply blkK_pass); rfl)
      | ((with_reducible first | apply wpOps_dry | apply wpOps_wet | apply wpOps_wet0); (simp only [evDryF, evWetF, St.new, Nat.reduceAdd, Nat.zero_add, Nat.add_zero, Eo.evF, upd_ap, reduceIte, Nat.reduceEqDiff, Bool.false_eq_true, Bool.not_true, Bool.not_false, flat, *]; rfl))
      | ((with_reducible apply wpOps_undef)
         · simp only [upd_ap, reduceIte, Nat.reduceEqDiff]; done)
      | ((with_reducible first | apply wpOps_test | apply wp_test); (simp only [Eo.evF, upd_ap, reduceIte, Nat.reduceEqDiff, Bool.false_eq_true, Bool.not_true, Bool.not_false, flat, *]; rfl))
      | (with_reducible apply testK_mk
         all_goals (intro hb; try simp only [Bool.not_true, Bool.not_false, Bool.not_eq_true', Bool.not_eq_false'] at hb)))
      exact h2 _ rfl
    | false =>
      rw [hb, Bool.false_or] at h1 h2
      repeat' (first
      | with_reducible refine Red.go ?_
      | ((with_reducible apply blkK_pass); rfl)
      | ((with_reducible first | apply wpOps_dry | apply wpOps_wet | apply wpOps_wet0); (simp only [evDryF, evWetF, St.new, Nat.reduceAdd, Nat.zero_add, Nat.add_zero, Eo.evF, upd_ap, reduceIte, Nat.reduceEqDiff, Bool.false_eq_true, Bool.not_true, Bool.not_false, flat, binAV, binInt, *]; rfl))
      | ((with_reducible apply wpOps_undef)
         · simp only [upd_ap, reduceIte, Nat.reduceEqDiff]; done)
      | ((with_reducible first | apply wpOps_test | apply wp_test); (simp only [Eo.evF, upd_ap, reduceIte, Nat.reduceEqDiff, Bool.false_eq_true, Bool.not_true, Bool.not_false, flat, binAV, binInt, *]; rfl))
      | (with_reducible apply testK_mk
         all_goals (intro hb; try simp only [Bool.not_true, Bool.not_false, Bool.not_eq_true', Bool.not_eq_false'] at hb)))
      refine lpK_nrm ?_
      exact rebase (L := [(0, codes l), (1, .fn g a b), (7, K l.length), (8, K (k + 1 : Nat))]) ⟨rfl, rfl, rfl, rfl, trivial⟩ (ih _ h1 h2)
/-- IndexFunc: -1, or some place. -/
theorem t53 (E : Env) {lo : Nat} (h : E.fns 53 = some e53) (l : List Code') (hl : short l = true) (g : FuncId) (a b : List AV) (p : Code' → Bool) (s : St) (hp : ∀ x ∈ l, Tells E lo g a b s (encCode x) (p x)) (KK : AV → St → Prop)
    (h1 : l.any p = false → KK (K (-1)) s) (h2 : l.any p = true → ∀ j : Nat, KK (K j) s) : AnsK E lo 53 [codes l, .fn g a b] s KK := by
  refine fn_run h rfl rfl (plOf_args0 ..) ?_
  simp only [argPl, e53]
  have hp' := hp
  clear hp
  repeat' (first
  | with_reducible refine Red.go ?_
  | with_reducible refine wp_draw ?_
  | ((with_reducible apply blkK_pass); rfl)
  | ((with_reducible first | apply wpOps_dry | apply wpOps_wet | apply wpOps_wet0 | apply wpDraw_dry); (simp only [evDryF, evWetF, St.new, Nat.reduceAdd, Nat.zero_add, Nat.add_zero, Eo.evF, upd_ap, reduceIte, Nat.reduceEqDiff, Bool.false_eq_true, Bool.not_true, Bool.not_false, flat, binAV, binInt, gint, List.length_map, *]; rfl))
  | ((with_reducible apply wpDraw_load); (simp only [Eo.evF, upd_ap, reduceIte, Nat.reduceEqDiff, Bool.false_eq_true, Bool.not_true, Bool.not_false, flat, binAV, binInt, gint, List.length_map, *]; rfl); rfl; rfl)
  | ((with_reducible first | apply wpOps_undef | apply wpDraw_undef)
     · simp only [upd_ap, reduceIte, Nat.reduceEqDiff]; done)
  | ((with_reducible first | apply wpOps_test | apply wp_test | apply draw_test); (simp only [Eo.evF, upd_ap, reduceIte, Nat.reduceEqDiff, Bool.false_eq_true, Bool.not_true, Bool.not_false, flat, binAV, binInt, gint, List.length_map, *]; rfl))
  | (with_reducible apply testK_mk
     all_goals (intro hb; try simp only [Bool.not_true, Bool.not_false, Bool.not_eq_true', Bool.not_eq_false'] at hb)))
  refine wp_loop (rebase (L := [(0, codes l), (1, .fn g a b), (7, K l.length), (8, K (0 : Nat))]) ⟨rfl, rfl, rfl, rfl, trivial⟩ (loop53 E l hl g a b p s hp' _ l.length 0 _ (by omega) (fun ha env => ?_) (fun ha j env e4 => ?_)))
  · rw [List.drop_zero] at ha
    have h1 := h1 ha
    clear h2 ha hp'
    repeat' (first
    | with_reducible refine Red.go ?_
    | with_reducible refine wp_draw ?_
    | ((with_reducible apply blkK_pass); rfl)
    | ((with_reducible first | apply wpOps_dry | apply wpOps_wet | apply wpOps_wet0 | apply wpDraw_dry); (simp only [evDryF, evWetF, St.new, Nat.reduceAdd, Nat.zero_add, Nat.add_zero, Eo.evF, upd_ap, reduceIte, Nat.reduceEqDiff, Bool.false_eq_true, Bool.not_true, Bool.not_false, flat, *]; rfl))
    | ((with_reducible apply wpDraw_load); (simp only [Eo.evF, upd_ap, reduceIte, Nat.reduceEqDiff, Bool.false_eq_true, Bool.not_true, Bool.not_false, flat, *]; rfl); rfl; rfl)
    | ((with_reducible first | apply wpOps_undef | apply wpDraw_undef)
       · simp only [upd_ap, reduceIte, Nat.reduceEqDiff]; done)
    | ((with_reducible first | apply wpOps_test | apply wp_test | apply draw_test); (simp only [Eo.evF, upd_ap, reduceIte, Nat.reduceEqDiff, Bool.false_eq_true, Bool.not_true, Bool.not_false, flat, *]; rfl))
    | (with_reducible apply testK_mk
       all_goals (intro hb; try simp only [Bool.not_true, Bool.not_false, Bool.not_eq_true', Bool.not_eq_false'] at hb)))
    refine fnK_one ?_
    exact h1
  · rw [List.drop_zero] at ha
    have h2 := h2 ha j
    clear h1 ha hp'
    repeat' (first
    | with_reducible refine Red.go ?_
    | with_reducible refine wp_draw ?_
    | ((with_reducible apply blkK_pass); rfl)
    | ((with_reducible first | apply wpOps_dry | apply wpOps_wet | apply wpOps_wet0 | apply wpDraw_dry); (simp only [evDryF, evWetF, St.new, Nat.reduceAdd, Nat.zero_add, Nat.add_zero, Eo.evF, upd_ap, reduceIte, Nat.reduceEqDiff, Bool.false_eq_true, Bool.not_true, Bool.not_false, flat, *]; rfl))
    | ((with_reducible apply wpDraw_load); (simp only [Eo.evF, upd_ap, reduceIte, Nat.reduceEqDiff, Bool.false_eq_true, Bool.not_true, Bool.not_false, flat, *]; rfl); rfl; rfl)
    | ((with_reducible first | apply wpOps_undef | apply wpDraw_undef)
       · simp only [upd_ap, reduceIte, Nat.reduceEqDiff]; done)
    | ((with_reducible first | apply wpOps_test | apply wp_test | apply draw_test); (simp only [Eo.evF, upd_ap, reduceIte, Nat.reduceEqDiff, Bool.false_eq_true, Bool.not_true, Bool.not_false, flat, *]; rfl))
    | (with_reducible apply testK_mk
       all_goals (intro hb; try simp only [Bool.not_true, Bool.not_false, Bool.not_eq_true', Bool.not_eq_false'] at hb)))
    refine fnK_one ?_
    rw [e4]
    exact h2
/-- ContainsFunc. -/
theorem t22 (E : Env) {lo : Nat} (h : E.fns 22 = some e22) (h53 : E.fns 53 = some e53) (l : List Code') (hl : short l = true) (g : FuncId) (a b : List AV) (p : Code' → Bool) (s : St) (hp : ∀ x ∈ l, Tells E lo g a b s (encCode x) (p x)) (KK : AV → St → Prop)
    (hk : KK (.bool (l.any p)) s) : AnsK E lo 22 [codes l, .fn g a b] s KK := by
  refine fn_run h rfl rfl (plOf_args0 ..) ?_
  simp only [argPl, e22]
  have hp' := hp
  clear hp
  repeat' (first
  | with_reducible refine Red.go ?_
  | ((with_reducible apply blkK_pass); rfl)
  | ((with_reducible first | apply wpOps_dry | apply wpOps_wet | apply wpOps_wet0); (simp only [evDryF, evWetF, St.new, Nat.reduceAdd, Nat.zero_add, Nat.add_zero, Eo.evF, upd_ap, reduceIte, Nat.reduceEqDiff, Bool.false_eq_true, Bool.not_true, Bool.not_false, flat, binAV, binInt, gint, List.length_map, *]; rfl))
  | ((with_reducible apply wpOps_undef)
     · simp only [upd_ap, reduceIte, Nat.reduceEqDiff]; done)
  | ((with_reducible first | apply wpOps_test | apply wp_test); (simp only [Eo.evF, upd_ap, reduceIte, Nat.reduceEqDiff, Bool.false_eq_true, Bool.not_true, Bool.not_false, flat, binAV, binInt, gint, List.length_map, *]; rfl))
  | (with_reducible apply testK_mk
     all_goals (intro hb; try simp only [Bool.not_true, Bool.not_false, Bool.not_eq_true', Bool.not_eq_false'] at hb)))
  refine wpOps_call (g := 53) (a := []) (b := []) rfl (by simp only [evsF, List.map_cons, List.map_nil, Eo.evF, upd_ap, reduceIte, Nat.reduceEqDiff]; rfl) ?_
  refine callK_run h53 rfl (t53 E h53 l hl g a b p s hp' _ (fun ha => ?_) (fun ha j => ?_))
  · have d : decide ((-1 : Int) ≥ 0) = false := by decide
    rw [ha] at hk
    clear hp' ha
    repeat' (first
    | with_reducible refine Red.go ?_
    | ((with_reducible apply blkK_pass); rfl)
    | ((with_reducible first | apply wpOps_dry | apply wpOps_wet | apply wpOps_wet0); (simp only [evDryF, evWetF, St.new, Nat.reduceAdd, Nat.zero_add, Nat.add_zero, Eo.evF, upd_ap, reduceIte, Nat.reduceEqDiff, Bool.false_eq_true, Bool.not_true, Bool.not_false, flat, binAV, binInt, *]; rfl))
    | ((with_reducible apply wpOps_undef)
       · simp only [upd_ap, reduceIte, Nat.reduceEqDiff]; done)
    | ((with_reducible first | apply wpOps_test | apply wp_test); (simp only [Eo.evF, upd_ap, reduceIte, Nat.reduceEqDiff, Bool.false_eq_true, Bool.not_true, Bool.not_false, flat, binAV, binInt, *]; rfl))
    | (with_reducible apply testK_mk
       all_goals (intro hb; try simp only [Bool.not_true, Bool.not_false, Bool.not_eq_true', Bool.not_eq_false'] at hb)))
    refine fnK_one ?_
    exact hk
  · have d : decide ((j : Int) ≥ 0) = true := by simp
    rw [ha] at hk
    clear hp' ha
    repeat' (first
    | with_reducible refine Red.go ?_
    | ((with_reducible apply blkK_pass); rfl)
    | ((with_reducible first | apply wpOps_dry | apply wpOps_wet | apply wpOps_wet0); (simp only [evDryF, evWetF, St.new, Nat.reduceAdd, Nat.zero_add, Nat.add_zero, Eo.evF, upd_ap, reduceIte, Nat.reduceEqDiff, Bool.false_eq_true, Bool.not_true, Bool.not_false, flat, binAV, binInt, *]; rfl))
    | ((with_reducible apply wpOps_undef)
       · simp only [upd_ap, reduceIte, Nat.reduceEqDiff]; done)
    | ((with_reducible first | apply wpOps_test | apply wp_test); (simp only [Eo.evF, upd_ap, reduceIte, Nat.reduceEqDiff, Bool.false_eq_true, Bool.not_true, Bool.not_false, flat, binAV, binInt, *]; rfl))
    | (with_reducible apply testK_mk
       all_goals (intro hb; try simp only [Bool.not_true, Bool.not_false, Bool.not_eq_true', Bool.not_eq_false'] at hb)))
    refine fnK_one ?_
    exact hk


/-! ### unlike -/
theorem headSz_ints : ∀ l : List Int, headSz 1 (l.map fun n => AV.int .i64 n) = true
  | [] => rfl
  | _ :: _ => rfl
theorem slice_ints {gl : Nat → AV} {env : Pl} {lo : Nat} {s : St} {x h : Eo} {l : List Int} {k : Nat} (hx : x.evF gl env = ints l) (hh : h.evF gl env = K k) (hk : k ≤ l.length) :
    evWetF gl env lo s (.slice 1 x none (some h)) = some (ints (l.take k), s) := by
  have hn : natOf (K k) = some k := rfl
  simp only [evWetF, hx, evoF, hh, hn, List.length_map]
  rw [if_pos ⟨Nat.zero_le _, hk, headSz_ints l⟩]
  simp [ints]
def q25 : List AV → Option AV
  | [.lst es, .int .i64 x] => match unInts es with | some l => (match short l with | true => some (.bool (l.any (x == ·))) | false => none) | none => none
  | _ => none
theorem q25_eq {l : List Int} (h : short l = true) (x : Int) : q25 [ints l, .int .i64 x] = some (.bool (l.any (x == ·))) := by simp only [q25, unInts_map, h]
def unlikeAt (l : List Int) (i : Nat) : Bool := match l[i]? with | some x => !(l.take i).any (x == ·) | none => true
def unlikeFrom (l : List Int) : Nat → Nat → Bool
  | 0, _ => true
  | m + 1, i => unlikeAt l i && unlikeFrom l m (i + 1)
def unlikeB (l : List Int) : Bool := unlikeFrom l l.length 0
def body21 := match e21.body with
  | .seq _ (.seq (.seq _ (.block _ (.loop b))) _) => b
  | _ => .skip
theorem short_take {l : List Int} (h : short l = true) (k : Nat) : short (l.take k) = true := by
  have := short_lt h
  simp only [short, List.length_take, decide_eq_true_eq]
  omega
theorem loop21 (E : Env) (h25 : ToldBy E 25 q25) (l : List Int) (hl : short l = true) (s : St) (Q : Post) :
    ∀ m k (v : Pl), k + m = l.length → (unlikeFrom l m k = true → ∀ env, Q (.exit 0) env s) → (unlikeFrom l m k = false → ∀ env, env 2 = .bool false → Q .ret env s) →
      RunT E 0 (.loop body21) (setAll v [(0, ints l), (5, ints l), (6, K l.length), (7, K k)]) s Q := by
  intro m
  induction m with
  | zero =>
    intro k v hk h1 h2
    have hki := lt_f (l := l) (k := k) (by omega)
    have h1 := h1 rfl
    clear hk h2
    refine lp ?_
    simp only [setAll, body21, e21]
    repeat' (first
    | with_reducible refine Red.go ?_
    | ((with_reducible apply blkK_pass); rfl)
    | ((with_reducible first | apply wpOps_dry | apply wpOps_wet | apply wpOps_wet0); (simp only [evDryF, evWetF, St.new, Nat.reduceAdd, Nat.zero_add, Nat.add_zero, Eo.evF, upd_ap, reduceIte, Nat.reduceEqDiff, Bool.false_eq_true, Bool.not_true, Bool.not_false, flat, binAV, binInt, gint, List.length_map, *]; rfl))
    | ((with_reducible apply wpOps_undef)
       · simp only [upd_ap, reduceIte, Nat.reduceEqDiff]; done)
    | ((with_reducible first | apply wpOps_test | apply wp_test); (simp only [Eo.evF, upd_ap, reduceIte, Nat.reduceEqDiff, Bool.false_eq_true, Bool.not_true, Bool.not_false, flat, binAV, binInt, gint, List.length_map, *]; rfl))
    | (with_reducible apply testK_mk
       all_goals (intro hb; try simp only [Bool.not_true, Bool.not_false, Bool.not_eq_true', Bool.not_eq_false'] at hb)))
    exact h1 _
  | succ m ih =>
    intro k v hk h1 h2
    have hkl : k < l.length := by omega
    have hki := lt_t hkl
    obtain ⟨y, hy, hd⟩ := get_ex hkl
    have hy' := map_get (f := fun n => AV.int .i64 n) hy
    have hw := wrap_succ hl hkl
    have q := q25_eq (short_take hl k) y
    have ih := fun v => ih (k + 1) v (by omega)
    simp only [unlikeFrom, unlikeAt, hy] at h1 h2
    clear hy hd
    refine lp ?_
    simp only [setAll, body21, e21]
    repeat' (first
    | with_reducible refine Red.go ?_
    | ((with_reducible apply blkK_pass); rfl)
    | ((with_reducible first | apply wpOps_dry | apply wpOps_wet | apply wpOps_wet0); (simp only [evDryF, evWetF, St.new, Nat.reduceAdd, Nat.zero_add, Nat.add_zero, Eo.evF, upd_ap, reduceIte, Nat.reduceEqDiff, Bool.false_eq_true, Bool.not_true, Bool.not_false, flat, binAV, binInt, gint, List.length_map, natOf_cast, *]; rfl))
    | ((with_reducible apply wpOps_undef)
       · simp only [upd_ap, reduceIte, Nat.reduceEqDiff]; done)
    | ((with_reducible first | apply wpOps_test | apply wp_test); (simp only [Eo.evF, upd_ap, reduceIte, Nat.reduceEqDiff, Bool.false_eq_true, Bool.not_true, Bool.not_false, flat, binAV, binInt, gint, List.length_map, natOf_cast, *]; rfl))
    | (with_reducible apply testK_mk
       all_goals (intro hb; try simp only [Bool.not_true, Bool.not_false, Bool.not_eq_true', Bool.not_eq_false'] at hb)))
    refine wpOps_wet (slice_ints (l := l) (k := k) (by simp only [Eo.evF, upd_ap, reduceIte, Nat.reduceEqDiff]) (by simp only [Eo.evF, upd_ap, reduceIte, Nat.reduceEqDiff]) (by omega)) ?_
    repeat' (first
    | with_reducible refine Red.go ?_
    | ((with_reducible apply blkK_pass); rfl)
    | ((with_reducible first | apply wpOps_dry | apply wpOps_wet | apply wpOps_wet0); (simp only [evDryF, evWetF, St.new, Nat.reduceAdd, Nat.zero_add, Nat.add_zero, Eo.evF, upd_ap, reduceIte, Nat.reduceEqDiff, Bool.false_eq_true, Bool.not_true, Bool.not_false, flat, binAV, binInt, gint, natOf_cast, *]; rfl))
    | ((with_reducible apply wpOps_undef)
       · simp only [upd_ap, reduceIte, Nat.reduceEqDiff]; done)
    | ((with_reducible apply wpOps_told); assumption; (simp only [evsF, List.map_cons, List.map_nil, Eo.evF, upd_ap, reduceIte, Nat.reduceEqDiff, Bool.false_eq_true, Bool.not_true, Bool.not_false, flat, binAV, binInt, gint, natOf_cast, *]; rfl); first | (simp only [q]; rfl) | assumption)
    | ((with_reducible first | apply wpOps_test | apply wp_test); (simp only [Eo.evF, upd_ap, reduceIte, Nat.reduceEqDiff, Bool.false_eq_true, Bool.not_true, Bool.not_false, flat, binAV, binInt, gint, natOf_cast, *]; rfl))
    | (with_reducible apply testK_mk
       all_goals (intro hb; try simp only [Bool.not_true, Bool.not_false, Bool.not_eq_true', Bool.not_eq_false'] at hb)))
    · exact h2 (by rw [hb]; rfl) _ rfl
    · rw [hb, Bool.not_false, Bool.true_and] at h1 h2
      refine lpK_nrm ?_
      exact rebase (L := [(0, ints l), (5, ints l), (6, K l.length), (7, K (k + 1 : Nat))]) ⟨rfl, rfl, rfl, rfl, trivial⟩ (ih _ h1 h2)
theorem t21 (E : Env) (h : E.fns 21 = some e21) (h25 : ToldBy E 25 q25) (l : List Int) (hl : short l = true) : AnsK E 0 21 [ints l] s0 (ans (.bool (unlikeB l))) := by
  refine fn_run h rfl rfl (plOf_args0 ..) ?_
  simp only [argPl, e21]
  repeat' (first
  | with_reducible refine Red.go ?_
  | ((with_reducible apply blkK_pass); rfl)
  | ((with_reducible first | apply wpOps_dry | apply wpOps_wet | apply wpOps_wet0); (simp only [evDryF, evWetF, St.new, Nat.reduceAdd, Nat.zero_add, Nat.add_zero, Eo.evF, upd_ap, reduceIte, Nat.reduceEqDiff, Bool.false_eq_true, Bool.not_true, Bool.not_false, flat, binAV, binInt, gint, List.length_map, *]; rfl))
  | ((with_reducible apply wpOps_undef)
     · simp only [upd_ap, reduceIte, Nat.reduceEqDiff]; done)
  | ((with_reducible first | apply wpOps_test | apply wp_test); (simp only [Eo.evF, upd_ap, reduceIte, Nat.reduceEqDiff, Bool.false_eq_true, Bool.not_true, Bool.not_false, flat, binAV, binInt, gint, List.length_map, *]; rfl))
  | (with_reducible apply testK_mk
     all_goals (intro hb; try simp only [Bool.not_true, Bool.not_false, Bool.not_eq_true', Bool.not_eq_false'] at hb)))
  refine wp_loop (rebase (L := [(0, ints l), (5, ints l), (6, K l.length), (7, K (0 : Nat))]) ⟨rfl, rfl, rfl, rfl, trivial⟩ (loop21 E h25 l hl _ _ l.length 0 _ (by omega) (fun hh env => ?_) (fun hh env h4 => ?_)))
  · repeat' (first
    | with_reducible refine Red.go ?_
    | ((with_reducible apply blkK_pass); rfl)
    | ((with_reducible first | apply wpOps_dry | apply wpOps_wet | apply wpOps_wet0); (simp only [evDryF, evWetF, St.new, Nat.reduceAdd, Nat.zero_add, Nat.add_zero, Eo.evF, upd_ap, reduceIte, Nat.reduceEqDiff, Bool.false_eq_true, Bool.not_true, Bool.not_false, flat, *]; rfl))
    | ((with_reducible apply wpOps_undef)
       · simp only [upd_ap, reduceIte, Nat.reduceEqDiff]; done)
    | ((with_reducible first | apply wpOps_test | apply wp_test); (simp only [Eo.evF, upd_ap, reduceIte, Nat.reduceEqDiff, Bool.false_eq_true, Bool.not_true, Bool.not_false, flat, *]; rfl))
    | (with_reducible apply testK_mk
       all_goals (intro hb; try simp only [Bool.not_true, Bool.not_false, Bool.not_eq_true', Bool.not_eq_false'] at hb)))
    refine fnK_one ?_
    simp only [ans, tupled, unlikeB, hh]; rfl
  · repeat' (first
    | with_reducible refine Red.go ?_
    | ((with_reducible apply blkK_pass); rfl)
    | ((with_reducible first | apply wpOps_dry | apply wpOps_wet | apply wpOps_wet0); (simp only [evDryF, evWetF, St.new, Nat.reduceAdd, Nat.zero_add, Nat.add_zero, Eo.evF, upd_ap, reduceIte, Nat.reduceEqDiff, Bool.false_eq_true, Bool.not_true, Bool.not_false, flat, *]; rfl))
    | ((with_reducible apply wpOps_undef)
       · simp only [upd_ap, reduceIte, Nat.reduceEqDiff]; done)
    | ((with_reducible first | apply wpOps_test | apply wp_test); (simp only [Eo.evF, upd_ap, reduceIte, Nat.reduceEqDiff, Bool.false_eq_true, Bool.not_true, Bool.not_false, flat, *]; rfl))
    | (with_reducible apply testK_mk
       all_goals (intro hb; try simp only [Bool.not_true, Bool.not_false, Bool.not_eq_true', Bool.not_eq_false'] at hb)))
    refine fnK_one ?_
    simp only [ans, tupled, unlikeB, hh, h4]
def q21 : List AV → Option AV
  | [.lst es] => match unInts es with | some l => (match short l with | true => some (.bool (unlikeB l)) | false => none) | none => none
  | _ => none
theorem q21_eq {l : List Int} (h : short l = true) : q21 [ints l] = some (.bool (unlikeB l)) := by simp only [q21, unInts_map, h]

/-! ### Equal -/
def body32 := match e32.body with
  | .seq _ (.seq _ (.seq (.seq _ (.block _ (.loop b))) _)) => b
  | _ => .skip
theorem loop32 (E : Env) (a b : List Int) (hab : a.length = b.length) (hl : short a = true) (s : St) (Q : Post) : ∀ m k (g : Pl), k + m = a.length →
      (a.drop k = b.drop k → ∀ env, Q (.exit 0) env s) → (a.drop k ≠ b.drop k → ∀ env, env 4 = .bool false → Q .ret env s) →
      RunT E 0 (.loop body32) (setAll g [(0, ints a), (1, ints b), (12, K a.length), (13, K k)]) s Q := by
  intro m
  induction m with
  | zero =>
    intro k g hk h1 h2
    have hki := lt_f (l := a) (k := k) (by omega)
    have hbk : a.drop k = b.drop k := by rw [List.drop_eq_nil_of_le (by omega), List.drop_eq_nil_of_le (by omega)]
    refine lp ?_
    simp only [setAll, body32, e32]
    clear hab
    have h1 := h1 hbk
    clear hbk
    repeat' (first
    | with_reducible refine Red.go ?_
    | with_reducible refine wp_draw ?_
    | ((with_reducible apply blkK_pass); rfl)
    | ((with_reducible first | apply wpOps_dry | apply wpOps_wet | apply wpOps_wet0 | apply wpDraw_dry); (simp only [evDryF, evWetF, St.new, Nat.reduceAdd, Nat.zero_add, Nat.add_zero, Eo.evF, upd_ap, reduceIte, Nat.reduceEqDiff, Bool.false_eq_true, Bool.not_true, Bool.not_false, flat, binAV, binInt, gint, List.length_map, *]; rfl))
    | ((with_reducible apply wpDraw_load); (simp only [Eo.evF, upd_ap, reduceIte, Nat.reduceEqDiff, Bool.false_eq_true, Bool.not_true, Bool.not_false, flat, binAV, binInt, gint, List.length_map, *]; rfl); rfl; rfl)
    | ((with_reducible first | apply wpOps_undef | apply wpDraw_undef)
       · simp only [upd_ap, reduceIte, Nat.reduceEqDiff]; done)
    | ((with_reducible first | apply wpOps_test | apply wp_test | apply draw_test); (simp only [Eo.evF, upd_ap, reduceIte, Nat.reduceEqDiff, Bool.false_eq_true, Bool.not_true, Bool.not_false, flat, binAV, binInt, gint, List.length_map, *]; rfl))
    | (with_reducible apply testK_mk
       all_goals (intro hb; try simp only [Bool.not_true, Bool.not_false, Bool.not_eq_true', Bool.not_eq_false'] at hb)))
    exact h1 _
  | succ m ih =>
    intro k g hk h1 h2
    have hkl : k < a.length := by omega
    have hki := lt_t hkl
    obtain ⟨x, hx, hd⟩ := get_ex hkl
    obtain ⟨y, hy, hd2⟩ := get_ex (l := b) (k := k) (by omega)
    have hx' := map_get (f := fun n => AV.int .i64 n) hx
    have hy' := map_get (f := fun n => AV.int .i64 n) hy
    rw [hd, hd2] at h1 h2
    refine lp ?_
    simp only [setAll, body32, e32]
    clear hab
    repeat' (first
    | with_reducible refine Red.go ?_
    | with_reducible refine wp_draw ?_
    | ((with_reducible apply blkK_pass); rfl)
    | ((with_reducible first | apply wpOps_dry | apply wpOps_wet | apply wpOps_wet0 | apply wpDraw_dry); (simp only [evDryF, evWetF, St.new, Nat.reduceAdd, Nat.zero_add, Nat.add_zero, Eo.evF, upd_ap, reduceIte, Nat.reduceEqDiff, Bool.false_eq_true, Bool.not_true, Bool.not_false, flat, binAV, binInt, gint, List.length_map, natOf_cast, *]; rfl))
    | ((with_reducible apply wpDraw_load); (simp only [Eo.evF, upd_ap, reduceIte, Nat.reduceEqDiff, Bool.false_eq_true, Bool.not_true, Bool.not_false, flat, binAV, binInt, gint, List.length_map, natOf_cast, *]; rfl); rfl; rfl)
    | ((with_reducible first | apply wpOps_undef | apply wpDraw_undef)
       · simp only [upd_ap, reduceIte, Nat.reduceEqDiff]; done)
    | ((with_reducible first | apply wpOps_test | apply wp_test | apply draw_test); (simp only [Eo.evF, upd_ap, reduceIte, Nat.reduceEqDiff, Bool.false_eq_true, Bool.not_true, Bool.not_false, flat, binAV, binInt, gint, List.length_map, natOf_cast, *]; rfl))
    | (with_reducible apply testK_mk
       all_goals (intro hb; try simp only [Bool.not_true, Bool.not_false, Bool.not_eq_true', Bool.not_eq_false'] at hb)))
    · exact h2 (fun h => by simp at h hb; exact hb h.1) _ rfl
    · refine lpK_nrm ?_
      have hxy : x = y := by simpa using hb
      refine rebase (L := [(0, ints a), (1, ints b), (12, K a.length), (13, K (k + 1 : Nat))]) ⟨rfl, rfl, rfl, congrArg (AV.int .i64) (wrap_succ hl hkl), trivial⟩ (ih (k + 1) _ (by omega) (fun h => h1 (by rw [hxy, h])) (fun h => h2 (fun h' => h (by simpa [hxy] using h'))))
theorem t32 (E : Env) (h : E.fns 32 = some e32) (a b : List Int) (ha : short a = true) : AnsK E 0 32 [ints a, ints b] s0 (ans (.bool (decide (a = b)))) := by
  refine fn_run h rfl rfl (plOf_args0 ..) ?_
  simp only [argPl, e32]
  repeat' (first
  | with_reducible refine Red.go ?_
  | with_reducible refine wp_draw ?_
  | ((with_reducible apply blkK_pass); rfl)
  | ((with_reducible first | apply wpOps_dry | apply wpOps_wet | apply wpOps_wet0 | apply wpDraw_dry); (simp only [evDryF, evWetF, St.new, Nat.reduceAdd, Nat.zero_add, Nat.add_zero, Eo.evF, upd_ap, reduceIte, Nat.reduceEqDiff, Bool.false_eq_true, Bool.not_true, Bool.not_false, flat, binAV, binInt, gint, List.length_map, *]; rfl))
  | ((with_reducible apply wpDraw_load); (simp only [Eo.evF, upd_ap, reduceIte, Nat.reduceEqDiff, Bool.false_eq_true, Bool.not_true, Bool.not_false, flat, binAV, binInt, gint, List.length_map, *]; rfl); rfl; rfl)
  | ((with_reducible first | apply wpOps_undef | apply wpDraw_undef)
     · simp only [upd_ap, reduceIte, Nat.reduceEqDiff]; done)
  | ((with_reducible first | apply wpOps_test | apply wp_test | apply draw_test); (simp only [Eo.evF, upd_ap, reduceIte, Nat.reduceEqDiff, Bool.false_eq_true, Bool.not_true, Bool.not_false, flat, binAV, binInt, gint, List.length_map, *]; rfl))
  | (with_reducible apply testK_mk
     all_goals (intro hb; try simp only [Bool.not_true, Bool.not_false, Bool.not_eq_true', Bool.not_eq_false'] at hb)))
  · refine fnK_one ?_
    have : a ≠ b := fun h => by rw [h] at hb; simp at hb
    simp only [ans, tupled, this, decide_false]; rfl
  · have hab : a.length = b.length := by have h' := hb; simp at h'; omega
    refine wp_loop (rebase (L := [(0, ints a), (1, ints b), (12, K a.length), (13, K (0 : Nat))]) ⟨rfl, rfl, rfl, rfl, trivial⟩ (loop32 E a b hab ha _ _ a.length 0 _ (by omega) (fun hh env => ?_) (fun hh env h4 => ?_)))
    · clear hab hb
      repeat' (first
      | with_reducible refine Red.go ?_
      | with_reducible refine wp_draw ?_
      | ((with_reducible apply blkK_pass); rfl)
      | ((with_reducible first | apply wpOps_dry | apply wpOps_wet | apply wpOps_wet0 | apply wpDraw_dry); (simp only [evDryF, evWetF, St.new, Nat.reduceAdd, Nat.zero_add, Nat.add_zero, Eo.evF, upd_ap, reduceIte, Nat.reduceEqDiff, Bool.false_eq_true, Bool.not_true, Bool.not_false, flat, *]; rfl))
      | ((with_reducible apply wpDraw_load); (simp only [Eo.evF, upd_ap, reduceIte, Nat.reduceEqDiff, Bool.false_eq_true, Bool.not_true, Bool.not_false, flat, *]; rfl); rfl; rfl)
      | ((with_reducible first | apply wpOps_undef | apply wpDraw_undef)
         · simp only [upd_ap, reduceIte, Nat.reduceEqDiff]; done)
      | ((with_reducible first | apply wpOps_test | apply wp_test | apply draw_test); (simp only [Eo.evF, upd_ap, reduceIte, Nat.reduceEqDiff, Bool.false_eq_true, Bool.not_true, Bool.not_false, flat, *]; rfl))
      | (with_reducible apply testK_mk
         all_goals (intro hb; try simp only [Bool.not_true, Bool.not_false, Bool.not_eq_true', Bool.not_eq_false'] at hb)))
      refine fnK_one ?_
      rw [List.drop_zero, List.drop_zero] at hh
      simp [ans, tupled, hh, upd_ap]
    · clear hab hb
      repeat' (first
      | with_reducible refine Red.go ?_
      | with_reducible refine wp_draw ?_
      | ((with_reducible apply blkK_pass); rfl)
      | ((with_reducible first | apply wpOps_dry | apply wpOps_wet | apply wpOps_wet0 | apply wpDraw_dry); (simp only [evDryF, evWetF, St.new, Nat.reduceAdd, Nat.zero_add, Nat.add_zero, Eo.evF, upd_ap, reduceIte, Nat.reduceEqDiff, Bool.false_eq_true, Bool.not_true, Bool.not_false, flat, *]; rfl))
      | ((with_reducible apply wpDraw_load); (simp only [Eo.evF, upd_ap, reduceIte, Nat.reduceEqDiff, Bool.false_eq_true, Bool.not_true, Bool.not_false, flat, *]; rfl); rfl; rfl)
      | ((with_reducible first | apply wpOps_undef | apply wpDraw_undef)
         · simp only [upd_ap, reduceIte, Nat.reduceEqDiff]; done)
      | ((with_reducible first | apply wpOps_test | apply wp_test | apply draw_test); (simp only [Eo.evF, upd_ap, reduceIte, Nat.reduceEqDiff, Bool.false_eq_true, Bool.not_true, Bool.not_false, flat, *]; rfl))
      | (with_reducible apply testK_mk
         all_goals (intro hb; try simp only [Bool.not_true, Bool.not_false, Bool.not_eq_true', Bool.not_eq_false'] at hb)))
      refine fnK_one ?_
      rw [List.drop_zero, List.drop_zero] at hh
      simp [ans, tupled, hh, upd_ap, h4]
/-! ### EnvRight -/
def q50 : List AV → Option AV := q59
theorem t49 (E : Env) {lo : Nat} (h : E.fns 49 = some { e49 with pure := true }) (h50 : ToldBy E 50 q59) (x : Sig) (hx : sigShort x = true) (s : St) : Tells E lo 49 [] [] s (encSig x) (!sigB x) := by
  intro KK hk
  refine callK_run h rfl ?_
  refine fn_frz h rfl rfl (plOf_args0 ..) (rfl : s.nx = s.nx) ?_
  simp only [argPl, e49, List.nil_append, List.append_nil]
  have hr := row_set s.H s.nx (s.nx + 1) [ints x.inp, ints x.out] 2 1
  have q := q59_eq hx
  clear hx
  repeat' (first
  | with_reducible refine Red.go ?_
  | ((with_reducible apply blkK_pass); rfl)
  | ((with_reducible first | apply wpOps_dry | apply wpOps_wet | apply wpOps_wet0); (simp only [evDryF, evWetF, St.new, Nat.reduceAdd, Nat.zero_add, Nat.add_zero, Eo.evF, upd_ap, reduceIte, Nat.reduceEqDiff, Bool.false_eq_true, Bool.not_true, Bool.not_false, flat, row_set, *]; rfl))
  | ((with_reducible apply wpOps_undef)
     · simp only [upd_ap, reduceIte, Nat.reduceEqDiff]; done)
  | ((with_reducible apply wpOps_told); assumption; (simp only [evsF, List.map_cons, List.map_nil, Eo.evF, upd_ap, reduceIte, Nat.reduceEqDiff, Bool.false_eq_true, Bool.not_true, Bool.not_false, flat, row_set, *]; rfl); first | (simp only [q]; rfl) | assumption)
  | ((with_reducible first | apply wpOps_test | apply wp_test); (simp only [Eo.evF, upd_ap, reduceIte, Nat.reduceEqDiff, Bool.false_eq_true, Bool.not_true, Bool.not_false, flat, row_set, *]; rfl))
  | (with_reducible apply testK_mk
     all_goals (intro hb; try simp only [Bool.not_true, Bool.not_false, Bool.not_eq_true', Bool.not_eq_false'] at hb)))
  refine fnK_one ?_
  refine frzK_mk (v' := .bool (!sigB x)) ?_ hk
  simp [freeze, upd_ap]
end Go.Ev.Lc
/- LowerChecks, the program's side: EnvRight. -/
namespace Go.Ev.Lc
open Go.Ev.Tab
set_option maxRecDepth 100000
set_option linter.all false

theorem t80n (E : Env) {lo : Nat} (h : E.fns 80 = some e80) (g : AV) (s : St) (KK : AV → St → Prop) (hk : KK (K (-1)) s) : AnsK E lo 80 [.nils, g] s KK := by
  refine fn_run h rfl rfl (plOf_args0 ..) ?_
  simp only [argPl, e80]
  have z : ((0 : Nat) : Int) = 0 := rfl
  have d : decide ((0 : Int) < 0) = false := by decide
  repeat' (first
  | with_reducible refine Red.go ?_
  | ((with_reducible apply blkK_pass); rfl)
  | ((with_reducible first | apply wpOps_dry | apply wpOps_wet | apply wpOps_wet0); (simp only [evDryF, evWetF, St.new, Nat.reduceAdd, Nat.zero_add, Nat.add_zero, Eo.evF, upd_ap, reduceIte, Nat.reduceEqDiff, Bool.false_eq_true, Bool.not_true, Bool.not_false, flat, binAV, binInt, gint, *]; rfl))
  | ((with_reducible apply wpOps_undef)
     · simp only [upd_ap, reduceIte, Nat.reduceEqDiff]; done)
  | ((with_reducible first | apply wpOps_test | apply wp_test); (simp only [Eo.evF, upd_ap, reduceIte, Nat.reduceEqDiff, Bool.false_eq_true, Bool.not_true, Bool.not_false, flat, binAV, binInt, gint, *]; rfl))
  | (with_reducible apply testK_mk
     all_goals (intro hb; try simp only [Bool.not_true, Bool.not_false, Bool.not_eq_true', Bool.not_eq_false'] at hb)))
  refine wp_loop (lp ?_)
  repeat' (first
  | with_reducible refine Red.go ?_
  | ((with_reducible apply blkK_pass); rfl)
  | ((with_reducible first | apply wpOps_dry | apply wpOps_wet | apply wpOps_wet0); (simp only [evDryF, evWetF, St.new, Nat.reduceAdd, Nat.zero_add, Nat.add_zero, Eo.evF, upd_ap, reduceIte, Nat.reduceEqDiff, Bool.false_eq_true, Bool.not_true, Bool.not_false, flat, binAV, binInt, gint, *]; rfl))
  | ((with_reducible apply wpOps_undef)
     · simp only [upd_ap, reduceIte, Nat.reduceEqDiff]; done)
  | ((with_reducible first | apply wpOps_test | apply wp_test); (simp only [Eo.evF, upd_ap, reduceIte, Nat.reduceEqDiff, Bool.false_eq_true, Bool.not_true, Bool.not_false, flat, binAV, binInt, gint, *]; rfl))
  | (with_reducible apply testK_mk
     all_goals (intro hb; try simp only [Bool.not_true, Bool.not_false, Bool.not_eq_true', Bool.not_eq_false'] at hb)))
  refine fnK_one ?_
  exact hk
theorem t51n (E : Env) {lo : Nat} (h : E.fns 51 = some e51) (h80 : E.fns 80 = some e80) (g : AV) (s : St) (KK : AV → St → Prop) (hk : KK (.bool false) s) : AnsK E lo 51 [.nils, g] s KK := by
  refine fn_run h rfl rfl (plOf_args0 ..) ?_
  simp only [argPl, e51]
  repeat' (first
  | with_reducible refine Red.go ?_
  | ((with_reducible apply blkK_pass); rfl)
  | ((with_reducible first | apply wpOps_dry | apply wpOps_wet | apply wpOps_wet0); (simp only [evDryF, evWetF, St.new, Nat.reduceAdd, Nat.zero_add, Nat.add_zero, Eo.evF, upd_ap, reduceIte, Nat.reduceEqDiff, Bool.false_eq_true, Bool.not_true, Bool.not_false, flat, binAV, binInt, gint, List.length_map, *]; rfl))
  | ((with_reducible apply wpOps_undef)
     · simp only [upd_ap, reduceIte, Nat.reduceEqDiff]; done)
  | ((with_reducible first | apply wpOps_test | apply wp_test); (simp only [Eo.evF, upd_ap, reduceIte, Nat.reduceEqDiff, Bool.false_eq_true, Bool.not_true, Bool.not_false, flat, binAV, binInt, gint, List.length_map, *]; rfl))
  | (with_reducible apply testK_mk
     all_goals (intro hb; try simp only [Bool.not_true, Bool.not_false, Bool.not_eq_true', Bool.not_eq_false'] at hb)))
  refine wpOps_call (g := 80) (a := []) (b := []) rfl (by simp only [evsF, List.map_cons, List.map_nil, Eo.evF, upd_ap, reduceIte, Nat.reduceEqDiff]; rfl) ?_
  refine callK_run h80 rfl (t80n E h80 _ s _ ?_)
  have d : decide ((-1 : Int) ≥ 0) = false := by decide
  repeat' (first
  | with_reducible refine Red.go ?_
  | ((with_reducible apply blkK_pass); rfl)
  | ((with_reducible first | apply wpOps_dry | apply wpOps_wet | apply wpOps_wet0); (simp only [evDryF, evWetF, St.new, Nat.reduceAdd, Nat.zero_add, Nat.add_zero, Eo.evF, upd_ap, reduceIte, Nat.reduceEqDiff, Bool.false_eq_true, Bool.not_true, Bool.not_false, flat, binAV, binInt, *]; rfl))
  | ((with_reducible apply wpOps_undef)
     · simp only [upd_ap, reduceIte, Nat.reduceEqDiff]; done)
  | ((with_reducible first | apply wpOps_test | apply wp_test); (simp only [Eo.evF, upd_ap, reduceIte, Nat.reduceEqDiff, Bool.false_eq_true, Bool.not_true, Bool.not_false, flat, binAV, binInt, *]; rfl))
  | (with_reducible apply testK_mk
     all_goals (intro hb; try simp only [Bool.not_true, Bool.not_false, Bool.not_eq_true', Bool.not_eq_false'] at hb)))
  refine fnK_one ?_
  exact hk
theorem t47n (E : Env) {lo : Nat} (h : E.fns 47 = some e47) (h51 : E.fns 51 = some e51) (h80 : E.fns 80 = some e80) : AnsK E lo 47 [K 32, .nils] s0 (ans (.bool (kindsB [] 32))) := by
  refine fn_run h rfl rfl (plOf_args0 ..) ?_
  simp only [argPl, e47]
  have z : ((0 : Nat) : Int) = 0 := rfl
  have d : decide ((0 : Int) ≤ 32) = true := by decide
  repeat' (first
  | with_reducible refine Red.go ?_
  | ((with_reducible apply blkK_pass); rfl)
  | ((with_reducible first | apply wpOps_dry | apply wpOps_wet | apply wpOps_wet0); (simp only [evDryF, evWetF, St.new, Nat.reduceAdd, Nat.zero_add, Nat.add_zero, Eo.evF, upd_ap, reduceIte, Nat.reduceEqDiff, Bool.false_eq_true, Bool.not_true, Bool.not_false, flat, binAV, binInt, gint, *]; rfl))
  | ((with_reducible apply wpOps_undef)
     · simp only [upd_ap, reduceIte, Nat.reduceEqDiff]; done)
  | ((with_reducible first | apply wpOps_test | apply wp_test); (simp only [Eo.evF, upd_ap, reduceIte, Nat.reduceEqDiff, Bool.false_eq_true, Bool.not_true, Bool.not_false, flat, binAV, binInt, gint, *]; rfl))
  | (with_reducible apply testK_mk
     all_goals (intro hb; try simp only [Bool.not_true, Bool.not_false, Bool.not_eq_true', Bool.not_eq_false'] at hb)))
  refine wpOps_call (g := 51) (a := []) (b := []) (x := [.nils, .fn 77 [] []]) rfl rfl ?_
  refine callK_run h51 rfl (t51n E h51 h80 _ _ _ ?_)
  repeat' (first
  | with_reducible refine Red.go ?_
  | ((with_reducible apply blkK_pass); rfl)
  | ((with_reducible first | apply wpOps_dry | apply wpOps_wet | apply wpOps_wet0); (simp only [evDryF, evWetF, St.new, Nat.reduceAdd, Nat.zero_add, Nat.add_zero, Eo.evF, upd_ap, reduceIte, Nat.reduceEqDiff, Bool.false_eq_true, Bool.not_true, Bool.not_false, flat, *]; rfl))
  | ((with_reducible apply wpOps_undef)
     · simp only [upd_ap, reduceIte, Nat.reduceEqDiff]; done)
  | ((with_reducible first | apply wpOps_test | apply wp_test); (simp only [Eo.evF, upd_ap, reduceIte, Nat.reduceEqDiff, Bool.false_eq_true, Bool.not_true, Bool.not_false, flat, *]; rfl))
  | (with_reducible apply testK_mk
     all_goals (intro hb; try simp only [Bool.not_true, Bool.not_false, Bool.not_eq_true', Bool.not_eq_false'] at hb)))
  refine fnK_one ?_
  rfl
def q47x : List AV → Option AV
  | [.int .i64 32, .nils] => some (.bool true)
  | x => q47 x
theorem q47x_eq (n : Int) {l : List Int} (h : short l = true) : q47x [.int .i64 n, ints l] = some (.bool (kindsB l n)) := by
  have h1 : q47x [.int .i64 n, ints l] = q47 [.int .i64 n, ints l] := by unfold q47x; split <;> simp_all
  rw [h1]; exact q47_eq n h
theorem q47x_n : q47x [.int .i64 32, .nils] = some (.bool true) := rfl
theorem any_not_all (l : List Sig) : (!l.any fun x => !sigB x) = l.all sigB := by
  induction l with
  | nil => rfl
  | cons a r ih => simp only [List.any_cons, List.all_cons, Bool.not_or, Bool.not_not, ih]
theorem t19 (E : Env) {lo : Nat} (h : E.fns 19 = some { e19 with pure := true }) (h47 : ToldBy E 47 q47x) (h48 : E.fns 48 = some e48) (h79 : E.fns 79 = some e79) (h49 : E.fns 49 = some { e49 with pure := true }) (h50 : ToldBy E 50 q59) (e : Env') (hs : envShort e = true) (s : St) (KK : AV → St → Prop) (hk : KK (.bool (envB e)) s) : AnsK E lo 19 [encEnv e] s KK := by
  obtain ⟨s1, s2, s3, s4⟩ := envShort_and hs
  have hr := row_set s.H s.nx (s.nx + 1) (envCells e) 5 1
  refine fn_frz h rfl rfl (plOf_args0 ..) (rfl : s.nx = s.nx) ?_
  simp only [argPl, e19]
  have hall := any_not_all e.sigs
  have hsx : ∀ x ∈ e.sigs, sigShort x = true := fun x hx => List.all_eq_true.1 s4 x hx
  have q47' := q47x_eq 32 s2
  clear s2 s3 s4 hs
  repeat' (first
  | with_reducible refine Red.go ?_
  | ((with_reducible apply blkK_pass); rfl)
  | ((with_reducible first | apply wpOps_dry | apply wpOps_wet | apply wpOps_wet0); (simp only [evDryF, evWetF, St.new, Nat.reduceAdd, Nat.zero_add, Nat.add_zero, Eo.evF, upd_ap, reduceIte, Nat.reduceEqDiff, Bool.false_eq_true, Bool.not_true, Bool.not_false, flat, binAV, binInt, gint, List.length_map, row_set, *]; rfl))
  | ((with_reducible apply wpOps_undef)
     · simp only [upd_ap, reduceIte, Nat.reduceEqDiff]; done)
  | ((with_reducible apply wpOps_told); assumption; (simp only [evsF, List.map_cons, List.map_nil, Eo.evF, upd_ap, reduceIte, Nat.reduceEqDiff, Bool.false_eq_true, Bool.not_true, Bool.not_false, flat, binAV, binInt, gint, List.length_map, row_set, *]; rfl); first | (simp only [q47']; rfl) | assumption)
  | ((with_reducible first | apply wpOps_test | apply wp_test); (simp only [Eo.evF, upd_ap, reduceIte, Nat.reduceEqDiff, Bool.false_eq_true, Bool.not_true, Bool.not_false, flat, binAV, binInt, gint, List.length_map, row_set, *]; rfl))
  | (with_reducible apply testK_mk
     all_goals (intro hb; try simp only [Bool.not_true, Bool.not_false, Bool.not_eq_true', Bool.not_eq_false'] at hb)))
  all_goals first
    | (refine fnK_one ?_
       refine frzK_mk (v' := .bool (envB e)) ?_ hk
       have hb' : envB e = false := by
         clear hk hr
         simp [envB, *]
       rw [hb']
       simp [freeze, upd_ap, *]
       done)
    | skip
  refine wpOps_call (g := 48) (a := []) (b := []) (x := [sigs e.sigs, .fn 49 [] []]) rfl (by simp only [evsF, List.map_cons, List.map_nil, Eo.evF, upd_ap, reduceIte, Nat.reduceEqDiff]) ?_
  refine callK_run h48 rfl (t48 E h48 h79 e.sigs s1 49 [] [] (fun x => !sigB x) _ (fun x hx => t49 E h49 h50 x (hsx x hx) _) _ ?_)
  have hb' : envB e = e.sigs.all sigB := by
    clear hk hr
    simp [envB, *]
  clear hsx
  rw [hb', ← hall] at hk
  clear hall hb'
  repeat' (first
  | with_reducible refine Red.go ?_
  | ((with_reducible apply blkK_pass); rfl)
  | ((with_reducible first | apply wpOps_dry | apply wpOps_wet | apply wpOps_wet0); (simp only [evDryF, evWetF, St.new, Nat.reduceAdd, Nat.zero_add, Nat.add_zero, Eo.evF, upd_ap, reduceIte, Nat.reduceEqDiff, Bool.false_eq_true, Bool.not_true, Bool.not_false, flat, *]; rfl))
  | ((with_reducible apply wpOps_undef)
     · simp only [upd_ap, reduceIte, Nat.reduceEqDiff]; done)
  | ((with_reducible first | apply wpOps_test | apply wp_test); (simp only [Eo.evF, upd_ap, reduceIte, Nat.reduceEqDiff, Bool.false_eq_true, Bool.not_true, Bool.not_false, flat, *]; rfl))
  | (with_reducible apply testK_mk
     all_goals (intro hb; try simp only [Bool.not_true, Bool.not_false, Bool.not_eq_true', Bool.not_eq_false'] at hb)))
  refine fnK_one ?_
  refine frzK_mk (v' := .bool (!e.sigs.any fun x => !sigB x)) ?_ hk
  simp [freeze, upd_ap]
theorem t79one (E : Env) {lo : Nat} (h : E.fns 79 = some e79) (x : Sig) (s : St) (b ex : Nat) (hrow : row s b = some ([ints x.inp, ints x.out], 2, ex)) (g : FuncId) (p : Bool) (hp : Tells E lo g [] [] s (encSig x) p) (KK : AV → St → Prop)
    (hk : KK (K (if p then 0 else -1)) s) : AnsK E lo 79 [.sl b 0 1, .fn g [] []] s KK := by
  refine fn_run h rfl rfl (plOf_args0 ..) ?_
  simp only [argPl, e79]
  have n1 : natOf (.int .i64 0) = some 0 := rfl
  have w1 : IntKind.i64.wrap (0 + 1) = 1 := by decide
  have d1 : decide ((0 : Int) < ((1 : Nat) : Int)) = true := by decide
  have d2 : decide ((1 : Int) < ((1 : Nat) : Int)) = false := by decide
  have hp' := hp
  clear hp
  repeat' (first
  | with_reducible refine Red.go ?_
  | ((with_reducible apply blkK_pass); rfl)
  | ((with_reducible first | apply wpOps_dry | apply wpOps_wet | apply wpOps_wet0); (simp only [evDryF, evWetF, St.new, Nat.reduceAdd, Nat.zero_add, Nat.add_zero, Eo.evF, upd_ap, reduceIte, Nat.reduceEqDiff, Bool.false_eq_true, Bool.not_true, Bool.not_false, flat, binAV, binInt, gint, *]; rfl))
  | ((with_reducible apply wpOps_undef)
     · simp only [upd_ap, reduceIte, Nat.reduceEqDiff]; done)
  | ((with_reducible first | apply wpOps_test | apply wp_test); (simp only [Eo.evF, upd_ap, reduceIte, Nat.reduceEqDiff, Bool.false_eq_true, Bool.not_true, Bool.not_false, flat, binAV, binInt, gint, *]; rfl))
  | (with_reducible apply testK_mk
     all_goals (intro hb; try simp only [Bool.not_true, Bool.not_false, Bool.not_eq_true', Bool.not_eq_false'] at hb)))
  refine wp_loop (lp ?_)
  repeat' (first
  | with_reducible refine Red.go ?_
  | ((with_reducible apply blkK_pass); rfl)
  | ((with_reducible first | apply wpOps_dry | apply wpOps_wet | apply wpOps_wet0); (simp only [evDryF, evWetF, St.new, Nat.reduceAdd, Nat.zero_add, Nat.add_zero, Eo.evF, upd_ap, reduceIte, Nat.reduceEqDiff, Bool.false_eq_true, Bool.not_true, Bool.not_false, flat, binAV, binInt, gint, *]; rfl))
  | ((with_reducible apply wpOps_undef)
     · simp only [upd_ap, reduceIte, Nat.reduceEqDiff]; done)
  | ((with_reducible first | apply wpOps_test | apply wp_test); (simp only [Eo.evF, upd_ap, reduceIte, Nat.reduceEqDiff, Bool.false_eq_true, Bool.not_true, Bool.not_false, flat, binAV, binInt, gint, *]; rfl))
  | (with_reducible apply testK_mk
     all_goals (intro hb; try simp only [Bool.not_true, Bool.not_false, Bool.not_eq_true', Bool.not_eq_false'] at hb)))
  refine wpOps_call (g := g) (a := []) (b := []) (x := [encSig x]) (by simp only [Eo.evF, upd_ap, reduceIte, Nat.reduceEqDiff]) (by simp only [evsF, List.map_cons, List.map_nil, Eo.evF, upd_ap, reduceIte, Nat.reduceEqDiff]; rfl) ?_
  refine hp' _ ?_
  clear hp'
  cases p with
  | true =>
    repeat' (first
    | with_reducible refine Red.go ?_
    | ((with_reducible apply blkK_pass); rfl)
    | ((with_reducible first | apply wpOps_dry | apply wpOps_wet | apply wpOps_wet0); (simp only [evDryF, evWetF, St.new, Nat.reduceAdd, Nat.zero_add, Nat.add_zero, Eo.evF, upd_ap, reduceIte, Nat.reduceEqDiff, Bool.false_eq_true, Bool.not_true, Bool.not_false, flat, binAV, binInt, gint, *]; rfl))
    | ((with_reducible apply wpOps_undef)
       · simp only [upd_ap, reduceIte, Nat.reduceEqDiff]; done)
    | ((with_reducible first | apply wpOps_test | apply wp_test); (simp only [Eo.evF, upd_ap, reduceIte, Nat.reduceEqDiff, Bool.false_eq_true, Bool.not_true, Bool.not_false, flat, binAV, binInt, gint, *]; rfl))
    | (with_reducible apply testK_mk
       all_goals (intro hb; try simp only [Bool.not_true, Bool.not_false, Bool.not_eq_true', Bool.not_eq_false'] at hb)))
    refine fnK_one ?_
    exact hk
  | false =>
    repeat' (first
    | with_reducible refine Red.go ?_
    | ((with_reducible apply blkK_pass); rfl)
    | ((with_reducible first | apply wpOps_dry | apply wpOps_wet | apply wpOps_wet0); (simp only [evDryF, evWetF, St.new, Nat.reduceAdd, Nat.zero_add, Nat.add_zero, Eo.evF, upd_ap, reduceIte, Nat.reduceEqDiff, Bool.false_eq_true, Bool.not_true, Bool.not_false, flat, binAV, binInt, gint, *]; rfl))
    | ((with_reducible apply wpOps_undef)
       · simp only [upd_ap, reduceIte, Nat.reduceEqDiff]; done)
    | ((with_reducible first | apply wpOps_test | apply wp_test); (simp only [Eo.evF, upd_ap, reduceIte, Nat.reduceEqDiff, Bool.false_eq_true, Bool.not_true, Bool.not_false, flat, binAV, binInt, gint, *]; rfl))
    | (with_reducible apply testK_mk
       all_goals (intro hb; try simp only [Bool.not_true, Bool.not_false, Bool.not_eq_true', Bool.not_eq_false'] at hb)))
    refine lpK_nrm (lp ?_)
    repeat' (first
    | with_reducible refine Red.go ?_
    | ((with_reducible apply blkK_pass); rfl)
    | ((with_reducible first | apply wpOps_dry | apply wpOps_wet | apply wpOps_wet0); (simp only [evDryF, evWetF, St.new, Nat.reduceAdd, Nat.zero_add, Nat.add_zero, Eo.evF, upd_ap, reduceIte, Nat.reduceEqDiff, Bool.false_eq_true, Bool.not_true, Bool.not_false, flat, binAV, binInt, gint, *]; rfl))
    | ((with_reducible apply wpOps_undef)
       · simp only [upd_ap, reduceIte, Nat.reduceEqDiff]; done)
    | ((with_reducible first | apply wpOps_test | apply wp_test); (simp only [Eo.evF, upd_ap, reduceIte, Nat.reduceEqDiff, Bool.false_eq_true, Bool.not_true, Bool.not_false, flat, binAV, binInt, gint, *]; rfl))
    | (with_reducible apply testK_mk
       all_goals (intro hb; try simp only [Bool.not_true, Bool.not_false, Bool.not_eq_true', Bool.not_eq_false'] at hb)))
    refine fnK_one ?_
    exact hk
theorem t48one (E : Env) {lo : Nat} (h : E.fns 48 = some e48) (h79 : E.fns 79 = some e79) (x : Sig) (s : St) (b ex : Nat) (hrow : row s b = some ([ints x.inp, ints x.out], 2, ex)) (g : FuncId) (p : Bool) (hp : Tells E lo g [] [] s (encSig x) p) (KK : AV → St → Prop)
    (hk : KK (.bool p) s) : AnsK E lo 48 [.sl b 0 1, .fn g [] []] s KK := by
  refine fn_run h rfl rfl (plOf_args0 ..) ?_
  simp only [argPl, e48]
  have hp' := hp
  clear hp
  repeat' (first
  | with_reducible refine Red.go ?_
  | ((with_reducible apply blkK_pass); rfl)
  | ((with_reducible first | apply wpOps_dry | apply wpOps_wet | apply wpOps_wet0); (simp only [evDryF, evWetF, St.new, Nat.reduceAdd, Nat.zero_add, Nat.add_zero, Eo.evF, upd_ap, reduceIte, Nat.reduceEqDiff, Bool.false_eq_true, Bool.not_true, Bool.not_false, flat, binAV, binInt, gint, *]; rfl))
  | ((with_reducible apply wpOps_undef)
     · simp only [upd_ap, reduceIte, Nat.reduceEqDiff]; done)
  | ((with_reducible first | apply wpOps_test | apply wp_test); (simp only [Eo.evF, upd_ap, reduceIte, Nat.reduceEqDiff, Bool.false_eq_true, Bool.not_true, Bool.not_false, flat, binAV, binInt, gint, *]; rfl))
  | (with_reducible apply testK_mk
     all_goals (intro hb; try simp only [Bool.not_true, Bool.not_false, Bool.not_eq_true', Bool.not_eq_false'] at hb)))
  refine wpOps_call (g := 79) (a := []) (b := []) rfl (by simp only [evsF, List.map_cons, List.map_nil, Eo.evF, upd_ap, reduceIte, Nat.reduceEqDiff]; rfl) ?_
  refine callK_run h79 rfl (t79one E h79 x s b ex hrow g p hp' _ ?_)
  clear hp' hrow
  have d1 : decide ((-1 : Int) ≥ 0) = false := by decide
  have d2 : decide ((0 : Int) ≥ 0) = true := by decide
  cases p with
  | true =>
    repeat' (first
    | with_reducible refine Red.go ?_
    | ((with_reducible apply blkK_pass); rfl)
    | ((with_reducible first | apply wpOps_dry | apply wpOps_wet | apply wpOps_wet0); (simp only [evDryF, evWetF, St.new, Nat.reduceAdd, Nat.zero_add, Nat.add_zero, Eo.evF, upd_ap, reduceIte, Nat.reduceEqDiff, Bool.false_eq_true, Bool.not_true, Bool.not_false, flat, binAV, binInt, if_true, *]; rfl))
    | ((with_reducible apply wpOps_undef)
       · simp only [upd_ap, reduceIte, Nat.reduceEqDiff]; done)
    | ((with_reducible first | apply wpOps_test | apply wp_test); (simp only [Eo.evF, upd_ap, reduceIte, Nat.reduceEqDiff, Bool.false_eq_true, Bool.not_true, Bool.not_false, flat, binAV, binInt, if_true, *]; rfl))
    | (with_reducible apply testK_mk
       all_goals (intro hb; try simp only [Bool.not_true, Bool.not_false, Bool.not_eq_true', Bool.not_eq_false'] at hb)))
    refine fnK_one ?_
    exact hk
  | false =>
    repeat' (first
    | with_reducible refine Red.go ?_
    | ((with_reducible apply blkK_pass); rfl)
    | ((with_reducible first | apply wpOps_dry | apply wpOps_wet | apply wpOps_wet0); (simp only [evDryF, evWetF, St.new, Nat.reduceAdd, Nat.zero_add, Nat.add_zero, Eo.evF, upd_ap, reduceIte, Nat.reduceEqDiff, Bool.false_eq_true, Bool.not_true, Bool.not_false, flat, binAV, binInt, if_false, *]; rfl))
    | ((with_reducible apply wpOps_undef)
       · simp only [upd_ap, reduceIte, Nat.reduceEqDiff]; done)
    | ((with_reducible first | apply wpOps_test | apply wp_test); (simp only [Eo.evF, upd_ap, reduceIte, Nat.reduceEqDiff, Bool.false_eq_true, Bool.not_true, Bool.not_false, flat, binAV, binInt, if_false, *]; rfl))
    | (with_reducible apply testK_mk
       all_goals (intro hb; try simp only [Bool.not_true, Bool.not_false, Bool.not_eq_true', Bool.not_eq_false'] at hb)))
    refine fnK_one ?_
    exact hk
theorem t19one (E : Env) {lo : Nat} (h : E.fns 19 = some { e19 with pure := true }) (h47 : ToldBy E 47 q47x) (h48 : E.fns 48 = some e48) (h79 : E.fns 79 = some e79) (h49 : E.fns 49 = some { e49 with pure := true }) (h50 : ToldBy E 50 q59) (x : Sig) (hx : sigShort x = true)
    (s : St) (b ex : Nat) (hrow : ∀ o n, row ⟨s.H.set s.nx o, n⟩ b = some ([ints x.inp, ints x.out], 2, ex)) (KK : AV → St → Prop) (hk : KK (.bool (sigB x)) s) : AnsK E lo 19 [.agg [.sl b 0 1, K 0, .nils, .nils, .bool false]] s KK := by
  refine fn_frz h rfl rfl (plOf_args0 ..) (rfl : s.nx = s.nx) ?_
  simp only [argPl, e19]
  have z : ((0 : Nat) : Int) = 0 := rfl
  have d1 : decide ((0 : Int) < 0) = false := by decide
  have d2 : decide ((0 : Int) > ((1 : Nat) : Int)) = false := by decide
  have d3 : decide (((1 : Nat) : Int) > 64) = false := by decide
  have d4 : decide (((1 : Nat) : Int) < 0) = false := by decide
  have b0 : ((0 : Int) == 0) = true := by decide
  have q2 := q47x_n
  have hrow' := hrow
  clear hrow
  repeat' (first
  | with_reducible refine Red.go ?_
  | ((with_reducible apply blkK_pass); rfl)
  | ((with_reducible first | apply wpOps_dry | apply wpOps_wet | apply wpOps_wet0); (simp only [evDryF, evWetF, St.new, Nat.reduceAdd, Nat.zero_add, Nat.add_zero, Eo.evF, upd_ap, reduceIte, Nat.reduceEqDiff, Bool.false_eq_true, Bool.not_true, Bool.not_false, flat, binAV, binInt, gint, row_set, *]; rfl))
  | ((with_reducible apply wpOps_undef)
     · simp only [upd_ap, reduceIte, Nat.reduceEqDiff]; done)
  | ((with_reducible apply wpOps_told); assumption; (simp only [evsF, List.map_cons, List.map_nil, Eo.evF, upd_ap, reduceIte, Nat.reduceEqDiff, Bool.false_eq_true, Bool.not_true, Bool.not_false, flat, binAV, binInt, gint, row_set, *]; rfl); first | (simp only [q2]; rfl) | assumption)
  | ((with_reducible first | apply wpOps_test | apply wp_test); (simp only [Eo.evF, upd_ap, reduceIte, Nat.reduceEqDiff, Bool.false_eq_true, Bool.not_true, Bool.not_false, flat, binAV, binInt, gint, row_set, *]; rfl))
  | (with_reducible apply testK_mk
     all_goals (intro hb; try simp only [Bool.not_true, Bool.not_false, Bool.not_eq_true', Bool.not_eq_false'] at hb)))
  refine wpOps_call (g := 48) (a := []) (b := []) (x := [.sl b 0 1, .fn 49 [] []]) rfl (by simp only [evsF, List.map_cons, List.map_nil, Eo.evF, upd_ap, reduceIte, Nat.reduceEqDiff]) ?_
  refine callK_run h48 rfl (t48one E h48 h79 x _ b ex (hrow' _ _) 49 (!sigB x) (t49 E h49 h50 x hx _) _ ?_)
  clear hrow'
  repeat' (first
  | with_reducible refine Red.go ?_
  | ((with_reducible apply blkK_pass); rfl)
  | ((with_reducible first | apply wpOps_dry | apply wpOps_wet | apply wpOps_wet0); (simp only [evDryF, evWetF, St.new, Nat.reduceAdd, Nat.zero_add, Nat.add_zero, Eo.evF, upd_ap, reduceIte, Nat.reduceEqDiff, Bool.false_eq_true, Bool.not_true, Bool.not_false, flat, *]; rfl))
  | ((with_reducible apply wpOps_undef)
     · simp only [upd_ap, reduceIte, Nat.reduceEqDiff]; done)
  | ((with_reducible first | apply wpOps_test | apply wp_test); (simp only [Eo.evF, upd_ap, reduceIte, Nat.reduceEqDiff, Bool.false_eq_true, Bool.not_true, Bool.not_false, flat, *]; rfl))
  | (with_reducible apply testK_mk
     all_goals (intro hb; try simp only [Bool.not_true, Bool.not_false, Bool.not_eq_true', Bool.not_eq_false'] at hb)))
  refine fnK_one ?_
  refine frzK_mk (v' := .bool (sigB x)) ?_ hk
  simp [freeze, upd_ap]
end Go.Ev.Lc
/- LowerChecks, the program's side: what comes behind an instruction, the tables of operators. -/
namespace Go.Ev.Lc
open Go.Ev.Tab
set_option maxRecDepth 100000
set_option linter.all false

set_option maxHeartbeats 4000000 in
theorem t57 (E : Env) (h : E.fns 57 = some { e57 with pure := true }) (r : Row) (hs : short r.code = true) (i : Nat) (c : Code') (hc : r.code[i]? = some c) (hok : nextOk c = true) : AnsK E 0 57 [encRow r, K i] s0 (ans (nextV c i)) := by
  have hc' := map_get (f := encCode) hc
  have hlt : i < r.code.length := by
    rcases Nat.lt_or_ge i r.code.length with h | h
    · exact h
    · rw [List.getElem?_eq_none h] at hc; simp at hc
  have hw : IntKind.i64.wrap ((i : Int) + 1) = (i : Int) + 1 := by have := wrap_succ hs hlt; rw [this]; rfl
  refine fn_frz h rfl rfl (plOf_args0 ..) (rfl : s0.nx = 0) ?_
  simp only [argPl, e57]
  clear hc hs hlt
  cases hto : c.to with
  | nil =>
    have hno : (c.op == 274) = false := by simpa [nextOk, hto] using hok
    clear hok
    repeat' (first
    | with_reducible refine Red.go ?_
    | ((with_reducible apply blkK_pass); rfl)
    | ((with_reducible first | apply wpOps_dry | apply wpOps_wet | apply wpOps_wet0); (simp only [evDryF, evWetF, St.new, Nat.reduceAdd, Nat.zero_add, Nat.add_zero, Eo.evF, upd_ap, reduceIte, Nat.reduceEqDiff, Bool.false_eq_true, Bool.not_true, Bool.not_false, flat, binAV, binInt, gint, List.length_map, natOf_cast, *]; rfl))
    | ((with_reducible apply wpOps_undef)
       · simp only [upd_ap, reduceIte, Nat.reduceEqDiff]; done)
    | ((with_reducible first | apply wpOps_test | apply wp_test); (simp only [Eo.evF, upd_ap, reduceIte, Nat.reduceEqDiff, Bool.false_eq_true, Bool.not_true, Bool.not_false, flat, binAV, binInt, gint, List.length_map, natOf_cast, *]; rfl))
    | (with_reducible apply testK_mk
       all_goals (intro hb; try simp only [Bool.not_true, Bool.not_false, Bool.not_eq_true', Bool.not_eq_false'] at hb)))
    all_goals
      refine fnK_one ?_
      refine frzK_mk (v' := nextV c i) ?_ rfl
      simp only [nextV, nextL, upd_ap, reduceIte, Nat.reduceEqDiff, Bool.false_eq_true, Bool.true_eq_false, Bool.or_true, Bool.or_false, Bool.true_or, Bool.false_or, if_true, if_false, *]
      kernel_rfl
  | cons t ts =>
    clear hok
    have ht0 : (List.map (fun n => AV.int .i64 n) c.to)[0]? = some (.int .i64 t) := by rw [hto]; rfl
    repeat' (first
    | with_reducible refine Red.go ?_
    | ((with_reducible apply blkK_pass); rfl)
    | ((with_reducible first | apply wpOps_dry | apply wpOps_wet | apply wpOps_wet0); (simp only [evDryF, evWetF, St.new, Nat.reduceAdd, Nat.zero_add, Nat.add_zero, Eo.evF, upd_ap, reduceIte, Nat.reduceEqDiff, Bool.false_eq_true, Bool.not_true, Bool.not_false, flat, binAV, binInt, gint, List.length_map, natOf_cast, *]; rfl))
    | ((with_reducible apply wpOps_undef)
       · simp only [upd_ap, reduceIte, Nat.reduceEqDiff]; done)
    | ((with_reducible first | apply wpOps_test | apply wp_test); (simp only [Eo.evF, upd_ap, reduceIte, Nat.reduceEqDiff, Bool.false_eq_true, Bool.not_true, Bool.not_false, flat, binAV, binInt, gint, List.length_map, natOf_cast, *]; rfl))
    | (with_reducible apply testK_mk
       all_goals (intro hb; try simp only [Bool.not_true, Bool.not_false, Bool.not_eq_true', Bool.not_eq_false'] at hb)))
    all_goals
      refine fnK_one ?_
      refine frzK_mk (v' := nextV c i) ?_ rfl
      simp only [nextV, nextL, upd_ap, reduceIte, Nat.reduceEqDiff, Bool.false_eq_true, Bool.true_eq_false, Bool.or_true, Bool.or_false, Bool.true_or, Bool.false_or, if_true, if_false, *]
      kernel_rfl

/-! ### rows of a memory -/
def rowH (H : Tr ABlk) (i : Nat) : Option (List AV × Nat × Nat) := match H.get i with | some (.cells cs sz ex) => some (cs, sz, ex) | _ => none
theorem row_rowH (s : St) (i : Nat) : row s i = rowH s.H i := rfl
theorem rowH_set (H : Tr ABlk) (i : Nat) (cs : List AV) (sz ex : Nat) : rowH (H.set i (.cells cs sz ex)) i = some (cs, sz, ex) := by
  unfold rowH
  simp only [Tr.set, Tr.get_put_self]
theorem rowH_ne {H : Tr ABlk} {i j : Nat} {o : ABlk} (h : j ≠ i) : rowH (H.set i o) j = rowH H j := by
  unfold rowH
  simp only [Tr.set, Tr.get_put_ne _ _ h]
theorem rowH_del {H : Tr ABlk} {i j : Nat} (h : j ≠ i) : rowH (H.del i) j = rowH H j := by
  unfold rowH
  simp only [Tr.del, Tr.get_put_ne _ _ h]

/-! ### the operators of numbers -/
abbrev encG (g : Int × Nat × Int × Int) : AV := .agg [K g.1, K g.2.1, K g.2.2.1, K g.2.2.2]
def groupsL : List (Int × Nat × Int × Int) := [(69, 1, 0, 127), (70, 10, 1, 127), (80, 1, 0, 126), (81, 10, 1, 126), (103, 3, 2, 127), (106, 15, 3, 127), (121, 3, 2, 126), (124, 15, 3, 126), (167, 1, 4, 126), (172, 2, 5, 127), (192, 2, 6, 127), (194, 3, 6, 126)]
def q145 : List AV → Option AV
  | [] => some (.lst (groupsL.map encG))
  | _ => none
def sigKeys : List Int := groupsL.flatMap fun g => (List.range g.2.1).map fun (j : Nat) => g.1 + j
def inG (g : Int × Nat × Int × Int) (op : Int) : Bool := decide (g.1 ≤ op) && decide (op < g.1 + g.2.1)
theorem hit_key {op : Int} (h : groupsL.any (inG · op) = true) : op ∈ sigKeys := by
  obtain ⟨g, hg, h2⟩ := List.any_eq_true.1 h
  simp only [inG, Bool.and_eq_true, decide_eq_true_eq] at h2
  refine List.mem_flatMap.2 ⟨g, hg, List.mem_map.2 ⟨(op - g.1).toNat, List.mem_range.2 (by omega), by omega⟩⟩
def word (n : Int) : Prop := -9223372036854775808 ≤ n ∧ n < 9223372036854775808
theorem miss_sigV {op : Int} (h : groupsL.any (inG · op) = false) : sigV op = .tup [.nils, K 0, .bool false] := by
  have h0 : ofF op = 0 := by
    simp [groupsL, inG] at h
    unfold ofF
    rw [if_neg (by simp [inB]; omega), if_neg (by simp [inB]; omega)]
  simp [sigV, h0]
def body117 := match e117.body with
  | .seq _ (.seq (.seq _ (.block _ (.loop b))) _) => b
  | _ => .skip
theorem loop117 (E : Env) (op : Int) (hop : word op) (hmiss : groupsL.any (inG · op) = false) (b : Nat) (Q : Post) :
    ∀ (m k : Nat) (v : Pl) (s : St), k + m = 12 → b < s.nx → rowH s.H b = some ([K 0, K 0, K 0, K 0], 4, 383) →
      (∀ env s', env 2 = .ptr b 0 → rowH s'.H b = some ([K 0, K 0, K 0, K 0], 4, 383) → Q (.exit 0) env s') →
      RunT E 0 (.loop body117) (setAll v [(0, K op), (2, .ptr b 0), (7, .lst (groupsL.map encG)), (8, K (12 : Nat)), (9, K k)]) s Q := by
  intro m
  induction m with
  | zero =>
    intro k v s hk hb hrow h1
    have hki : decide ((k : Int) < ((12 : Nat) : Int)) = false := by simp; omega
    clear hk hb hmiss
    refine lp ?_
    simp only [setAll, body117, e117]
    repeat' (first
    | with_reducible refine Red.go ?_
    | with_reducible refine wp_draw ?_
    | ((with_reducible apply blkK_pass); rfl)
    | ((with_reducible first | apply wpOps_dry | apply wpOps_wet | apply wpOps_wet0 | apply wpDraw_dry); (simp only [evDryF, evWetF, St.new, Nat.reduceAdd, Nat.zero_add, Nat.add_zero, Eo.evF, upd_ap, reduceIte, Nat.reduceEqDiff, Bool.false_eq_true, Bool.not_true, Bool.not_false, flat, binAV, binInt, gint, List.length_map, *]; rfl))
    | ((with_reducible apply wpDraw_load); (simp only [Eo.evF, upd_ap, reduceIte, Nat.reduceEqDiff, Bool.false_eq_true, Bool.not_true, Bool.not_false, flat, binAV, binInt, gint, List.length_map, *]; rfl); rfl; rfl)
    | ((with_reducible first | apply wpOps_undef | apply wpDraw_undef)
       · simp only [upd_ap, reduceIte, Nat.reduceEqDiff]; done)
    | ((with_reducible first | apply wpOps_test | apply wp_test | apply draw_test); (simp only [Eo.evF, upd_ap, reduceIte, Nat.reduceEqDiff, Bool.false_eq_true, Bool.not_true, Bool.not_false, flat, binAV, binInt, gint, List.length_map, *]; rfl))
    | (with_reducible apply testK_mk
       all_goals (intro hb; try simp only [Bool.not_true, Bool.not_false, Bool.not_eq_true', Bool.not_eq_false'] at hb)))
    exact h1 _ _ rfl hrow
  | succ m ih =>
    intro k v s hk hb hrow h1
    have hki : decide ((k : Int) < ((12 : Nat) : Int)) = true := by simp; omega
    obtain ⟨g, hg, _⟩ := get_ex (l := groupsL) (k := k) (by simp [groupsL]; omega)
    have hg' := map_get (f := encG) hg
    have hno := List.any_eq_false.1 hmiss g (List.mem_of_getElem? hg)
    obtain ⟨f, n, c, d⟩ := g
    simp only [inG, Bool.not_eq_true, Bool.and_eq_false_iff, decide_eq_false_iff_not] at hno
    have hn : n < 20 := by
      have : ∀ g ∈ groupsL, g.2.1 < 20 := by decide
      exact this _ (List.mem_of_getElem? hg)
    have hf : 0 ≤ f ∧ f < 200 := by
      have : ∀ g ∈ groupsL, 0 ≤ g.1 ∧ g.1 < 200 := by decide
      exact this _ (List.mem_of_getElem? hg)
    have hw2 : IntKind.i64.wrap ((k : Int) + 1) = ((k + 1 : Nat) : Int) := by rw [IntKind.wrap_i64]; omega
    have ih := fun v s' => ih (k + 1) v s' (by omega)
    have hne : b ≠ s.nx := by omega
    simp only [encG] at hg'
    have hfin : ∀ cs, rowH (((s.H.set s.nx (.cells [K 0, K 0, K 0, K 0] 4 383))).set s.nx (.cells cs 4 383)) b = some ([K 0, K 0, K 0, K 0], 4, 383) := fun cs => by
      rw [rowH_ne hne, rowH_ne hne]; exact hrow
    refine lp ?_
    simp only [setAll, body117, e117]
    cases hge : decide (op ≥ f) with
    | false =>
      clear hk hmiss hno hg hn hf hop hrow
      repeat' (first
      | with_reducible refine Red.go ?_
      | with_reducible refine wp_draw ?_
      | ((with_reducible apply blkK_pass); rfl)
      | ((with_reducible first | apply wpOps_dry | apply wpOps_wet | apply wpOps_wet0 | apply wpDraw_dry); (simp only [evDryF, evWetF, St.new, Nat.reduceAdd, Nat.zero_add, Nat.add_zero, Eo.evF, upd_ap, reduceIte, Nat.reduceEqDiff, Bool.false_eq_true, Bool.not_true, Bool.not_false, flat, binAV, binInt, gint, List.length_map, natOf_cast, row_rowH, rowH_set, Nat.zero_le, *]; rfl))
      | ((with_reducible apply wpDraw_load); (simp only [Eo.evF, upd_ap, reduceIte, Nat.reduceEqDiff, Bool.false_eq_true, Bool.not_true, Bool.not_false, flat, binAV, binInt, gint, List.length_map, natOf_cast, row_rowH, rowH_set, Nat.zero_le, *]; rfl); rfl; rfl)
      | ((with_reducible first | apply wpOps_undef | apply wpDraw_undef)
         · simp only [upd_ap, reduceIte, Nat.reduceEqDiff]; done)
      | ((with_reducible first | apply wpOps_test | apply wp_test | apply draw_test); (simp only [Eo.evF, upd_ap, reduceIte, Nat.reduceEqDiff, Bool.false_eq_true, Bool.not_true, Bool.not_false, flat, binAV, binInt, gint, List.length_map, natOf_cast, row_rowH, rowH_set, Nat.zero_le, *]; rfl))
      | (with_reducible apply testK_mk
         all_goals (intro hb; try simp only [Bool.not_true, Bool.not_false, Bool.not_eq_true', Bool.not_eq_false'] at hb)))
      refine lpK_nrm ?_
      exact rebase (L := [(0, K op), (2, .ptr b 0), (7, .lst (groupsL.map encG)), (8, K (12 : Nat)), (9, K (k + 1 : Nat))]) ⟨rfl, rfl, rfl, rfl, rfl, trivial⟩ (ih _ _ (by show b < s.nx + 1; omega) (hfin _) h1)
    | true =>
      have hlt : decide (IntKind.i64.wrap (op - f) < (n : Int)) = false := by
        obtain ⟨h1, h2⟩ := hop
        rw [IntKind.wrap_i64]
        simp at hge ⊢
        omega
      clear hk hmiss hno hg hn hf hop hrow
      repeat' (first
      | with_reducible refine Red.go ?_
      | with_reducible refine wp_draw ?_
      | ((with_reducible apply blkK_pass); rfl)
      | ((with_reducible first | apply wpOps_dry | apply wpOps_wet | apply wpOps_wet0 | apply wpDraw_dry); (simp only [evDryF, evWetF, St.new, Nat.reduceAdd, Nat.zero_add, Nat.add_zero, Eo.evF, upd_ap, reduceIte, Nat.reduceEqDiff, Bool.false_eq_true, Bool.not_true, Bool.not_false, flat, binAV, binInt, gint, List.length_map, natOf_cast, row_rowH, rowH_set, Nat.zero_le, *]; rfl))
      | ((with_reducible apply wpDraw_load); (simp only [Eo.evF, upd_ap, reduceIte, Nat.reduceEqDiff, Bool.false_eq_true, Bool.not_true, Bool.not_false, flat, binAV, binInt, gint, List.length_map, natOf_cast, row_rowH, rowH_set, Nat.zero_le, *]; rfl); rfl; rfl)
      | ((with_reducible first | apply wpOps_undef | apply wpDraw_undef)
         · simp only [upd_ap, reduceIte, Nat.reduceEqDiff]; done)
      | ((with_reducible first | apply wpOps_test | apply wp_test | apply draw_test); (simp only [Eo.evF, upd_ap, reduceIte, Nat.reduceEqDiff, Bool.false_eq_true, Bool.not_true, Bool.not_false, flat, binAV, binInt, gint, List.length_map, natOf_cast, row_rowH, rowH_set, Nat.zero_le, *]; rfl))
      | (with_reducible apply testK_mk
         all_goals (intro hb; try simp only [Bool.not_true, Bool.not_false, Bool.not_eq_true', Bool.not_eq_false'] at hb)))
      refine lpK_nrm ?_
      exact rebase (L := [(0, K op), (2, .ptr b 0), (7, .lst (groupsL.map encG)), (8, K (12 : Nat)), (9, K (k + 1 : Nat))]) ⟨rfl, rfl, rfl, rfl, rfl, trivial⟩ (ih _ _ (by show b < s.nx + 1; omega) (hfin _) h1)
theorem t117n (E : Env) (h : E.fns 117 = some e117) (h145 : ToldBy E 145 q145) (op : Int) (hop : word op) (hmiss : groupsL.any (inG · op) = false) (s : St) (KK : AV → St → Prop) (hk : ∀ s', KK (.tup [.agg [K 0, K 0, K 0, K 0], K 0, .bool false]) s') : AnsK E 0 117 [K op] s KK := by
  refine fn_run h rfl rfl (plOf_args0 ..) ?_
  simp only [argPl, e117]
  have hl : (groupsL.map encG).length = 12 := rfl
  have q : q145 [] = some (.lst (groupsL.map encG)) := rfl
  repeat' (first
  | with_reducible refine Red.go ?_
  | with_reducible refine wp_draw ?_
  | ((with_reducible apply blkK_pass); rfl)
  | ((with_reducible first | apply wpOps_dry | apply wpOps_wet | apply wpOps_wet0 | apply wpDraw_dry); (simp only [evDryF, evWetF, St.new, Nat.reduceAdd, Nat.zero_add, Nat.add_zero, Eo.evF, upd_ap, reduceIte, Nat.reduceEqDiff, Bool.false_eq_true, Bool.not_true, Bool.not_false, flat, binAV, binInt, gint, *]; rfl))
  | ((with_reducible apply wpDraw_load); (simp only [Eo.evF, upd_ap, reduceIte, Nat.reduceEqDiff, Bool.false_eq_true, Bool.not_true, Bool.not_false, flat, binAV, binInt, gint, *]; rfl); rfl; rfl)
  | ((with_reducible first | apply wpOps_undef | apply wpDraw_undef)
     · simp only [upd_ap, reduceIte, Nat.reduceEqDiff]; done)
  | ((with_reducible first | apply wpOps_told | apply wpDraw_told); assumption; (simp only [evsF, List.map_cons, List.map_nil, Eo.evF, upd_ap, reduceIte, Nat.reduceEqDiff, Bool.false_eq_true, Bool.not_true, Bool.not_false, flat, binAV, binInt, gint, *]; rfl); first | (simp only [q]; rfl) | assumption)
  | ((with_reducible first | apply wpOps_test | apply wp_test | apply draw_test); (simp only [Eo.evF, upd_ap, reduceIte, Nat.reduceEqDiff, Bool.false_eq_true, Bool.not_true, Bool.not_false, flat, binAV, binInt, gint, *]; rfl))
  | (with_reducible apply testK_mk
     all_goals (intro hb; try simp only [Bool.not_true, Bool.not_false, Bool.not_eq_true', Bool.not_eq_false'] at hb)))
  refine wp_loop (rebase (L := [(0, K op), (2, .ptr s.nx 0), (7, .lst (groupsL.map encG)), (8, K (12 : Nat)), (9, K (0 : Nat))]) ⟨rfl, rfl, rfl, rfl, rfl, trivial⟩ (loop117 E op hop hmiss s.nx _ 12 0 _ _ rfl (Nat.lt_succ_self _) (rowH_set ..) (fun env s' e2 hrow => ?_)))
  repeat' (first
  | with_reducible refine Red.go ?_
  | with_reducible refine wp_draw ?_
  | ((with_reducible apply blkK_pass); rfl)
  | ((with_reducible first | apply wpOps_dry | apply wpOps_wet | apply wpOps_wet0 | apply wpDraw_dry); (simp only [evDryF, evWetF, St.new, Nat.reduceAdd, Nat.zero_add, Nat.add_zero, Eo.evF, upd_ap, reduceIte, Nat.reduceEqDiff, Bool.false_eq_true, Bool.not_true, Bool.not_false, flat, row_rowH, rowH_set, Nat.zero_le, *]; rfl))
  | ((with_reducible apply wpDraw_load); (simp only [Eo.evF, upd_ap, reduceIte, Nat.reduceEqDiff, Bool.false_eq_true, Bool.not_true, Bool.not_false, flat, row_rowH, rowH_set, Nat.zero_le, *]; rfl); rfl; rfl)
  | ((with_reducible first | apply wpOps_undef | apply wpDraw_undef)
     · simp only [upd_ap, reduceIte, Nat.reduceEqDiff]; done)
  | ((with_reducible first | apply wpOps_test | apply wp_test | apply draw_test); (simp only [Eo.evF, upd_ap, reduceIte, Nat.reduceEqDiff, Bool.false_eq_true, Bool.not_true, Bool.not_false, flat, row_rowH, rowH_set, Nat.zero_le, *]; rfl))
  | (with_reducible apply testK_mk
     all_goals (intro hb; try simp only [Bool.not_true, Bool.not_false, Bool.not_eq_true', Bool.not_eq_false'] at hb)))
  refine fnK_ret (vs := [.agg [K 0, K 0, K 0, K 0], K 0, .bool false]) ?_ (hk _)
  simp only [resAllF, resOfF, upd_ap, reduceIte, Nat.reduceEqDiff, e2, row_rowH, rowH_set]
  rfl
theorem t81 (E : Env) (h : E.fns 81 = some { e81 with pure := true }) (h117 : E.fns 117 = some e117) (h145 : ToldBy E 145 q145) (hk : ∀ op ∈ sigKeys, AnsK E 0 81 [K op] s0 (ans (sigV op))) (op : Int) (hop : word op) : AnsK E 0 81 [K op] s0 (ans (sigV op)) := by
  cases hm : groupsL.any (inG · op) with
  | true => exact hk op (hit_key hm)
  | false =>
    rw [miss_sigV hm]
    refine fn_frz h rfl rfl (plOf_args0 ..) (rfl : s0.nx = 0) ?_
    simp only [argPl, e81]
    repeat' (first
    | with_reducible refine Red.go ?_
    | with_reducible refine wp_draw ?_
    | ((with_reducible apply blkK_pass); rfl)
    | ((with_reducible first | apply wpOps_dry | apply wpOps_wet | apply wpOps_wet0 | apply wpDraw_dry); (simp only [evDryF, evWetF, St.new, Nat.reduceAdd, Nat.zero_add, Nat.add_zero, Eo.evF, upd_ap, reduceIte, Nat.reduceEqDiff, Bool.false_eq_true, Bool.not_true, Bool.not_false, flat, *]; rfl))
    | ((with_reducible apply wpDraw_load); (simp only [Eo.evF, upd_ap, reduceIte, Nat.reduceEqDiff, Bool.false_eq_true, Bool.not_true, Bool.not_false, flat, *]; rfl); rfl; rfl)
    | ((with_reducible first | apply wpOps_undef | apply wpDraw_undef)
       · simp only [upd_ap, reduceIte, Nat.reduceEqDiff]; done)
    | ((with_reducible first | apply wpOps_test | apply wp_test | apply draw_test); (simp only [Eo.evF, upd_ap, reduceIte, Nat.reduceEqDiff, Bool.false_eq_true, Bool.not_true, Bool.not_false, flat, *]; rfl))
    | (with_reducible apply testK_mk
       all_goals (intro hb; try simp only [Bool.not_true, Bool.not_false, Bool.not_eq_true', Bool.not_eq_false'] at hb)))
    refine wpOps_call (g := 117) (a := []) (b := []) (x := [K op]) rfl rfl ?_
    refine callK_run h117 rfl (t117n E h117 h145 op hop hm _ _ fun s' => ?_)
    clear hm
    repeat' (first
    | with_reducible refine Red.go ?_
    | with_reducible refine wp_draw ?_
    | ((with_reducible apply blkK_pass); rfl)
    | ((with_reducible first | apply wpOps_dry | apply wpOps_wet | apply wpOps_wet0 | apply wpDraw_dry); (simp only [evDryF, evWetF, St.new, Nat.reduceAdd, Nat.zero_add, Nat.add_zero, Eo.evF, upd_ap, reduceIte, Nat.reduceEqDiff, Bool.false_eq_true, Bool.not_true, Bool.not_false, flat, row_rowH, rowH_set, Nat.zero_le, *]; rfl))
    | ((with_reducible apply wpDraw_load); (simp only [Eo.evF, upd_ap, reduceIte, Nat.reduceEqDiff, Bool.false_eq_true, Bool.not_true, Bool.not_false, flat, row_rowH, rowH_set, Nat.zero_le, *]; rfl); rfl; rfl)
    | ((with_reducible first | apply wpOps_undef | apply wpDraw_undef)
       · simp only [upd_ap, reduceIte, Nat.reduceEqDiff]; done)
    | ((with_reducible first | apply wpOps_test | apply wp_test | apply draw_test); (simp only [Eo.evF, upd_ap, reduceIte, Nat.reduceEqDiff, Bool.false_eq_true, Bool.not_true, Bool.not_false, flat, row_rowH, rowH_set, Nat.zero_le, *]; rfl))
    | (with_reducible apply testK_mk
       all_goals (intro hb; try simp only [Bool.not_true, Bool.not_false, Bool.not_eq_true', Bool.not_eq_false'] at hb)))
    refine fnK_three ?_
    refine frzK_mk (v' := .tup [.nils, K 0, .bool false]) ?_ rfl
    simp only [upd_ap, reduceIte, Nat.reduceEqDiff]
    rfl
def q81 : List AV → Option AV
  | [.int .i64 op] => if -9223372036854775808 ≤ op ∧ op < 9223372036854775808 then some (sigV op) else none
  | _ => none
theorem q81_eq {op : Int} (h : word op) : q81 [.int .i64 op] = some (sigV op) := by
  simp only [q81]
  exact if_pos h
end Go.Ev.Lc
/- LowerChecks, the program's side: the shapes of instructions. -/
namespace Go.Ev.Lc
open Go.Ev.Tab
set_option maxRecDepth 100000
set_option linter.all false

/-! ### accesses -/
abbrev encA (k t w : Int) (st sg : Bool) : AV × AV := (K k, .agg [K t, K w, .bool st, .bool sg])
def accsL : List (AV × AV) := [encA 40 127 4 false false, encA 41 126 8 false false, encA 44 127 1 false true, encA 45 127 1 false false, encA 46 127 2 false true, encA 47 127 2 false false, encA 48 126 1 false true, encA 49 126 1 false false, encA 50 126 2 false true, encA 51 126 2 false false, encA 52 126 4 false true, encA 53 126 4 false false, encA 54 127 4 true false, encA 55 126 8 true false, encA 58 127 1 true false, encA 59 127 2 true false, encA 60 126 1 true false, encA 61 126 2 true false, encA 62 126 4 true false]
def sAcc : St := ⟨.nd .lf (some (.map accsL)) .lf, 1⟩
theorem t146 (E : Env) (h : E.fns 146 = some e146) (KK : AV → St → Prop) (hk : KK (.mp 0) sAcc) : AnsK E 0 146 [] s0 KK := by
  refine ⟨100, .mp 0, sAcc, ?_, hk⟩
  simp only [callF, h]
  kernel_rfl
theorem mfind_miss {op : Int} (h : unaccKeys.contains op = false) : mfind (K op) accsL = some none := by
  simp [unaccKeys] at h
  obtain ⟨h1, h2, h3, h4, h5, h6, h7, h8, h9, h10, h11, h12, h13, h14, h15, h16, h17, h18, h19⟩ := h
  have g1 : (op == 40) = false := by simp [h1]
  have g2 : (op == 44) = false := by simp [h2]
  have g3 : (op == 45) = false := by simp [h3]
  have g4 : (op == 46) = false := by simp [h4]
  have g5 : (op == 47) = false := by simp [h5]
  have g6 : (op == 54) = false := by simp [h6]
  have g7 : (op == 58) = false := by simp [h7]
  have g8 : (op == 59) = false := by simp [h8]
  have g9 : (op == 41) = false := by simp [h9]
  have g10 : (op == 48) = false := by simp [h10]
  have g11 : (op == 49) = false := by simp [h11]
  have g12 : (op == 50) = false := by simp [h12]
  have g13 : (op == 51) = false := by simp [h13]
  have g14 : (op == 52) = false := by simp [h14]
  have g15 : (op == 53) = false := by simp [h15]
  have g16 : (op == 55) = false := by simp [h16]
  have g17 : (op == 60) = false := by simp [h17]
  have g18 : (op == 61) = false := by simp [h18]
  have g19 : (op == 62) = false := by simp [h19]
  simp only [accsL, mfind, keyEq, if_true, g1, g2, g3, g4, g5, g6, g7, g8, g9, g10, g11, g12, g13, g14, g15, g16, g17, g18, g19]
theorem t118n (E : Env) (h : E.fns 118 = some e118) (h146 : E.fns 146 = some e146) (op : Int) (hop : unaccKeys.contains op = false) : AnsK E 0 118 [K op] s0 (ans (accV op)) := by
  refine fn_run h rfl rfl (plOf_args0 ..) ?_
  rw [acc_none hop]
  have hm := mfind_miss hop
  have hs : sAcc.H.get 0 = some (.map accsL) := rfl
  clear hop
  simp only [argPl, e118]
  repeat' (first
  | with_reducible refine Red.go ?_
  | with_reducible refine wp_draw ?_
  | ((with_reducible apply blkK_pass); rfl)
  | ((with_reducible first | apply wpOps_dry | apply wpOps_wet | apply wpOps_wet0 | apply wpDraw_dry); (simp only [evDryF, evWetF, St.new, Nat.reduceAdd, Nat.zero_add, Nat.add_zero, Eo.evF, upd_ap, reduceIte, Nat.reduceEqDiff, Bool.false_eq_true, Bool.not_true, Bool.not_false, flat, *]; rfl))
  | ((with_reducible apply wpDraw_load); (simp only [Eo.evF, upd_ap, reduceIte, Nat.reduceEqDiff, Bool.false_eq_true, Bool.not_true, Bool.not_false, flat, *]; rfl); rfl; rfl)
  | ((with_reducible first | apply wpOps_undef | apply wpDraw_undef)
     · simp only [upd_ap, reduceIte, Nat.reduceEqDiff]; done)
  | ((with_reducible first | apply wpOps_test | apply wp_test | apply draw_test); (simp only [Eo.evF, upd_ap, reduceIte, Nat.reduceEqDiff, Bool.false_eq_true, Bool.not_true, Bool.not_false, flat, *]; rfl))
  | (with_reducible apply testK_mk
     all_goals (intro hb; try simp only [Bool.not_true, Bool.not_false, Bool.not_eq_true', Bool.not_eq_false'] at hb)))
  refine wpOps_call (g := 146) (a := []) (b := []) (x := []) rfl rfl ?_
  refine callK_run h146 rfl (t146 E h146 _ ?_)
  repeat' (first
  | with_reducible refine Red.go ?_
  | with_reducible refine wp_drawR ?_
  | ((with_reducible apply blkK_pass); rfl)
  | ((with_reducible first | apply dr_load | apply dr_wet | apply dr_wet0); (simp only [evDryF, evWetF, St.new, Nat.reduceAdd, Nat.zero_add, Nat.add_zero, Eo.evF, upd_ap, reduceIte, Nat.reduceEqDiff, Bool.false_eq_true, Bool.not_true, Bool.not_false, flat, plainKey, List.nil_append, List.append_nil, row_rowH, rowH_set, Nat.zero_le, if_true, *]; rfl); rfl)
  | ((with_reducible first | apply wpOps_dry | apply wpOps_wet | apply wpOps_wet0 | apply dr_dry); (simp only [evDryF, evWetF, St.new, Nat.reduceAdd, Nat.zero_add, Nat.add_zero, Eo.evF, upd_ap, reduceIte, Nat.reduceEqDiff, Bool.false_eq_true, Bool.not_true, Bool.not_false, flat, plainKey, List.nil_append, List.append_nil, row_rowH, rowH_set, Nat.zero_le, if_true, *]; rfl))
  | ((with_reducible first | apply wpOps_undef | apply dr_undef)
     · simp only [upd_ap, reduceIte, Nat.reduceEqDiff]; done)
  | ((with_reducible first | apply wpOps_test | apply wp_test | apply dr_test); (simp only [Eo.evF, upd_ap, reduceIte, Nat.reduceEqDiff, Bool.false_eq_true, Bool.not_true, Bool.not_false, flat, plainKey, List.nil_append, List.append_nil, row_rowH, rowH_set, Nat.zero_le, if_true, *]; rfl))
  | (with_reducible apply testK_mk
     all_goals (intro hb; try simp only [Bool.not_true, Bool.not_false, Bool.not_eq_true', Bool.not_eq_false'] at hb)))
  refine fnK_four ?_
  simp [ans, upd_ap]
theorem t118 (E : Env) (h : E.fns 118 = some e118) (h146 : E.fns 146 = some e146) (hk : ∀ op ∈ unaccKeys, AnsK E 0 118 [K op] s0 (ans (accV op))) (op : Int) : AnsK E 0 118 [K op] s0 (ans (accV op)) := by
  cases hop : unaccKeys.contains op with
  | false => exact t118n E h h146 op hop
  | true => exact hk op (List.contains_iff_mem.1 hop)

/-! ### shapes -/
abbrev shp (a b : AV) (m f t : Int) (c : Bool) : AV := .tup [.agg [a, b, .int .u64 m, K f, K t], .bool c]
def memV (op : Int) (there : Bool) : AV :=
  if (op == 257) = true then shp (ints [127]) .nils 8589934592 0 0 there
  else if (op == 63) = true then shp .nils (ints [127]) 0 0 0 there
  else if (op == 64) = true then shp (ints [127]) (ints [127]) 0 0 0 there
  else if (accT op == 0) = false then
    (if decide (op ≥ 54) = true then shp (ints [127, accT op]) .nils 4294967295 0 0 there else shp (ints [127]) (ints [accT op]) 4294967295 0 0 there)
  else shp .nils .nils 0 0 0 false
set_option maxHeartbeats 4000000 in
theorem t82 (E : Env) (h : E.fns 82 = some { e82 with pure := true }) (h118 : ToldBy E 118 q120) (op : Int) (there : Bool) : AnsK E 0 82 [K op, .bool there] s0 (ans (memV op there)) := by
  have q2 : ∀ c, (accT op == 0) = c → q120 [.int .i64 op] = some (if c = true then .tup [K 0, K 0, .bool false, .bool false] else .tup [K (accT op), K (accW op), .bool (decide (op ≥ 54)), .bool true]) := by
    intro c hc
    rw [q120_eq, accV, hc]
  refine fn_frz h rfl rfl (plOf_args0 ..) (rfl : s0.nx = 0) ?_
  simp only [argPl, e82]
  cases h3 : (accT op == 0)
  all_goals
    have q2 := q2 _ h3
    simp only [Bool.false_eq_true, if_false, if_true] at q2
    repeat' (first
    | with_reducible refine Red.go ?_
    | ((with_reducible apply blkK_pass); rfl)
    | ((with_reducible first | apply wpOps_dry | apply wpOps_wet | apply wpOps_wet0); (simp only [evDryF, evWetF, St.new, Nat.reduceAdd, Nat.zero_add, Nat.add_zero, Eo.evF, upd_ap, reduceIte, Nat.reduceEqDiff, Bool.false_eq_true, Bool.not_true, Bool.not_false, flat, Nat.zero_le, *]; rfl))
    | ((with_reducible apply wpOps_undef)
       · simp only [upd_ap, reduceIte, Nat.reduceEqDiff]; done)
    | ((with_reducible apply wpOps_told); assumption; (simp only [evsF, List.map_cons, List.map_nil, Eo.evF, upd_ap, reduceIte, Nat.reduceEqDiff, Bool.false_eq_true, Bool.not_true, Bool.not_false, flat, Nat.zero_le, *]; rfl); first | (simp only [q2]; rfl) | assumption)
    | ((with_reducible first | apply wpOps_test | apply wp_test); (simp only [Eo.evF, upd_ap, reduceIte, Nat.reduceEqDiff, Bool.false_eq_true, Bool.not_true, Bool.not_false, flat, Nat.zero_le, *]; rfl))
    | (with_reducible apply testK_mk
       all_goals (intro hb; try simp only [Bool.not_true, Bool.not_false, Bool.not_eq_true', Bool.not_eq_false'] at hb)))
    all_goals
      refine fnK_ret (by simp only [resAllF, resOfF, upd_ap, reduceIte, Nat.reduceEqDiff]; rfl) ?_
      refine frzK_mk (v' := memV op there) ?_ rfl
      simp only [memV, upd_ap, reduceIte, Nat.reduceEqDiff, Bool.false_eq_true, Bool.true_eq_false, Bool.or_true, Bool.or_false, Bool.true_or, Bool.false_or, if_true, if_false, *]
      kernel_rfl
def q82 : List AV → Option AV
  | [.int .i64 op, .bool b] => some (memV op b)
  | _ => none
theorem q82_eq (op : Int) (b : Bool) : q82 [.int .i64 op, .bool b] = some (memV op b) := rfl
end Go.Ev.Lc
