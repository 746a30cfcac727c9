/- What the functions of the two Checks answer, by steps through their code. -/
import Derived.Test.YtkalflplonnhmaaGreatDoorLcC
import Derived.KernelRfl
set_option linter.all false
/- LowerChecks, the program's side: the shape of an instruction. -/
namespace Go.Ev.Lc
open Go.Ev.Tab
set_option maxRecDepth 100000
set_option linter.all false

def ShpS (v : AV) : Prop := ∃ a b m f t c, v = shp (niI a) (niI b) m f t c
theorem shpS_ite {p : Prop} [Decidable p] {x y : AV} (hx : ShpS x) (hy : ShpS y) : ShpS (if p then x else y) := by
  split <;> assumption
theorem shpS00 (m f t : Int) (c : Bool) : ShpS (shp .nils .nils m f t c) := ⟨none, none, m, f, t, c, rfl⟩
theorem shpS10 (a : List Int) (m f t : Int) (c : Bool) : ShpS (shp (ints a) .nils m f t c) := ⟨some a, none, m, f, t, c, rfl⟩
theorem shpS01 (b : List Int) (m f t : Int) (c : Bool) : ShpS (shp .nils (ints b) m f t c) := ⟨none, some b, m, f, t, c, rfl⟩
theorem shpS11 (a b : List Int) (m f t : Int) (c : Bool) : ShpS (shp (ints a) (ints b) m f t c) := ⟨some a, some b, m, f, t, c, rfl⟩
theorem memV_shape (op : Int) (there : Bool) : ShpS (memV op there) := by
  unfold memV
  repeat' (first
    | exact shpS00 ..
    | exact shpS10 ..
    | exact shpS01 ..
    | exact shpS11 ..
    | refine shpS_ite ?_ ?_)
def shapeV (e : Env') (s : Sig) (op n : Int) : AV :=
  if (op == 256) = true then shp .nils (ints [0]) 18446744073709551615 0 0 true
  else if (op == 272) = true then shp (ints [0]) (ints [0]) 0 0 0 true
  else if (op == 273) = true then shp .nils .nils 0 1 1 true
  else if (op == 274) = true then shp (ints [127]) .nils 0 1 1 true
  else if (op == 275) = true then shp (ints [127]) .nils 0 1 65 true
  else if (op == 276) = true then shp (ints s.out) .nils 0 0 0 true
  else if (op == 277 || op == 258) = true then shp .nils .nils 0 0 0 true
  else if (op == 27) = true then shp (ints [0, 0, 127]) (ints [0]) 0 0 0 true
  else if (op == 16) = true then
    (if decide (n < (e.sigs.length : Int)) = true then match e.sigs[n.toNat]? with
     | some x => shp (ints x.inp) (ints x.out) n 0 0 true
     | none => shp .nils .nils 0 0 0 false else shp .nils .nils 0 0 0 false)
  else if (op == 35 || op == 36) = true then
    (if decide (n ≥ (e.globals.length : Int)) = true then shp .nils .nils 0 0 0 false else match e.globals[n.toNat]?, e.muts[n.toNat]? with
     | some g, some m => if (op == 35) = true then shp .nils (ints [g]) n 0 0 true else shp (ints [g]) .nils n 0 0 m
     | _, _ => shp .nils .nils 0 0 0 false)
  else if (ofF op == 0) = false then shp (if unaryB op = true then ints [ofF op] else ints [ofF op, ofF op]) (ints [outF op]) 0 0 0 true
  else memV op e.mem
theorem shapeV_shape (e : Env') (s : Sig) (op n : Int) : ShpS (shapeV e s op n) := by
  unfold shapeV
  cases hu : unaryB op
  all_goals
    simp only [Bool.false_eq_true, if_false, if_true]
    repeat' (first
      | exact memV_shape ..
      | exact shpS00 ..
      | exact shpS10 ..
      | exact shpS01 ..
      | exact shpS11 ..
      | refine shpS_ite ?_ ?_
      | split)
set_option maxHeartbeats 8000000 in
theorem t54 (E : Env) (h : E.fns 54 = some { e54 with pure := true }) (h81 : ToldBy E 81 q81) (h82 : ToldBy E 82 q82) (e : Env') (hs : envShort e = true) (hm : e.muts.length = e.globals.length)
    (s : Sig) (op : Int) (hop : word op) (n : Nat) : AnsK E 0 54 [encEnv e, encSig s, K op, .int .u64 n] s0 (ans (shapeV e s op n)) := by
  obtain ⟨s1, s2, s3, s4⟩ := envShort_and hs
  have w1 : IntKind.u64.wrap (e.globals.length : Int) = e.globals.length := by have := short_lt s2; simp [IntKind.wrap, IntKind.bits, IntKind.signed]; omega
  have w2 : IntKind.u64.wrap (e.sigs.length : Int) = e.sigs.length := by have := short_lt s1; simp [IntKind.wrap, IntKind.bits, IntKind.signed]; omega
  refine fn_frz h rfl rfl (plOf_args0 ..) (rfl : s0.nx = 0) ?_
  simp only [argPl, e54]
  clear s1 s2 s3 s4 hs
  have hm' := hm
  have hop' := hop
  clear hm hop
  repeat' (first
  | with_reducible refine Red.go ?_
  | with_reducible refine wp_drawG' ?_
  | ((with_reducible apply blkK_pass); rfl)
  | ((with_reducible apply gd_nil); rfl)
  | ((with_reducible apply gd_dry); (simp only [evDryF, evWetF, St.new, Nat.reduceAdd, Nat.zero_add, Nat.add_zero, Eo.evF, upd_ap, reduceIte, Nat.reduceEqDiff, Bool.false_eq_true, Bool.not_true, Bool.not_false, flat, binAV, binInt, gint, List.length_map, Nat.zero_le, *]; rfl); kernel_rfl)
  | ((with_reducible first | apply gd_wet | apply gd_wet0); (simp only [footOfF, Eo.evF, upd_ap, reduceIte, Nat.reduceEqDiff]; rfl); kernel_rfl; (simp only [evWetF, Nat.reduceAdd, Eo.evF, upd_ap, reduceIte, Nat.reduceEqDiff, Bool.false_eq_true, Bool.not_true, Bool.not_false, flat, binAV, binInt, gint, List.length_map, Nat.zero_le, *]; rfl); kernel_rfl; rfl)
  | ((with_reducible first | apply gd_wetW | apply gd_wetW0); (simp only [evWetF, Nat.reduceAdd, Eo.evF, upd_ap, reduceIte, Nat.reduceEqDiff, Bool.false_eq_true, Bool.not_true, Bool.not_false, flat, binAV, binInt, gint, List.length_map, Nat.zero_le, *]; rfl); kernel_rfl)
  | ((with_reducible first | apply wpOps_dry | apply wpOps_wet | apply wpOps_wet0); (simp only [evDryF, evWetF, St.new, Nat.reduceAdd, Nat.zero_add, Nat.add_zero, Eo.evF, upd_ap, reduceIte, Nat.reduceEqDiff, Bool.false_eq_true, Bool.not_true, Bool.not_false, flat, binAV, binInt, gint, List.length_map, Nat.zero_le, *]; rfl))
  | ((with_reducible apply wpOps_undef)
     · simp only [upd_ap, reduceIte, Nat.reduceEqDiff]; done)
  | ((with_reducible first | apply wpOps_test | apply wp_test); (simp only [Eo.evF, upd_ap, reduceIte, Nat.reduceEqDiff, Bool.false_eq_true, Bool.not_true, Bool.not_false, flat, binAV, binInt, gint, List.length_map, Nat.zero_le, *]; rfl))
  | (with_reducible apply testK_mk
     all_goals (intro hb; try simp only [Bool.not_true, Bool.not_false, Bool.not_eq_true', Bool.not_eq_false'] at hb)))
  all_goals first
    | (refine fnK_ret (by simp only [resAllF, resOfF, upd_ap, reduceIte, Nat.reduceEqDiff]; rfl) ?_
       refine frzK_mk (v' := shapeV e s op n) ?_ rfl
       simp only [shapeV, upd_ap, reduceIte, Nat.reduceEqDiff, Bool.false_eq_true, Bool.true_eq_false, Bool.or_true, Bool.or_false, Bool.true_or, Bool.false_or, if_true, if_false, Int.toNat_natCast, *]
       kernel_rfl
       done)
    | skip
  · have hlt : n < e.sigs.length := by simp at hb; omega
    obtain ⟨sx, hsx, _⟩ := get_ex (l := e.sigs) (k := n) hlt
    have hs' := map_get (f := encSig) hsx
    clear hm' hlt
    repeat' (first
    | with_reducible refine Red.go ?_
    | with_reducible refine wp_drawG' ?_
    | ((with_reducible apply blkK_pass); rfl)
    | ((with_reducible apply gd_nil); rfl)
    | ((with_reducible apply gd_dry); (simp only [evDryF, evWetF, St.new, Nat.reduceAdd, Nat.zero_add, Nat.add_zero, Eo.evF, upd_ap, reduceIte, Nat.reduceEqDiff, Bool.false_eq_true, Bool.not_true, Bool.not_false, flat, binAV, binInt, gint, List.length_map, natOf_cast, Nat.zero_le, *]; rfl); kernel_rfl)
    | ((with_reducible first | apply gd_wet | apply gd_wet0); (simp only [footOfF, Eo.evF, upd_ap, reduceIte, Nat.reduceEqDiff]; rfl); kernel_rfl; (simp only [evWetF, Nat.reduceAdd, Eo.evF, upd_ap, reduceIte, Nat.reduceEqDiff, Bool.false_eq_true, Bool.not_true, Bool.not_false, flat, binAV, binInt, gint, List.length_map, natOf_cast, Nat.zero_le, *]; rfl); kernel_rfl; rfl)
    | ((with_reducible first | apply gd_wetW | apply gd_wetW0); (simp only [evWetF, Nat.reduceAdd, Eo.evF, upd_ap, reduceIte, Nat.reduceEqDiff, Bool.false_eq_true, Bool.not_true, Bool.not_false, flat, binAV, binInt, gint, List.length_map, natOf_cast, Nat.zero_le, *]; rfl); kernel_rfl)
    | ((with_reducible first | apply wpOps_dry | apply wpOps_wet | apply wpOps_wet0); (simp only [evDryF, evWetF, St.new, Nat.reduceAdd, Nat.zero_add, Nat.add_zero, Eo.evF, upd_ap, reduceIte, Nat.reduceEqDiff, Bool.false_eq_true, Bool.not_true, Bool.not_false, flat, binAV, binInt, gint, List.length_map, natOf_cast, Nat.zero_le, *]; rfl))
    | ((with_reducible apply wpOps_undef)
       · simp only [upd_ap, reduceIte, Nat.reduceEqDiff]; done)
    | ((with_reducible first | apply wpOps_test | apply wp_test); (simp only [Eo.evF, upd_ap, reduceIte, Nat.reduceEqDiff, Bool.false_eq_true, Bool.not_true, Bool.not_false, flat, binAV, binInt, gint, List.length_map, natOf_cast, Nat.zero_le, *]; rfl))
    | (with_reducible apply testK_mk
       all_goals (intro hb; try simp only [Bool.not_true, Bool.not_false, Bool.not_eq_true', Bool.not_eq_false'] at hb)))
    all_goals
      refine fnK_ret (by simp only [resAllF, resOfF, upd_ap, reduceIte, Nat.reduceEqDiff]; rfl) ?_
      refine frzK_mk (v' := shapeV e s op n) ?_ rfl
      simp only [shapeV, upd_ap, reduceIte, Nat.reduceEqDiff, Bool.false_eq_true, Bool.true_eq_false, Bool.or_true, Bool.or_false, Bool.true_or, Bool.false_or, if_true, if_false, Int.toNat_natCast, *]
      kernel_rfl
  · have hlt : n < e.globals.length := by simp at hb; omega
    obtain ⟨gx, hgx, _⟩ := get_ex (l := e.globals) (k := n) hlt
    obtain ⟨mx, hmx, _⟩ := get_ex (l := e.muts) (k := n) (by omega)
    have hg' := map_get (f := fun n => AV.int .i64 n) hgx
    have hmx' := map_get (f := fun b => AV.bool b) hmx
    clear hm' hlt
    repeat' (first
    | with_reducible refine Red.go ?_
    | with_reducible refine wp_drawG' ?_
    | ((with_reducible apply blkK_pass); rfl)
    | ((with_reducible apply gd_nil); rfl)
    | ((with_reducible apply gd_dry); (simp only [evDryF, evWetF, St.new, Nat.reduceAdd, Nat.zero_add, Nat.add_zero, Eo.evF, upd_ap, reduceIte, Nat.reduceEqDiff, Bool.false_eq_true, Bool.not_true, Bool.not_false, flat, binAV, binInt, gint, List.length_map, natOf_cast, Nat.zero_le, *]; rfl); kernel_rfl)
    | ((with_reducible first | apply gd_wet | apply gd_wet0); (simp only [footOfF, Eo.evF, upd_ap, reduceIte, Nat.reduceEqDiff]; rfl); kernel_rfl; (simp only [evWetF, Nat.reduceAdd, Eo.evF, upd_ap, reduceIte, Nat.reduceEqDiff, Bool.false_eq_true, Bool.not_true, Bool.not_false, flat, binAV, binInt, gint, List.length_map, natOf_cast, Nat.zero_le, *]; rfl); kernel_rfl; rfl)
    | ((with_reducible first | apply gd_wetW | apply gd_wetW0); (simp only [evWetF, Nat.reduceAdd, Eo.evF, upd_ap, reduceIte, Nat.reduceEqDiff, Bool.false_eq_true, Bool.not_true, Bool.not_false, flat, binAV, binInt, gint, List.length_map, natOf_cast, Nat.zero_le, *]; rfl); kernel_rfl)
    | ((with_reducible first | apply wpOps_dry | apply wpOps_wet | apply wpOps_wet0); (simp only [evDryF, evWetF, St.new, Nat.reduceAdd, Nat.zero_add, Nat.add_zero, Eo.evF, upd_ap, reduceIte, Nat.reduceEqDiff, Bool.false_eq_true, Bool.not_true, Bool.not_false, flat, binAV, binInt, gint, List.length_map, natOf_cast, Nat.zero_le, *]; rfl))
    | ((with_reducible apply wpOps_undef)
       · simp only [upd_ap, reduceIte, Nat.reduceEqDiff]; done)
    | ((with_reducible first | apply wpOps_test | apply wp_test); (simp only [Eo.evF, upd_ap, reduceIte, Nat.reduceEqDiff, Bool.false_eq_true, Bool.not_true, Bool.not_false, flat, binAV, binInt, gint, List.length_map, natOf_cast, Nat.zero_le, *]; rfl))
    | (with_reducible apply testK_mk
       all_goals (intro hb; try simp only [Bool.not_true, Bool.not_false, Bool.not_eq_true', Bool.not_eq_false'] at hb)))
    all_goals
      refine fnK_ret (by simp only [resAllF, resOfF, upd_ap, reduceIte, Nat.reduceEqDiff]; rfl) ?_
      refine frzK_mk (v' := shapeV e s op n) ?_ rfl
      simp only [shapeV, upd_ap, reduceIte, Nat.reduceEqDiff, Bool.false_eq_true, Bool.true_eq_false, Bool.or_true, Bool.or_false, Bool.true_or, Bool.false_or, if_true, if_false, Int.toNat_natCast, *]
      kernel_rfl
  · have hlt : n < e.globals.length := by simp at hb; omega
    obtain ⟨gx, hgx, _⟩ := get_ex (l := e.globals) (k := n) hlt
    obtain ⟨mx, hmx, _⟩ := get_ex (l := e.muts) (k := n) (by omega)
    have hg' := map_get (f := fun n => AV.int .i64 n) hgx
    have hmx' := map_get (f := fun b => AV.bool b) hmx
    clear hm' hlt
    repeat' (first
    | with_reducible refine Red.go ?_
    | with_reducible refine wp_drawG' ?_
    | ((with_reducible apply blkK_pass); rfl)
    | ((with_reducible apply gd_nil); rfl)
    | ((with_reducible apply gd_dry); (simp only [evDryF, evWetF, St.new, Nat.reduceAdd, Nat.zero_add, Nat.add_zero, Eo.evF, upd_ap, reduceIte, Nat.reduceEqDiff, Bool.false_eq_true, Bool.not_true, Bool.not_false, flat, binAV, binInt, gint, List.length_map, natOf_cast, Nat.zero_le, *]; rfl); kernel_rfl)
    | ((with_reducible first | apply gd_wet | apply gd_wet0); (simp only [footOfF, Eo.evF, upd_ap, reduceIte, Nat.reduceEqDiff]; rfl); kernel_rfl; (simp only [evWetF, Nat.reduceAdd, Eo.evF, upd_ap, reduceIte, Nat.reduceEqDiff, Bool.false_eq_true, Bool.not_true, Bool.not_false, flat, binAV, binInt, gint, List.length_map, natOf_cast, Nat.zero_le, *]; rfl); kernel_rfl; rfl)
    | ((with_reducible first | apply gd_wetW | apply gd_wetW0); (simp only [evWetF, Nat.reduceAdd, Eo.evF, upd_ap, reduceIte, Nat.reduceEqDiff, Bool.false_eq_true, Bool.not_true, Bool.not_false, flat, binAV, binInt, gint, List.length_map, natOf_cast, Nat.zero_le, *]; rfl); kernel_rfl)
    | ((with_reducible first | apply wpOps_dry | apply wpOps_wet | apply wpOps_wet0); (simp only [evDryF, evWetF, St.new, Nat.reduceAdd, Nat.zero_add, Nat.add_zero, Eo.evF, upd_ap, reduceIte, Nat.reduceEqDiff, Bool.false_eq_true, Bool.not_true, Bool.not_false, flat, binAV, binInt, gint, List.length_map, natOf_cast, Nat.zero_le, *]; rfl))
    | ((with_reducible apply wpOps_undef)
       · simp only [upd_ap, reduceIte, Nat.reduceEqDiff]; done)
    | ((with_reducible first | apply wpOps_test | apply wp_test); (simp only [Eo.evF, upd_ap, reduceIte, Nat.reduceEqDiff, Bool.false_eq_true, Bool.not_true, Bool.not_false, flat, binAV, binInt, gint, List.length_map, natOf_cast, Nat.zero_le, *]; rfl))
    | (with_reducible apply testK_mk
       all_goals (intro hb; try simp only [Bool.not_true, Bool.not_false, Bool.not_eq_true', Bool.not_eq_false'] at hb)))
    all_goals
      refine fnK_ret (by simp only [resAllF, resOfF, upd_ap, reduceIte, Nat.reduceEqDiff]; rfl) ?_
      refine frzK_mk (v' := shapeV e s op n) ?_ rfl
      simp only [shapeV, upd_ap, reduceIte, Nat.reduceEqDiff, Bool.false_eq_true, Bool.true_eq_false, Bool.or_true, Bool.or_false, Bool.true_or, Bool.false_or, if_true, if_false, Int.toNat_natCast, *]
      kernel_rfl
  · cases h1 : (ofF op == 0) with
    | false =>
      cases hu : unaryB op
      all_goals
        have q1 : q81 [.int .i64 op] = some (.tup [if unaryB op = true then ints [ofF op] else ints [ofF op, ofF op], K (outF op), .bool true]) := by
          rw [q81_eq hop', sigV, h1]; rfl
        simp only [hu, Bool.false_eq_true, if_false, if_true] at q1
        repeat' (first
        | with_reducible refine Red.go ?_
        | with_reducible refine wp_draw ?_
        | ((with_reducible apply blkK_pass); rfl)
        | ((with_reducible first | apply wpOps_dry | apply wpOps_wet | apply wpOps_wet0 | apply wpDraw_dry); (simp only [evDryF, evWetF, St.new, Nat.reduceAdd, Nat.zero_add, Nat.add_zero, Eo.evF, upd_ap, reduceIte, Nat.reduceEqDiff, Bool.false_eq_true, Bool.not_true, Bool.not_false, flat, binAV, binInt, gint, List.length_map, Nat.zero_le, *]; rfl))
        | ((with_reducible apply wpDraw_load); (simp only [Eo.evF, upd_ap, reduceIte, Nat.reduceEqDiff, Bool.false_eq_true, Bool.not_true, Bool.not_false, flat, binAV, binInt, gint, List.length_map, Nat.zero_le, *]; rfl); rfl; rfl)
        | ((with_reducible first | apply wpOps_undef | apply wpDraw_undef)
           · simp only [upd_ap, reduceIte, Nat.reduceEqDiff]; done)
        | ((with_reducible first | apply wpOps_told | apply wpDraw_told); assumption; (simp only [evsF, List.map_cons, List.map_nil, Eo.evF, upd_ap, reduceIte, Nat.reduceEqDiff, Bool.false_eq_true, Bool.not_true, Bool.not_false, flat, binAV, binInt, gint, List.length_map, Nat.zero_le, *]; rfl); first | (simp only [q1]; rfl) | assumption)
        | ((with_reducible first | apply wpOps_test | apply wp_test | apply draw_test); (simp only [Eo.evF, upd_ap, reduceIte, Nat.reduceEqDiff, Bool.false_eq_true, Bool.not_true, Bool.not_false, flat, binAV, binInt, gint, List.length_map, Nat.zero_le, *]; rfl))
        | (with_reducible apply testK_mk
           all_goals (intro hb; try simp only [Bool.not_true, Bool.not_false, Bool.not_eq_true', Bool.not_eq_false'] at hb)))
        all_goals
          refine fnK_ret (by simp only [resAllF, resOfF, upd_ap, reduceIte, Nat.reduceEqDiff]; rfl) ?_
          refine frzK_mk (v' := shapeV e s op n) ?_ rfl
          simp only [shapeV, upd_ap, reduceIte, Nat.reduceEqDiff, Bool.false_eq_true, Bool.true_eq_false, Bool.or_true, Bool.or_false, Bool.true_or, Bool.false_or, if_true, if_false, Int.toNat_natCast, *]
          kernel_rfl
    | true =>
      have q1 : q81 [.int .i64 op] = some (.tup [.nils, K 0, .bool false]) := by
        rw [q81_eq hop', sigV, h1]; rfl
      have q2 := q82_eq op e.mem
      obtain ⟨a, b, mm, ff, tt, cc, hf⟩ := memV_shape op e.mem
      rw [hf] at q2
      cases a <;> cases b
      all_goals
        simp only [niI] at q2 hf
        repeat' (first
        | with_reducible refine Red.go ?_
        | with_reducible refine wp_draw ?_
        | ((with_reducible apply blkK_pass); rfl)
        | ((with_reducible first | apply wpOps_dry | apply wpOps_wet | apply wpOps_wet0 | apply wpDraw_dry); (simp only [evDryF, evWetF, St.new, Nat.reduceAdd, Nat.zero_add, Nat.add_zero, Eo.evF, upd_ap, reduceIte, Nat.reduceEqDiff, Bool.false_eq_true, Bool.not_true, Bool.not_false, flat, binAV, binInt, gint, List.length_map, Nat.zero_le, *]; rfl))
        | ((with_reducible apply wpDraw_load); (simp only [Eo.evF, upd_ap, reduceIte, Nat.reduceEqDiff, Bool.false_eq_true, Bool.not_true, Bool.not_false, flat, binAV, binInt, gint, List.length_map, Nat.zero_le, *]; rfl); rfl; rfl)
        | ((with_reducible first | apply wpOps_undef | apply wpDraw_undef)
           · simp only [upd_ap, reduceIte, Nat.reduceEqDiff]; done)
        | ((with_reducible first | apply wpOps_told | apply wpDraw_told); assumption; (simp only [evsF, List.map_cons, List.map_nil, Eo.evF, upd_ap, reduceIte, Nat.reduceEqDiff, Bool.false_eq_true, Bool.not_true, Bool.not_false, flat, binAV, binInt, gint, List.length_map, Nat.zero_le, *]; rfl); first | (simp only [q1, q2]; rfl) | assumption)
        | ((with_reducible first | apply wpOps_test | apply wp_test | apply draw_test); (simp only [Eo.evF, upd_ap, reduceIte, Nat.reduceEqDiff, Bool.false_eq_true, Bool.not_true, Bool.not_false, flat, binAV, binInt, gint, List.length_map, Nat.zero_le, *]; rfl))
        | (with_reducible apply testK_mk
           all_goals (intro hb; try simp only [Bool.not_true, Bool.not_false, Bool.not_eq_true', Bool.not_eq_false'] at hb)))
        all_goals
          refine fnK_ret (by simp only [resAllF, resOfF, upd_ap, reduceIte, Nat.reduceEqDiff]; rfl) ?_
          refine frzK_mk (v' := shapeV e s op n) ?_ rfl
          simp only [shapeV, upd_ap, reduceIte, Nat.reduceEqDiff, Bool.false_eq_true, Bool.true_eq_false, Bool.or_true, Bool.or_false, Bool.true_or, Bool.false_or, if_true, if_false, Int.toNat_natCast, *]
          kernel_rfl
def q54 : List AV → Option AV
  | [x, y, .int .i64 op, .int .u64 (.ofNat n)] =>
    match unEnv x, unSig y with
    | some e, some s => if (envShort e = true ∧ e.muts.length = e.globals.length) ∧ -9223372036854775808 ≤ op ∧ op < 9223372036854775808 then some (shapeV e s op (n : Int)) else none
    | _, _ => none
  | _ => none
theorem q54_eq {e : Env'} (hs : envShort e = true) (hm : e.muts.length = e.globals.length) (s : Sig) {op : Int} (hop : word op) (n : Nat) : q54 [encEnv e, encSig s, .int .i64 op, .int .u64 (n : Int)] = some (shapeV e s op n) := by
  have h1 := unEnv_enc e
  have h2 := unSig_enc s
  simp only [encEnv, encSig] at h1 h2
  have hi : ((n : Int)) = Int.ofNat n := rfl
  rw [hi]
  simp only [q54, h1, h2]
  rw [if_pos ⟨⟨hs, hm⟩, hop⟩]
  rfl
end Go.Ev.Lc
/- LowerChecks, the program's side: whether an instruction may be, told. -/
namespace Go.Ev.Lc
open Go.Ev.Tab
set_option maxRecDepth 100000
set_option linter.all false

def okS : AV → Bool
  | .tup [_, .bool c] => c
  | _ => false
def inS : AV → Int
  | .tup [.agg [a, _, _, _, _], _] => lenV a
  | _ => 0
def outS : AV → Int
  | .tup [.agg [_, b, _, _, _], _] => lenV b
  | _ => 0
def mostS : AV → Int
  | .tup [.agg [_, _, .int .u64 m, _, _], _] => m
  | _ => 0
def fromS : AV → Int
  | .tup [.agg [_, _, _, .int .i64 m, _], _] => m
  | _ => 0
def toS : AV → Int
  | .tup [.agg [_, _, _, _, .int .i64 m], _] => m
  | _ => 0
def instrB (e : Env') (r : Row) (c : Code') : Bool :=
  okS (shapeV e r.sig c.op c.n) && decide ((c.n : Int) ≤ mostS (shapeV e r.sig c.op c.n)) && ((c.args.length : Int) == inS (shapeV e r.sig c.op c.n)) && ((c.outs.length : Int) == outS (shapeV e r.sig c.op c.n)) &&
    decide ((c.to.length : Int) ≥ fromS (shapeV e r.sig c.op c.n)) && decide ((c.to.length : Int) ≤ toS (shapeV e r.sig c.op c.n)) && withinB r.places c.args && withinB r.places c.outs && unlikeB c.outs && withinB r.code.length c.to
end Go.Ev.Lc
/- LowerChecks, the program's side: whether an instruction may be. -/
namespace Go.Ev.Lc
open Go.Ev.Tab
set_option maxRecDepth 100000
set_option linter.all false

set_option maxHeartbeats 4000000 in
theorem t24 (E : Env) (h : E.fns 24 = some e24) (h54 : ToldBy E 54 q54) (h20 : ToldBy E 20 q20) (h21 : ToldBy E 21 q21) (e : Env') (hs : envShort e = true) (hm : e.muts.length = e.globals.length) (r : Row) (c : Code')
    (hcs : codeShort c = true) (hop : word c.op) : AnsK E 0 24 [encEnv e, encRow r, encCode c] s0 (ans (.bool (instrB e r c))) := by
  simp only [codeShort, Bool.and_eq_true] at hcs
  obtain ⟨⟨sa, so⟩, st⟩ := hcs
  have q := q54_eq hs hm r.sig hop c.n
  obtain ⟨a, b, m, f, t, ok, hf⟩ := shapeV_shape e r.sig c.op c.n
  rw [hf] at q
  have hB : instrB e r c = (ok && decide ((c.n : Int) ≤ m) && ((c.args.length : Int) == lenV (niI a)) && ((c.outs.length : Int) == lenV (niI b)) && decide ((c.to.length : Int) ≥ f) && decide ((c.to.length : Int) ≤ t) &&
      withinB r.places c.args && withinB r.places c.outs && unlikeB c.outs && withinB r.code.length c.to) := by
    unfold instrB
    rw [hf]
    rfl
  rw [hB]
  clear hf hB
  have q1 := q20_eq r.places sa
  have q2 := q20_eq r.places so
  have q3 := q20_eq r.code.length st
  have q4 := q21_eq so
  refine fn_run h rfl rfl (plOf_args0 ..) ?_
  simp only [argPl, e24]
  clear hs hm sa so st hop
  have z : ((0 : Nat) : Int) = 0 := rfl
  have fin : ∀ (B : Bool) (env' : Pl) (s : St) (Q' : Post), env' 6 = .bool false → B = false → seqK (fun env s => wp E 0 .ret env s (fnK [.tmp 6] (ans (.bool B)))) Q' .nrm env' s := fun B env' s Q' h6 hB => by
    refine seqK_nrm (wp_ret (fnK_one ?_))
    rw [hB]
    exact h6
  cases a <;> cases b
  all_goals
    simp only [niI, lenV, List.length_map] at q ⊢
    repeat' (first
    | with_reducible refine Red.go ?_
    | ((with_reducible apply blkK_pass); rfl)
    | ((with_reducible first | apply wpOps_dry | apply wpOps_wet | apply wpOps_wet0); (simp only [evDryF, evWetF, St.new, Nat.reduceAdd, Nat.zero_add, Nat.add_zero, Eo.evF, upd_ap, reduceIte, Nat.reduceEqDiff, Bool.false_eq_true, Bool.not_true, Bool.not_false, flat, binAV, binInt, gint, List.length_map, natOf_cast, *]; rfl))
    | ((with_reducible apply wpOps_undef)
       · simp only [upd_ap, reduceIte, Nat.reduceEqDiff]; done)
    | ((with_reducible apply wpOps_told); assumption; (simp only [evsF, List.map_cons, List.map_nil, Eo.evF, upd_ap, reduceIte, Nat.reduceEqDiff, Bool.false_eq_true, Bool.not_true, Bool.not_false, flat, binAV, binInt, gint, List.length_map, natOf_cast, *]; rfl); first | (simp only [q, q1, q2, q3, q4, *]; rfl) | assumption)
    | ((with_reducible first | apply wpOps_test | apply wp_test); (simp only [Eo.evF, upd_ap, reduceIte, Nat.reduceEqDiff, Bool.false_eq_true, Bool.not_true, Bool.not_false, flat, binAV, binInt, gint, List.length_map, natOf_cast, *]; rfl)))
    refine testK_mk (fun hb => ?_) (fun hb => forgetOps (L := [(21, .bool false)]) ⟨congrArg AV.bool hb, trivial⟩ fun v => wpOps_off_rest (t := 6) (v := .bool false) (by kernel_rfl) fun env' h6 => fin _ _ _ _ h6 (by rw [show _ = false from hb]; simp only [Bool.and_false, Bool.false_and]))
    refine forgetOps (L := [(4, .ptr 1 0), (5, .ptr 2 0), (7, .ptr 3 0), (21, .bool true)]) ⟨rfl, rfl, rfl, congrArg AV.bool hb, trivial⟩ fun v0 => ?_
    have h0 := hb
    clear hb
    simp only [setAll]
    repeat' (first
    | with_reducible refine Red.go ?_
    | ((with_reducible apply blkK_pass); rfl)
    | ((with_reducible first | apply wpOps_dry | apply wpOps_wet | apply wpOps_wet0); (simp only [evDryF, evWetF, St.new, Nat.reduceAdd, Nat.zero_add, Nat.add_zero, Eo.evF, upd_ap, reduceIte, Nat.reduceEqDiff, Bool.false_eq_true, Bool.not_true, Bool.not_false, flat, binAV, binInt, gint, List.length_map, natOf_cast, *]; rfl))
    | ((with_reducible apply wpOps_undef)
       · simp only [upd_ap, reduceIte, Nat.reduceEqDiff]; done)
    | ((with_reducible apply wpOps_told); assumption; (simp only [evsF, List.map_cons, List.map_nil, Eo.evF, upd_ap, reduceIte, Nat.reduceEqDiff, Bool.false_eq_true, Bool.not_true, Bool.not_false, flat, binAV, binInt, gint, List.length_map, natOf_cast, *]; rfl); first | (simp only [q, q1, q2, q3, q4, *]; rfl) | assumption)
    | ((with_reducible first | apply wpOps_test | apply wp_test); (simp only [Eo.evF, upd_ap, reduceIte, Nat.reduceEqDiff, Bool.false_eq_true, Bool.not_true, Bool.not_false, flat, binAV, binInt, gint, List.length_map, natOf_cast, *]; rfl)))
    refine testK_mk (fun hb => ?_) (fun hb => forgetOps (L := [(28, .bool false)]) ⟨congrArg AV.bool hb, trivial⟩ fun v => wpOps_off_rest (t := 6) (v := .bool false) (by kernel_rfl) fun env' h6 => fin _ _ _ _ h6 (by rw [show _ = false from hb]; simp only [Bool.and_false, Bool.false_and]))
    refine forgetOps (L := [(4, .ptr 1 0), (5, .ptr 2 0), (7, .ptr 3 0), (28, .bool true)]) ⟨rfl, rfl, rfl, congrArg AV.bool hb, trivial⟩ fun v1 => ?_
    have h1 := hb
    clear hb
    simp only [setAll]
    repeat' (first
    | with_reducible refine Red.go ?_
    | ((with_reducible apply blkK_pass); rfl)
    | ((with_reducible first | apply wpOps_dry | apply wpOps_wet | apply wpOps_wet0); (simp only [evDryF, evWetF, St.new, Nat.reduceAdd, Nat.zero_add, Nat.add_zero, Eo.evF, upd_ap, reduceIte, Nat.reduceEqDiff, Bool.false_eq_true, Bool.not_true, Bool.not_false, flat, binAV, binInt, gint, List.length_map, natOf_cast, *]; rfl))
    | ((with_reducible apply wpOps_undef)
       · simp only [upd_ap, reduceIte, Nat.reduceEqDiff]; done)
    | ((with_reducible apply wpOps_told); assumption; (simp only [evsF, List.map_cons, List.map_nil, Eo.evF, upd_ap, reduceIte, Nat.reduceEqDiff, Bool.false_eq_true, Bool.not_true, Bool.not_false, flat, binAV, binInt, gint, List.length_map, natOf_cast, *]; rfl); first | (simp only [q, q1, q2, q3, q4, *]; rfl) | assumption)
    | ((with_reducible first | apply wpOps_test | apply wp_test); (simp only [Eo.evF, upd_ap, reduceIte, Nat.reduceEqDiff, Bool.false_eq_true, Bool.not_true, Bool.not_false, flat, binAV, binInt, gint, List.length_map, natOf_cast, *]; rfl)))
    refine testK_mk (fun hb => ?_) (fun hb => forgetOps (L := [(37, .bool false)]) ⟨congrArg AV.bool hb, trivial⟩ fun v => wpOps_off_rest (t := 6) (v := .bool false) (by kernel_rfl) fun env' h6 => fin _ _ _ _ h6 (by rw [show _ = false from hb]; simp only [Bool.and_false, Bool.false_and]))
    refine forgetOps (L := [(4, .ptr 1 0), (5, .ptr 2 0), (7, .ptr 3 0), (37, .bool true)]) ⟨rfl, rfl, rfl, congrArg AV.bool hb, trivial⟩ fun v2 => ?_
    have h2 := hb
    clear hb
    simp only [setAll]
    repeat' (first
    | with_reducible refine Red.go ?_
    | ((with_reducible apply blkK_pass); rfl)
    | ((with_reducible first | apply wpOps_dry | apply wpOps_wet | apply wpOps_wet0); (simp only [evDryF, evWetF, St.new, Nat.reduceAdd, Nat.zero_add, Nat.add_zero, Eo.evF, upd_ap, reduceIte, Nat.reduceEqDiff, Bool.false_eq_true, Bool.not_true, Bool.not_false, flat, binAV, binInt, gint, List.length_map, natOf_cast, *]; rfl))
    | ((with_reducible apply wpOps_undef)
       · simp only [upd_ap, reduceIte, Nat.reduceEqDiff]; done)
    | ((with_reducible apply wpOps_told); assumption; (simp only [evsF, List.map_cons, List.map_nil, Eo.evF, upd_ap, reduceIte, Nat.reduceEqDiff, Bool.false_eq_true, Bool.not_true, Bool.not_false, flat, binAV, binInt, gint, List.length_map, natOf_cast, *]; rfl); first | (simp only [q, q1, q2, q3, q4, *]; rfl) | assumption)
    | ((with_reducible first | apply wpOps_test | apply wp_test); (simp only [Eo.evF, upd_ap, reduceIte, Nat.reduceEqDiff, Bool.false_eq_true, Bool.not_true, Bool.not_false, flat, binAV, binInt, gint, List.length_map, natOf_cast, *]; rfl)))
    refine testK_mk (fun hb => ?_) (fun hb => forgetOps (L := [(46, .bool false)]) ⟨congrArg AV.bool hb, trivial⟩ fun v => wpOps_off_rest (t := 6) (v := .bool false) (by kernel_rfl) fun env' h6 => fin _ _ _ _ h6 (by rw [show _ = false from hb]; simp only [Bool.and_false, Bool.false_and]))
    refine forgetOps (L := [(4, .ptr 1 0), (5, .ptr 2 0), (7, .ptr 3 0), (46, .bool true)]) ⟨rfl, rfl, rfl, congrArg AV.bool hb, trivial⟩ fun v3 => ?_
    have h3 := hb
    clear hb
    simp only [setAll]
    repeat' (first
    | with_reducible refine Red.go ?_
    | ((with_reducible apply blkK_pass); rfl)
    | ((with_reducible first | apply wpOps_dry | apply wpOps_wet | apply wpOps_wet0); (simp only [evDryF, evWetF, St.new, Nat.reduceAdd, Nat.zero_add, Nat.add_zero, Eo.evF, upd_ap, reduceIte, Nat.reduceEqDiff, Bool.false_eq_true, Bool.not_true, Bool.not_false, flat, binAV, binInt, gint, List.length_map, natOf_cast, *]; rfl))
    | ((with_reducible apply wpOps_undef)
       · simp only [upd_ap, reduceIte, Nat.reduceEqDiff]; done)
    | ((with_reducible apply wpOps_told); assumption; (simp only [evsF, List.map_cons, List.map_nil, Eo.evF, upd_ap, reduceIte, Nat.reduceEqDiff, Bool.false_eq_true, Bool.not_true, Bool.not_false, flat, binAV, binInt, gint, List.length_map, natOf_cast, *]; rfl); first | (simp only [q, q1, q2, q3, q4, *]; rfl) | assumption)
    | ((with_reducible first | apply wpOps_test | apply wp_test); (simp only [Eo.evF, upd_ap, reduceIte, Nat.reduceEqDiff, Bool.false_eq_true, Bool.not_true, Bool.not_false, flat, binAV, binInt, gint, List.length_map, natOf_cast, *]; rfl)))
    refine testK_mk (fun hb => ?_) (fun hb => forgetOps (L := [(54, .bool false)]) ⟨congrArg AV.bool hb, trivial⟩ fun v => wpOps_off_rest (t := 6) (v := .bool false) (by kernel_rfl) fun env' h6 => fin _ _ _ _ h6 (by rw [show _ = false from hb]; simp only [Bool.and_false, Bool.false_and]))
    refine forgetOps (L := [(4, .ptr 1 0), (5, .ptr 2 0), (7, .ptr 3 0), (54, .bool true)]) ⟨rfl, rfl, rfl, congrArg AV.bool hb, trivial⟩ fun v4 => ?_
    have h4 := hb
    clear hb
    simp only [setAll]
    repeat' (first
    | with_reducible refine Red.go ?_
    | ((with_reducible apply blkK_pass); rfl)
    | ((with_reducible first | apply wpOps_dry | apply wpOps_wet | apply wpOps_wet0); (simp only [evDryF, evWetF, St.new, Nat.reduceAdd, Nat.zero_add, Nat.add_zero, Eo.evF, upd_ap, reduceIte, Nat.reduceEqDiff, Bool.false_eq_true, Bool.not_true, Bool.not_false, flat, binAV, binInt, gint, List.length_map, natOf_cast, *]; rfl))
    | ((with_reducible apply wpOps_undef)
       · simp only [upd_ap, reduceIte, Nat.reduceEqDiff]; done)
    | ((with_reducible apply wpOps_told); assumption; (simp only [evsF, List.map_cons, List.map_nil, Eo.evF, upd_ap, reduceIte, Nat.reduceEqDiff, Bool.false_eq_true, Bool.not_true, Bool.not_false, flat, binAV, binInt, gint, List.length_map, natOf_cast, *]; rfl); first | (simp only [q, q1, q2, q3, q4, *]; rfl) | assumption)
    | ((with_reducible first | apply wpOps_test | apply wp_test); (simp only [Eo.evF, upd_ap, reduceIte, Nat.reduceEqDiff, Bool.false_eq_true, Bool.not_true, Bool.not_false, flat, binAV, binInt, gint, List.length_map, natOf_cast, *]; rfl)))
    refine testK_mk (fun hb => ?_) (fun hb => forgetOps (L := [(62, .bool false)]) ⟨congrArg AV.bool hb, trivial⟩ fun v => wpOps_off_rest (t := 6) (v := .bool false) (by kernel_rfl) fun env' h6 => fin _ _ _ _ h6 (by rw [show _ = false from hb]; simp only [Bool.and_false, Bool.false_and]))
    refine forgetOps (L := [(4, .ptr 1 0), (5, .ptr 2 0), (7, .ptr 3 0), (62, .bool true)]) ⟨rfl, rfl, rfl, congrArg AV.bool hb, trivial⟩ fun v5 => ?_
    have h5 := hb
    clear hb
    simp only [setAll]
    repeat' (first
    | with_reducible refine Red.go ?_
    | ((with_reducible apply blkK_pass); rfl)
    | ((with_reducible first | apply wpOps_dry | apply wpOps_wet | apply wpOps_wet0); (simp only [evDryF, evWetF, St.new, Nat.reduceAdd, Nat.zero_add, Nat.add_zero, Eo.evF, upd_ap, reduceIte, Nat.reduceEqDiff, Bool.false_eq_true, Bool.not_true, Bool.not_false, flat, binAV, binInt, gint, List.length_map, natOf_cast, *]; rfl))
    | ((with_reducible apply wpOps_undef)
       · simp only [upd_ap, reduceIte, Nat.reduceEqDiff]; done)
    | ((with_reducible apply wpOps_told); assumption; (simp only [evsF, List.map_cons, List.map_nil, Eo.evF, upd_ap, reduceIte, Nat.reduceEqDiff, Bool.false_eq_true, Bool.not_true, Bool.not_false, flat, binAV, binInt, gint, List.length_map, natOf_cast, *]; rfl); first | (simp only [q, q1, q2, q3, q4, *]; rfl) | assumption)
    | ((with_reducible first | apply wpOps_test | apply wp_test); (simp only [Eo.evF, upd_ap, reduceIte, Nat.reduceEqDiff, Bool.false_eq_true, Bool.not_true, Bool.not_false, flat, binAV, binInt, gint, List.length_map, natOf_cast, *]; rfl)))
    refine testK_mk (fun hb => ?_) (fun hb => forgetOps (L := [(69, .bool false)]) ⟨congrArg AV.bool hb, trivial⟩ fun v => wpOps_off_rest (t := 6) (v := .bool false) (by kernel_rfl) fun env' h6 => fin _ _ _ _ h6 (by rw [show _ = false from hb]; simp only [Bool.and_false, Bool.false_and]))
    refine forgetOps (L := [(4, .ptr 1 0), (5, .ptr 2 0), (7, .ptr 3 0), (69, .bool true)]) ⟨rfl, rfl, rfl, congrArg AV.bool hb, trivial⟩ fun v6 => ?_
    have h6 := hb
    clear hb
    simp only [setAll]
    repeat' (first
    | with_reducible refine Red.go ?_
    | ((with_reducible apply blkK_pass); rfl)
    | ((with_reducible first | apply wpOps_dry | apply wpOps_wet | apply wpOps_wet0); (simp only [evDryF, evWetF, St.new, Nat.reduceAdd, Nat.zero_add, Nat.add_zero, Eo.evF, upd_ap, reduceIte, Nat.reduceEqDiff, Bool.false_eq_true, Bool.not_true, Bool.not_false, flat, binAV, binInt, gint, List.length_map, natOf_cast, *]; rfl))
    | ((with_reducible apply wpOps_undef)
       · simp only [upd_ap, reduceIte, Nat.reduceEqDiff]; done)
    | ((with_reducible apply wpOps_told); assumption; (simp only [evsF, List.map_cons, List.map_nil, Eo.evF, upd_ap, reduceIte, Nat.reduceEqDiff, Bool.false_eq_true, Bool.not_true, Bool.not_false, flat, binAV, binInt, gint, List.length_map, natOf_cast, *]; rfl); first | (simp only [q, q1, q2, q3, q4, *]; rfl) | assumption)
    | ((with_reducible first | apply wpOps_test | apply wp_test); (simp only [Eo.evF, upd_ap, reduceIte, Nat.reduceEqDiff, Bool.false_eq_true, Bool.not_true, Bool.not_false, flat, binAV, binInt, gint, List.length_map, natOf_cast, *]; rfl)))
    refine testK_mk (fun hb => ?_) (fun hb => forgetOps (L := [(76, .bool false)]) ⟨congrArg AV.bool hb, trivial⟩ fun v => wpOps_off_rest (t := 6) (v := .bool false) (by kernel_rfl) fun env' h6 => fin _ _ _ _ h6 (by rw [show _ = false from hb]; simp only [Bool.and_false, Bool.false_and]))
    refine forgetOps (L := [(4, .ptr 1 0), (5, .ptr 2 0), (7, .ptr 3 0), (76, .bool true)]) ⟨rfl, rfl, rfl, congrArg AV.bool hb, trivial⟩ fun v7 => ?_
    have h7 := hb
    clear hb
    simp only [setAll]
    repeat' (first
    | with_reducible refine Red.go ?_
    | ((with_reducible apply blkK_pass); rfl)
    | ((with_reducible first | apply wpOps_dry | apply wpOps_wet | apply wpOps_wet0); (simp only [evDryF, evWetF, St.new, Nat.reduceAdd, Nat.zero_add, Nat.add_zero, Eo.evF, upd_ap, reduceIte, Nat.reduceEqDiff, Bool.false_eq_true, Bool.not_true, Bool.not_false, flat, binAV, binInt, gint, List.length_map, natOf_cast, *]; rfl))
    | ((with_reducible apply wpOps_undef)
       · simp only [upd_ap, reduceIte, Nat.reduceEqDiff]; done)
    | ((with_reducible apply wpOps_told); assumption; (simp only [evsF, List.map_cons, List.map_nil, Eo.evF, upd_ap, reduceIte, Nat.reduceEqDiff, Bool.false_eq_true, Bool.not_true, Bool.not_false, flat, binAV, binInt, gint, List.length_map, natOf_cast, *]; rfl); first | (simp only [q, q1, q2, q3, q4, *]; rfl) | assumption)
    | ((with_reducible first | apply wpOps_test | apply wp_test); (simp only [Eo.evF, upd_ap, reduceIte, Nat.reduceEqDiff, Bool.false_eq_true, Bool.not_true, Bool.not_false, flat, binAV, binInt, gint, List.length_map, natOf_cast, *]; rfl)))
    refine testK_mk (fun hb => ?_) (fun hb => forgetOps (L := [(81, .bool false)]) ⟨congrArg AV.bool hb, trivial⟩ fun v => wpOps_off_rest (t := 6) (v := .bool false) (by kernel_rfl) fun env' h6 => fin _ _ _ _ h6 (by rw [show _ = false from hb]; simp only [Bool.and_false, Bool.false_and]))
    refine forgetOps (L := [(4, .ptr 1 0), (5, .ptr 2 0), (7, .ptr 3 0), (81, .bool true)]) ⟨rfl, rfl, rfl, congrArg AV.bool hb, trivial⟩ fun v8 => ?_
    have h8 := hb
    clear hb
    simp only [setAll]
    repeat' (first
    | with_reducible refine Red.go ?_
    | ((with_reducible apply blkK_pass); rfl)
    | ((with_reducible first | apply wpOps_dry | apply wpOps_wet | apply wpOps_wet0); (simp only [evDryF, evWetF, St.new, Nat.reduceAdd, Nat.zero_add, Nat.add_zero, Eo.evF, upd_ap, reduceIte, Nat.reduceEqDiff, Bool.false_eq_true, Bool.not_true, Bool.not_false, flat, binAV, binInt, gint, List.length_map, natOf_cast, *]; rfl))
    | ((with_reducible apply wpOps_undef)
       · simp only [upd_ap, reduceIte, Nat.reduceEqDiff]; done)
    | ((with_reducible apply wpOps_told); assumption; (simp only [evsF, List.map_cons, List.map_nil, Eo.evF, upd_ap, reduceIte, Nat.reduceEqDiff, Bool.false_eq_true, Bool.not_true, Bool.not_false, flat, binAV, binInt, gint, List.length_map, natOf_cast, *]; rfl); first | (simp only [q, q1, q2, q3, q4, *]; rfl) | assumption)
    | ((with_reducible first | apply wpOps_test | apply wp_test); (simp only [Eo.evF, upd_ap, reduceIte, Nat.reduceEqDiff, Bool.false_eq_true, Bool.not_true, Bool.not_false, flat, binAV, binInt, gint, List.length_map, natOf_cast, *]; rfl)))
    refine fnK_one ?_
    simp only [ans, tupled, upd_ap, reduceIte, Nat.reduceEqDiff, lenV, List.length_map, *]
    first | rfl | (simp; done) | (simp_all; done)
def q24 : List AV → Option AV
  | [x, y, z] =>
    match unEnv x, unRow y, unCode z with
    | some e, some r, some c => if envShort e = true ∧ e.muts.length = e.globals.length ∧ codeShort c = true ∧ -9223372036854775808 ≤ c.op ∧ c.op < 9223372036854775808 then some (.bool (instrB e r c)) else none
    | _, _, _ => none
  | _ => none
theorem q24_eq {e : Env'} (hs : envShort e = true) (hm : e.muts.length = e.globals.length) (r : Row) {c : Code'} (hc : codeShort c = true) (hop : word c.op) : q24 [encEnv e, encRow r, encCode c] = some (.bool (instrB e r c)) := by
  have h1 := unEnv_enc e
  have h2 := unRow_enc r
  have h3 := unCode_enc c
  simp only [encEnv, encRow, encCode] at h1 h2 h3
  simp only [q24, h1, h2, h3]
  rw [if_pos ⟨hs, hm, hc, hop⟩]
theorem t23 (E : Env) {lo : Nat} (h : E.fns 23 = some { e23 with pure := true }) (h24 : ToldBy E 24 q24) (e : Env') (hs : envShort e = true) (hm : e.muts.length = e.globals.length) (r : Row) (c : Code') (hc : codeShort c = true) (hop : word c.op)
    (s : St) (a b x y : Nat) (ha : rowH s.H a = some (envCells e, 5, x)) (hb : rowH s.H b = some (rowCells r, 5, y)) (hna : a ≠ s.nx) (hnb : b ≠ s.nx) : Tells E lo 23 [] [.ptr a 0, .ptr b 0] s (encCode c) (!instrB e r c) := by
  intro KK hk
  refine callK_run h rfl ?_
  refine fn_frz h rfl rfl (plOf_args0 ..) (rfl : s.nx = s.nx) ?_
  simp only [argPl, e23, List.nil_append, List.cons_append]
  have q := q24_eq hs hm r hc hop
  have r1 : ∀ o, rowH (s.H.set s.nx o) a = some (envCells e, 5, x) := fun o => by rw [rowH_ne hna]; exact ha
  have r2 : ∀ o, rowH (s.H.set s.nx o) b = some (rowCells r, 5, y) := fun o => by rw [rowH_ne hnb]; exact hb
  clear hs hm hc ha hb hna hnb hop
  repeat' (first
  | with_reducible refine Red.go ?_
  | ((with_reducible apply blkK_pass); rfl)
  | ((with_reducible first | apply wpOps_dry | apply wpOps_wet | apply wpOps_wet0); (simp only [evDryF, evWetF, St.new, Nat.reduceAdd, Nat.zero_add, Nat.add_zero, Eo.evF, upd_ap, reduceIte, Nat.reduceEqDiff, Bool.false_eq_true, Bool.not_true, Bool.not_false, flat, row_rowH, rowH_set, *]; rfl))
  | ((with_reducible apply wpOps_undef)
     · simp only [upd_ap, reduceIte, Nat.reduceEqDiff]; done)
  | ((with_reducible apply wpOps_told); assumption; (simp only [evsF, List.map_cons, List.map_nil, Eo.evF, upd_ap, reduceIte, Nat.reduceEqDiff, Bool.false_eq_true, Bool.not_true, Bool.not_false, flat, row_rowH, rowH_set, *]; rfl); first | (simp only [q]; rfl) | assumption)
  | ((with_reducible first | apply wpOps_test | apply wp_test); (simp only [Eo.evF, upd_ap, reduceIte, Nat.reduceEqDiff, Bool.false_eq_true, Bool.not_true, Bool.not_false, flat, row_rowH, rowH_set, *]; rfl))
  | (with_reducible apply testK_mk
     all_goals (intro hb; try simp only [Bool.not_true, Bool.not_false, Bool.not_eq_true', Bool.not_eq_false'] at hb)))
  refine fnK_one ?_
  refine frzK_mk (v' := .bool (!instrB e r c)) ?_ hk
  simp [freeze, upd_ap]
end Go.Ev.Lc
/- LowerChecks, the program's side: rings without a tick, what the search keeps (no program in sight). -/
namespace Go.Ev.Lc
set_option linter.all false

/-- What the search knows: of each instruction 0 (fresh), 1 (open) or 2 (done); the open ones, the last first, each with what is left of what comes behind it. 'up' is the one above. -/
def Chain (r : Row) (st : List Int) : Option Nat → List (Nat × List Int) → Prop
  | _, [] => True
  | up, (h, rest) :: t => h < r.code.length ∧ (∀ x ∈ succs r h, x ∈ rest ∨ ∃ j : Nat, x = j ∧ (st[j]? = some 2 ∨ up = some j)) ∧ (∀ x ∈ rest, x ∈ succs r h) ∧ (∀ u, up = some u → (u : Int) ∈ succs r h) ∧ Chain r st (some h) t
structure RInv (r : Row) (k : Nat) (st : List Int) (stk : List (Nat × List Int)) : Prop where
  len : st.length = r.code.length
  three : ∀ (i : Nat) v, st[i]? = some v → v = 0 ∨ v = 1 ∨ v = 2
  opens : ∀ i : Nat, st[i]? = some 1 ↔ ∃ x ∈ stk, x.1 = i
  nodup : (stk.map (·.1)).Nodup
  live : ∀ S, Live r S → ∀ i, S i → st[i]? ≠ some 2
  chain : Chain r st none stk
  below : ∀ i, i < k → st[i]? ≠ some 0

theorem Chain.mono {r : Row} {st st' : List Int} (h : ∀ j : Nat, st[j]? = some 2 → st'[j]? = some 2) : ∀ {stk : List (Nat × List Int)} {up : Option Nat}, Chain r st up stk → Chain r st' up stk
  | [], _, _ => trivial
  | (hd, rest) :: t, up, ⟨h0, h1, h2, h3, h4⟩ => ⟨h0, fun x hx => (h1 x hx).imp id fun ⟨j, hj, hj2⟩ => ⟨j, hj, hj2.imp (h j) id⟩, h2, h3, h4.mono h⟩
theorem Chain.found {r : Row} {st : List Int} {to : Nat} : ∀ {stk : List (Nat × List Int)} {u : Nat}, Chain r st (some u) stk → (∃ x ∈ stk, x.1 = to) →
    ∃ L : List Nat, to ∈ L ∧ ∀ i ∈ L, i < r.code.length ∧ ∃ j : Nat, (j : Int) ∈ succs r i ∧ (j ∈ L ∨ j = u)
  | [], _, _, ⟨x, hx, _⟩ => by simp at hx
  | (h, rest) :: t, u, ⟨h0, h1, h2, h3, h4⟩, ⟨x, hx, hxt⟩ => by
    by_cases e : h = to
    · subst e
      exact ⟨[h], List.mem_cons_self .., fun i hi => by
        simp only [List.mem_cons, List.not_mem_nil, or_false] at hi
        subst hi
        exact ⟨h0, u, h3 u rfl, .inr rfl⟩⟩
    · have hx' : ∃ x ∈ t, x.1 = to := by
        rcases List.mem_cons.1 hx with rfl | hx
        · exact absurd hxt e
        · exact ⟨x, hx, hxt⟩
      obtain ⟨L, hL, hall⟩ := h4.found hx'
      refine ⟨h :: L, List.mem_cons_of_mem _ hL, fun i hi => ?_⟩
      rcases List.mem_cons.1 hi with rfl | hi
      · exact ⟨h0, u, h3 u rfl, .inr rfl⟩
      · obtain ⟨hl, j, hj, hjL⟩ := hall i hi
        refine ⟨hl, j, hj, .inl ?_⟩
        rcases hjL with hjL | rfl
        · exact List.mem_cons_of_mem _ hjL
        · exact List.mem_cons_self ..

/-- Found an open one: there is a ring. -/
theorem RInv.ring {r : Row} {k : Nat} {st : List Int} {h to : Nat} {rest : List Int} {t : List (Nat × List Int)} (hi : RInv r k st ((h, rest ++ [(to : Int)]) :: t)) (ho : st[to]? = some 1) : circlesB r = true := by
  obtain ⟨x, hx, hxt⟩ := (hi.opens to).1 ho
  obtain ⟨h0, h1, h2, h3, h4⟩ := hi.chain
  have hc : Chain r st (some to) ((h, rest ++ [(to : Int)]) :: t) := ⟨h0, fun y hy => (h1 y hy).imp id fun ⟨j, hj, hj2⟩ => ⟨j, hj, hj2.imp id fun e => by simp at e⟩, h2, fun u hu => by
    obtain rfl := Option.some.inj hu
    exact h2 _ (by simp), h4⟩
  obtain ⟨L, hL, hall⟩ := hc.found ⟨x, hx, hxt⟩
  unfold circlesB
  rw [@decide_eq_true_iff _ (Classical.propDecidable _)]
  refine ⟨fun i => i ∈ L, fun i hiL => ?_, to, hL⟩
  obtain ⟨hl, j, hj, hjL⟩ := hall i hiL
  refine ⟨hl, j, hj, ?_⟩
  rcases hjL with hjL | rfl
  · exact hjL
  · exact hL
theorem get_set_ne {st : List Int} {i j : Nat} {v : Int} (h : i ≠ j) : (st.set i v)[j]? = st[j]? := List.getElem?_set_ne h
theorem get_set_self {st : List Int} {i : Nat} {v w : Int} (h : st[i]? = some w) : (st.set i v)[i]? = some v := by
  have : i < st.length := by
    rcases Nat.lt_or_ge i st.length with h' | h'
    · exact h'
    · rw [List.getElem?_eq_none h'] at h; simp at h
  simp [this]
/-- A done one goes from what is left. -/
theorem RInv.drop {r : Row} {k : Nat} {st : List Int} {h to : Nat} {rest : List Int} {t : List (Nat × List Int)} (hi : RInv r k st ((h, rest ++ [(to : Int)]) :: t)) (ho : st[to]? = some 2) : RInv r k st ((h, rest) :: t) := by
  obtain ⟨h0, h1, h2, h3, h4⟩ := hi.chain
  refine ⟨hi.len, hi.three, fun i => ?_, hi.nodup, hi.live, ⟨h0, fun x hx => ?_, fun x hx => h2 x (List.mem_append_left _ hx), h3, h4⟩, hi.below⟩
  · rw [hi.opens i]
    simp only [List.mem_cons, exists_eq_or_imp]
  · rcases h1 x hx with hm | ⟨j, hj, hj2⟩
    · rcases List.mem_append.1 hm with hm | hm
      · exact .inl hm
      · simp only [List.mem_cons, List.not_mem_nil, or_false] at hm
        exact .inr ⟨to, hm, .inl ho⟩
    · exact .inr ⟨j, hj, hj2⟩
/-- A fresh one is opened. -/
theorem RInv.push {r : Row} {k : Nat} {st : List Int} {h to : Nat} {rest : List Int} {t : List (Nat × List Int)} (hi : RInv r k st ((h, rest ++ [(to : Int)]) :: t)) (ho : st[to]? = some 0) :
    RInv r k (st.set to 1) ((to, succs r to) :: (h, rest) :: t) := by
  obtain ⟨h0, h1, h2, h3, h4⟩ := hi.chain
  have hlt : to < st.length := by
    rcases Nat.lt_or_ge to st.length with h' | h'
    · exact h'
    · rw [List.getElem?_eq_none h'] at ho; simp at ho
  have hnot : ∀ x ∈ (h, rest ++ [(to : Int)]) :: t, x.1 ≠ to := fun x hx e => by
    have := (hi.opens to).2 ⟨x, hx, e⟩
    rw [ho] at this; simp at this
  have hkeep : ∀ j : Nat, st[j]? = some 2 → (st.set to 1)[j]? = some 2 := fun j hj => by
    by_cases e : to = j
    · subst e; rw [ho] at hj; simp at hj
    · rw [get_set_ne e]; exact hj
  refine ⟨by rw [List.length_set]; exact hi.len, fun i v hv => ?_, fun i => ?_, ?_, fun S hS i hSi hv => ?_, ⟨by rw [← hi.len]; exact hlt, fun x hx => .inl hx, fun x hx => hx, fun u hu => by simp at hu, h0, fun x hx => ?_, fun x hx => h2 x (List.mem_append_left _ hx), fun u hu => ?_, h4.mono hkeep⟩, fun i hik hv => ?_⟩
  · by_cases e : to = i
    · subst e; rw [get_set_self ho] at hv; simp at hv; omega
    · rw [get_set_ne e] at hv; exact hi.three i v hv
  · by_cases e : to = i
    · subst e
      rw [get_set_self ho]
      simp only [List.mem_cons, exists_eq_or_imp, true_or]
    · rw [get_set_ne e, hi.opens i]
      simp only [List.mem_cons, exists_eq_or_imp, e, false_or]
  · have := hi.nodup
    simp only [List.map_cons, List.nodup_cons] at this ⊢
    refine ⟨fun hm => ?_, this.1, this.2⟩
    rcases List.mem_cons.1 hm with e | hm
    · exact hnot _ (List.mem_cons_self ..) e.symm
    · obtain ⟨x, hx, hx2⟩ := List.mem_map.1 hm
      exact hnot x (List.mem_cons_of_mem _ hx) hx2
  · by_cases e : to = i
    · subst e; rw [get_set_self ho] at hv; simp at hv
    · rw [get_set_ne e] at hv; exact hi.live S hS i hSi hv
  · rcases h1 x hx with hm | ⟨j, hj, hj2⟩
    · rcases List.mem_append.1 hm with hm | hm
      · exact .inl hm
      · simp only [List.mem_cons, List.not_mem_nil, or_false] at hm
        exact .inr ⟨to, hm, .inr rfl⟩
    · rcases hj2 with hj2 | hj2
      · exact .inr ⟨j, hj, .inl (hkeep j hj2)⟩
      · simp at hj2
  · obtain rfl := Option.some.inj hu
    exact h2 _ (by simp)
  · by_cases e : to = i
    · subst e; rw [get_set_self ho] at hv; simp at hv
    · rw [get_set_ne e] at hv; exact hi.below i hik hv
/-- One of which nothing is left is done. -/
theorem RInv.pop {r : Row} {k : Nat} {st : List Int} {h : Nat} {t : List (Nat × List Int)} (hi : RInv r k st ((h, []) :: t)) : RInv r k (st.set h 2) t := by
  obtain ⟨h0, h1, h2, h3, h4⟩ := hi.chain
  have ho : st[h]? = some 1 := (hi.opens h).2 ⟨_, List.mem_cons_self .., rfl⟩
  have hnd := hi.nodup
  simp only [List.map_cons, List.nodup_cons] at hnd
  have hkeep : ∀ j : Nat, st[j]? = some 2 → (st.set h 2)[j]? = some 2 := fun j hj => by
    by_cases e : h = j
    · subst e; exact get_set_self hj
    · rw [get_set_ne e]; exact hj
  refine ⟨by rw [List.length_set]; exact hi.len, fun i v hv => ?_, fun i => ?_, hnd.2, fun S hS i hSi hv => ?_, ?_, fun i hik hv => ?_⟩
  · by_cases e : h = i
    · subst e; rw [get_set_self ho] at hv; simp at hv; omega
    · rw [get_set_ne e] at hv; exact hi.three i v hv
  · by_cases e : h = i
    · subst e
      rw [get_set_self ho]
      refine ⟨fun hx => by simp at hx, fun ⟨x, hx, hx2⟩ => absurd (List.mem_map.2 ⟨x, hx, hx2⟩) hnd.1⟩
    · rw [get_set_ne e, hi.opens i]
      simp only [List.mem_cons, exists_eq_or_imp, e, false_or]
  · by_cases e : h = i
    · subst e
      obtain ⟨_, j, hj, hSj⟩ := hS h hSi
      rcases h1 _ hj with hm | ⟨j', hj', hj2⟩
      · simp at hm
      · have : j = j' := by omega
        subst this
        rcases hj2 with hj2 | hj2
        · exact hi.live S hS j hSj hj2
        · simp at hj2
    · rw [get_set_ne e] at hv; exact hi.live S hS i hSi hv
  · cases t with
    | nil => trivial
    | cons x t =>
      obtain ⟨h', rest'⟩ := x
      obtain ⟨g0, g1, g2, g3, g4⟩ := h4
      refine ⟨g0, fun x hx => ?_, g2, fun u hu => by simp at hu, g4.mono hkeep⟩
      rcases g1 x hx with hm | ⟨j, hj, hj2⟩
      · exact .inl hm
      · rcases hj2 with hj2 | hj2
        · exact .inr ⟨j, hj, .inl (hkeep j hj2)⟩
        · obtain rfl := Option.some.inj hj2
          exact .inr ⟨h, hj, .inl (get_set_self ho)⟩
  · by_cases e : h = i
    · subst e; rw [get_set_self ho] at hv; simp at hv
    · rw [get_set_ne e] at hv; exact hi.below i hik hv
/-- The search begins at a fresh one. -/
theorem RInv.first {r : Row} {k : Nat} {st : List Int} (hi : RInv r k st []) (ho : st[k]? = some 0) : RInv r (k + 1) (st.set k 1) [(k, succs r k)] := by
  have hlt : k < st.length := by
    rcases Nat.lt_or_ge k st.length with h' | h'
    · exact h'
    · rw [List.getElem?_eq_none h'] at ho; simp at ho
  refine ⟨by rw [List.length_set]; exact hi.len, fun i v hv => ?_, fun i => ?_, by simp, fun S hS i hSi hv => ?_, ⟨by rw [← hi.len]; exact hlt, fun x hx => .inl hx, fun x hx => hx, fun u hu => by simp at hu, trivial⟩, fun i hik hv => ?_⟩
  · by_cases e : k = i
    · subst e; rw [get_set_self ho] at hv; simp at hv; omega
    · rw [get_set_ne e] at hv; exact hi.three i v hv
  · by_cases e : k = i
    · subst e
      rw [get_set_self ho]
      simp
    · rw [get_set_ne e, hi.opens i]
      simp [e]
  · by_cases e : k = i
    · subst e; rw [get_set_self ho] at hv; simp at hv
    · rw [get_set_ne e] at hv; exact hi.live S hS i hSi hv
  · by_cases e : k = i
    · subst e; rw [get_set_self ho] at hv; simp at hv
    · rw [get_set_ne e] at hv; exact hi.below i (by omega) hv
/-- It passes by one that is done. -/
theorem RInv.next {r : Row} {k : Nat} {st : List Int} (hi : RInv r k st []) (ho : st[k]? ≠ some 0) : RInv r (k + 1) st [] :=
  ⟨hi.len, hi.three, hi.opens, hi.nodup, hi.live, hi.chain, fun i hik => by
    by_cases e : i = k
    · subst e; exact ho
    · exact hi.below i (by omega)⟩
theorem RInv.start (r : Row) : RInv r 0 (List.replicate r.code.length 0) [] := by
  refine ⟨by simp, fun i v hv => ?_, fun i => ?_, by simp, fun S hS i hSi hv => ?_, trivial, fun i hik => absurd hik (Nat.not_lt_zero i)⟩
  · rw [List.getElem?_replicate] at hv
    split at hv <;> simp at hv; omega
  · rw [List.getElem?_replicate]
    split <;> simp
  · rw [List.getElem?_replicate] at hv
    split at hv <;> simp at hv
theorem RInv.noOpen {r : Row} {k : Nat} {st : List Int} (hi : RInv r k st []) (i : Nat) : st[i]? ≠ some 1 := fun h => by
  obtain ⟨x, hx, _⟩ := (hi.opens i).1 h
  simp at hx
/-- All are done: there is no ring. -/
theorem RInv.last {r : Row} {st : List Int} (hi : RInv r r.code.length st []) : circlesB r = false := by
  unfold circlesB
  rw [@decide_eq_false_iff_not _ (Classical.propDecidable _)]
  rintro ⟨S, hS, i, hSi⟩
  obtain ⟨hlt, _⟩ := hS i hSi
  have hl : i < st.length := by rw [hi.len]; exact hlt
  have hv : st[i]? = some st[i] := List.getElem?_eq_getElem hl
  rcases hi.three i _ hv with h | h | h
  · exact hi.below i hlt (by rw [hv, h])
  · exact hi.noOpen i (by rw [hv, h])
  · exact hi.live S hS i hSi (by rw [hv, h])

/-! ### how long it can go on -/
def fresh (r : Row) (st : List Int) : Nat → Nat
  | 0 => 0
  | m + 1 => (if st[m]? = some 0 then (succs r m).length + 2 else 0) + fresh r st m
def left : List (Nat × List Int) → Nat
  | [] => 0
  | (_, l) :: t => l.length + 1 + left t
theorem fresh_set_ge {r : Row} {st : List Int} {i : Nat} {v : Int} : ∀ m, m ≤ i → fresh r (st.set i v) m = fresh r st m
  | 0, _ => rfl
  | m + 1, h => by
    have hm := fresh_set_ge (r := r) (st := st) (i := i) (v := v) m (by omega)
    simp only [fresh, hm, get_set_ne (st := st) (v := v) (show i ≠ m by omega)]
theorem fresh_set {r : Row} {st : List Int} {i : Nat} {v : Int} (hv : v ≠ 0) (h0 : st[i]? = some 0) : ∀ m, i < m → fresh r (st.set i v) m + ((succs r i).length + 2) = fresh r st m
  | 0, h => absurd h (Nat.not_lt_zero i)
  | m + 1, h => by
    simp only [fresh]
    by_cases e : i = m
    · subst e
      rw [get_set_self h0, fresh_set_ge i (Nat.le_refl i), h0]
      simp [hv]
      omega
    · have := fresh_set (r := r) hv h0 m (by omega)
      rw [get_set_ne e]
      omega
theorem fresh_keep {r : Row} {st : List Int} {i : Nat} {v w : Int} (hv : v ≠ 0) (h0 : st[i]? = some w) (hw : w ≠ 0) : ∀ m, fresh r (st.set i v) m = fresh r st m
  | 0 => rfl
  | m + 1 => by
    have hm := fresh_keep (r := r) hv h0 hw m
    by_cases e : i = m
    · subst e
      simp only [fresh, hm, get_set_self h0, h0, Option.some.injEq, hv, hw, if_false]
    · simp only [fresh, hm, get_set_ne e]
end Go.Ev.Lc
/- LowerChecks, the program's side: rings without a tick, the memory of the search. -/
namespace Go.Ev.Lc
open Go.Ev.Tab
set_option maxRecDepth 100000
set_option linter.all false

abbrev kInt (l : List Int) : List AV := l.map fun n => AV.int .i64 n
/-! ### rows of cells -/
theorem lt_of_get {α : Type} {l : List α} {j : Nat} {x : α} (h : l[j]? = some x) : j < l.length := by
  rcases Nat.lt_or_ge j l.length with h' | h'
  · exact h'
  · rw [List.getElem?_eq_none h'] at h; simp at h
theorem cut_one {cs : List AV} {j : Nat} {x : AV} (h : cs[j]? = some x) : cut cs (j * 1) 1 = some [x] := by
  have hj := lt_of_get h
  unfold cut
  have : (cs.drop (j * 1)).take 1 = [x] := by
    rw [Nat.mul_one, List.drop_eq_getElem_cons hj]
    rw [List.getElem?_eq_getElem hj] at h
    simp [Option.some.inj h]
  simp only [this]
  rfl
theorem over_one {cs : List AV} {j : Nat} {x : AV} (hj : j < cs.length) : over cs (j * 1) [x] = some (cs.set j x) := by
  unfold over
  have h1 : Nat.ble (j * 1 + [x].length) cs.length = true := by
    apply ble_of
    simp; omega
  rw [h1]
  simp only [Option.some.injEq]
  rw [Nat.mul_one, List.set_eq_take_append_cons_drop]
  simp [hj]
theorem over_int {st : List Int} {j : Nat} {v : Int} (hj : j < st.length) : over (kInt st) (j * 1) [.int .i64 v] = some (kInt (st.set j v)) := by
  rw [over_one (by simpa using hj), kInt, kInt, List.map_set]
theorem take_get {α : Type} {cs l : List α} {m : Nat} {a : α} (h : cs.take (m + 1) = l ++ [a]) (hl : l.length = m) : cs[m]? = some a ∧ cs.take m = l ∧ m < cs.length := by
  have hlen : m < cs.length := by
    have := congrArg List.length h
    simp at this
    omega
  have h1 : (cs.take (m + 1))[m]? = some a := by rw [h]; simp [← hl]
  rw [List.getElem?_take, if_pos (Nat.lt_succ_self m)] at h1
  refine ⟨h1, ?_, hlen⟩
  have h2 : (cs.take (m + 1)).take m = l := by rw [h]; simp [← hl]
  rw [List.take_take, Nat.min_eq_left (Nat.le_succ m)] at h2
  exact h2
theorem take_set_last {α : Type} {cs l : List α} {m : Nat} {a x : α} (h : cs.take (m + 1) = l ++ [a]) (hl : l.length = m) : (cs.set m x).take (m + 1) = l ++ [x] := by
  obtain ⟨_, h2, h3⟩ := take_get h hl
  rw [List.take_set, List.take_add_one, h2]
  have : cs[m]?.toList = [a] := by obtain ⟨h1, _⟩ := take_get h hl; rw [h1]; rfl
  rw [this, List.set_append_right _ _ (by omega)]
  simp [hl]

/-! ### what the search's memory holds -/
structure Ent where
  id : Nat
  h : Nat
  rest : List Int
abbrev Ent.sl (e : Ent) : AV := .sl e.id 0 (e.rest.length + 1)
abbrev entL (stk : List Ent) : List (Nat × List Int) := stk.map fun e => (e.h, e.rest)
def EntOk (s : St) (e : Ent) : Prop := 4 ≤ e.id ∧ e.id < s.nx ∧ ∃ cs ex, rowH s.H e.id = some (cs, 1, ex) ∧ cs.take (e.rest.length + 1) = K e.h :: kInt e.rest
/-- What the stack's cell holds. -/
def StkOk (s : St) (stk : List Ent) (w : AV) : Prop :=
  (stk = [] ∧ w = .nils) ∨ ∃ sid cs ex, w = .sl sid 0 stk.length ∧ 4 ≤ sid ∧ sid < s.nx ∧ rowH s.H sid = some (cs, 1, ex) ∧ cs.take stk.length = (stk.map Ent.sl).reverse ∧ ∀ e ∈ stk, e.id ≠ sid
structure RMem (r : Row) (st : List Int) (stk : List Ent) (s : St) : Prop where
  row : rowH s.H 0 = some (rowCells r, 5, 1)
  state : rowH s.H 1 = some (kInt st, 1, 1)
  cellS : rowH s.H 2 = some ([.sl 1 0 r.code.length], 1, 1)
  nx : 4 ≤ s.nx
  ents : ∀ e ∈ stk, EntOk s e
  cell : ∃ w, rowH s.H 3 = some ([w], 1, 1) ∧ StkOk s stk w

theorem roomy_of {n b : Nat} (h : n * (b + 1) ≤ 68719476736) : roomy n b = true := ble_of h
theorem beq_self (n : Nat) : Nat.beq n n = true := Nat.beq_refl n
theorem appendTo_nils {s : St} {x : AV} (hx : x.cellOk = true) : appendTo 0 s 48 1 24 .nils 1 [x] = some (.sl s.nx 0 1, s.new (.cells [x] 1 48)) := by
  unfold appendTo
  simp only [List.all_cons, List.all_nil, hx, Bool.and_self]
  rfl
theorem appendTo_sl {s : St} {ext sz bytes id off len n ex : Nat} {cs xs ys : List AV} (hn : Nat.beq n 0 = false) (hy : ys.all AV.cellOk = true) (hrow : row s id = some (cs, sz, ex)) (hc : cut cs off (len * sz) = some xs) (hr : roomy (len + n) bytes = true) :
    appendTo 0 s ext sz bytes (.sl id off len) n ys = if (Nat.beq (ex % 2) 1 && Nat.beq (off + len * sz) cs.length) = true then some (.sl s.nx 0 (len + n), s.new (.cells (xs ++ ys) sz ext))
      else some (.sl s.nx 0 (len + n), St.new { s with H := s.H.del id } (.cells (xs ++ ys) sz (keptEx off ex ext))) := by
  unfold appendTo
  simp only [hn, hy, hrow, hc, hr, beq_self, Nat.zero_le, if_true]
/-- One more on the stack. -/
theorem append_stack {s : St} {stk : List Ent} {w x : AV} (hw : StkOk s stk w) (hroom : stk.length ≤ 1000000) (hx : x.cellOk = true) :
    ∃ s1 ex1, appendTo 0 s 48 1 24 w 1 [x] = some (.sl s.nx 0 (stk.length + 1), s1) ∧ s1.nx = s.nx + 1 ∧ rowH s1.H s.nx = some ((stk.map Ent.sl).reverse ++ [x], 1, ex1) ∧
      ∀ i, i ≠ s.nx → (∀ sid, w = .sl sid 0 stk.length → i ≠ sid) → rowH s1.H i = rowH s.H i := by
  have hr := roomy_of (n := stk.length + 1) (b := 24) (by omega)
  rcases hw with ⟨rfl, rfl⟩ | ⟨sid, cs, ex, rfl, _, hsid, hrow, htake, _⟩
  · exact ⟨s.new (.cells [x] 1 48), 48, appendTo_nils hx, rfl, rowH_set .., fun i hi _ => rowH_ne hi⟩
  · have hcut : cut cs 0 (stk.length * 1) = some (stk.map Ent.sl).reverse := by
      unfold cut
      rw [List.drop_zero, Nat.mul_one, htake]
      simp
    rw [appendTo_sl rfl (by simp [hx]) hrow hcut hr]
    split
    · exact ⟨s.new (.cells ((stk.map Ent.sl).reverse ++ [x]) 1 48), 48, rfl, rfl, rowH_set .., fun i hi _ => rowH_ne hi⟩
    · refine ⟨St.new { s with H := s.H.del sid } (.cells ((stk.map Ent.sl).reverse ++ [x]) 1 (keptEx 0 ex 48)), _, rfl, rfl, rowH_set .., fun i hi hs => ?_⟩
      show rowH ((s.H.del sid).set s.nx _) i = _
      rw [rowH_ne hi, rowH_del (hs sid rfl)]
/-- What comes behind an instruction, behind it. -/
theorem append_next {s : St} {y : Nat} {a : Int} {l : List Int} (hrow : rowH s.H y = some ([K a], 1, 1)) (hy : y < s.nx) (hl : l.length ≤ 1000000) :
    ∃ s1 id ex1, appendTo 0 s 8 1 8 (.sl y 0 1) l.length (kInt l) = some (.sl id 0 (l.length + 1), s1) ∧ s.nx ≤ s1.nx ∧ y ≤ id ∧ id < s1.nx ∧ rowH s1.H id = some (K a :: kInt l, 1, ex1) ∧ ∀ i, i < s.nx → rowH s1.H i = rowH s.H i := by
  cases l with
  | nil => exact ⟨s, y, 1, rfl, Nat.le_refl _, Nat.le_refl _, hy, hrow, fun _ _ => rfl⟩
  | cons b t =>
    have hr := roomy_of (n := 1 + (t.length + 1)) (b := 8) (by simp at hl; omega)
    have hok : (kInt (b :: t)).all AV.cellOk = true := by simp [AV.cellOk]
    have hcut : cut [K a] 0 (1 * 1) = some [K a] := rfl
    have h := appendTo_sl (ext := 8) (n := t.length + 1) rfl hok hrow hcut hr
    refine ⟨s.new (.cells ([K a] ++ kInt (b :: t)) 1 8), s.nx, 8, ?_, Nat.le_succ _, Nat.le_of_lt hy, Nat.lt_succ_self _, rowH_set s.H s.nx ([K a] ++ kInt (b :: t)) 1 8, fun i hi => rowH_ne (Nat.ne_of_lt hi)⟩
    rw [List.length_cons, h, Nat.add_comm 1 (t.length + 1)]
    rfl
theorem flatMap_ints (l : List Int) : (kInt l).flatMap flat = kInt l := by
  induction l with
  | nil => rfl
  | cons a r ih => simp only [kInt, List.map_cons, List.flatMap_cons] at ih ⊢; rw [ih]; rfl
theorem all_ints1 (l : List Int) : ((kInt l).all fun e => Nat.beq (flat e).length 1) = true := by
  simp [flat]
theorem evWet_next {gl : Nat → AV} {env : Pl} {s : St} {x y : Eo} {l : List Int} {b : AV} (hx : x.evF gl env = b) (hy : y.evF gl env = ints l) : evWetF gl env 0 s (.append 8 1 8 x y) = appendTo 0 s 8 1 8 b l.length (kInt l) := by
  simp only [evWetF, hx, hy, lenOf, cellsOf, all_ints1, flatMap_ints, List.length_map]
theorem evWet_nils {gl : Nat → AV} {env : Pl} {s : St} {x y : Eo} {i n : Nat} (hx : x.evF gl env = .sl i 0 n) (hy : y.evF gl env = .nils) : evWetF gl env 0 s (.append 8 1 8 x y) = some (.sl i 0 n, s) := by
  simp only [evWetF, hx, hy, lenOf, cellsOf]
  rfl
theorem evWet_stack {gl : Nat → AV} {env : Pl} {s : St} {x y : Eo} {b c : AV} {z ex : Nat} (hx : x.evF gl env = b) (hy : y.evF gl env = .sl z 0 1) (hrow : rowH s.H z = some ([c], 1, ex)) : evWetF gl env 0 s (.append 48 1 24 x y) = appendTo 0 s 48 1 24 b 1 [c] := by
  have hcut : cut [c] 0 (1 * 1) = some [c] := rfl
  have hb1 : Nat.beq 1 1 = true := rfl
  simp only [evWetF, hx, hy, lenOf, cellsOf, row_rowH, hrow, hcut, hb1]
/-- What is held behind a visit of a fresh one. -/
theorem RMem.visited {r : Row} {st : List Int} {stk : List Ent} {s s5 : St} (hm : RMem r st stk s) {at' : Nat} {rest : List Int} {id sid ex ex' : Nat} (hnx : s.nx ≤ s5.nx) (hid : s.nx ≤ id) (hid2 : id < s5.nx) (hsid : s.nx ≤ sid) (hsid2 : sid < s5.nx) (hne : id ≠ sid)
    (h0 : rowH s5.H 0 = rowH s.H 0) (h1 : rowH s5.H 1 = some (kInt (st.set at' 1), 1, 1)) (h2 : rowH s5.H 2 = rowH s.H 2) (h3 : rowH s5.H 3 = some ([.sl sid 0 (stk.length + 1)], 1, 1))
    (hent : rowH s5.H id = some (K at' :: kInt rest, 1, ex)) (hst : rowH s5.H sid = some ((stk.map Ent.sl).reverse ++ [.sl id 0 (rest.length + 1)], 1, ex')) (hold : ∀ e ∈ stk, rowH s5.H e.id = rowH s.H e.id) :
    RMem r (st.set at' 1) (⟨id, at', rest⟩ :: stk) s5 := by
  have h4 := hm.nx
  refine ⟨h0.trans hm.row, h1, h2.trans hm.cellS, Nat.le_trans h4 hnx, fun e he => ?_, _, h3, .inr ⟨sid, _, ex', rfl, by omega, hsid2, hst, ?_, fun e he => ?_⟩⟩
  · rcases List.mem_cons.1 he with rfl | he
    · exact ⟨by simp only; omega, hid2, _, ex, hent, List.take_of_length_le (by simp [kInt])⟩
    · obtain ⟨g1, g2, cs, x, g3, g4⟩ := hm.ents e he
      exact ⟨g1, by omega, cs, x, (hold e he).trans g3, g4⟩
  · rw [List.map_cons, List.reverse_cons]
    exact List.take_of_length_le (by simp)
  · rcases List.mem_cons.1 he with rfl | he
    · exact hne
    · have := (hm.ents e he).2.1
      omega
end Go.Ev.Lc
/- LowerChecks, the program's side: rings without a tick, the walk. -/
namespace Go.Ev.Lc
open Go.Ev.Tab
set_option maxRecDepth 100000
set_option linter.all false

theorem StkOk.mono {s s' : St} {stk : List Ent} {w : AV} (h : StkOk s stk w) (hn : s.nx ≤ s'.nx) (hr : ∀ i, 4 ≤ i → i < s.nx → rowH s'.H i = rowH s.H i) : StkOk s' stk w := by
  rcases h with h | ⟨sid, cs, ex, h1, h2, h3, h4, h5⟩
  · exact .inl h
  · exact .inr ⟨sid, cs, ex, h1, h2, by omega, (hr sid h2 h3).trans h4, h5⟩
/-- The last steps of a visit of a fresh one: it goes upon the stack. -/
theorem visit_end {r : Row} {st : List Int} {stk : List Ent} {s s2 : St} (hm : RMem r st stk s) {at' : Nat} {rest : List Int} {id ex : Nat} {w : AV} (hroom : stk.length ≤ 1000000) (hnx : s.nx ≤ s2.nx) (hid : s.nx ≤ id) (hid2 : id < s2.nx)
    (h1 : rowH s2.H 1 = some (kInt (st.set at' 1), 1, 1)) (hk : ∀ i, i ≠ 1 → i < s.nx → rowH s2.H i = rowH s.H i) (hent : rowH s2.H id = some (K at' :: kInt rest, 1, ex)) (hw : rowH s.H 3 = some ([w], 1, 1)) (hso : StkOk s stk w) :
    ∃ s4 : St, appendTo 0 (s2.new (.cells [.sl id 0 (rest.length + 1)] 1 1)) 48 1 24 w 1 [.sl id 0 (rest.length + 1)] = some (.sl (s2.nx + 1) 0 (stk.length + 1), s4) ∧ rowH s4.H 3 = some ([w], 1, 1) ∧
      RMem r (st.set at' 1) (⟨id, at', rest⟩ :: stk) { s4 with H := s4.H.set 3 (.cells [.sl (s2.nx + 1) 0 (stk.length + 1)] 1 1) } := by
  have h4 := hm.nx
  have hs3 : StkOk (s2.new (.cells [.sl id 0 (rest.length + 1)] 1 1)) stk w := hso.mono (by show s.nx ≤ s2.nx + 1; omega) fun i hi hi2 => by
    show rowH (s2.H.set s2.nx _) i = _
    rw [rowH_ne (by omega), hk i (by omega) hi2]
  obtain ⟨s4, ex1, ha, hn, hr, hrest⟩ := append_stack (x := .sl id 0 (rest.length + 1)) hs3 hroom rfl
  have hrow : ∀ i, i < s2.nx → (∀ sid, w = .sl sid 0 stk.length → i ≠ sid) → rowH s4.H i = rowH s2.H i := fun i hi h => by
    rw [hrest i (by show i ≠ s2.nx + 1; omega) h]
    show rowH (s2.H.set s2.nx _) i = _
    rw [rowH_ne (by omega)]
  have hlow : ∀ i, i < 4 → ∀ sid, w = .sl sid 0 stk.length → i ≠ sid := fun i hi sid hsid => by
    rcases hso with ⟨_, e⟩ | ⟨sid', _, _, e, g, _⟩
    · rw [e] at hsid; simp at hsid
    · rw [e] at hsid; simp at hsid; omega
  have hsid : ∀ sid, w = .sl sid 0 stk.length → sid < s.nx ∧ ∀ e ∈ stk, e.id ≠ sid := fun sid hsid => by
    rcases hso with ⟨_, e⟩ | ⟨sid', _, _, e, _, g, _, _, g2⟩
    · rw [e] at hsid; simp at hsid
    · rw [e] at hsid; simp at hsid; subst hsid; exact ⟨g, g2⟩
  refine ⟨s4, ha, ?_, ?_⟩
  · rw [hrow 3 (by omega) (hlow 3 (by omega)), hk 3 (by omega) (by omega)]; exact hw
  have hn' : s4.nx = s2.nx + 2 := hn
  have hset : ∀ i, i ≠ 3 → rowH (s4.H.set 3 (.cells [.sl (s2.nx + 1) 0 (stk.length + 1)] 1 1)) i = rowH s4.H i := fun i hi => rowH_ne hi
  refine hm.visited (sid := s2.nx + 1) (ex := ex) (ex' := ex1) (by show s.nx ≤ s4.nx; omega) hid (by show id < s4.nx; omega) (by omega) (by show s2.nx + 1 < s4.nx; omega) (by omega) ?_ ?_ ?_ (rowH_set ..) ?_ ?_ fun e he => ?_
  · exact (hset 0 (by omega)).trans ((hrow 0 (by omega) (hlow 0 (by omega))).trans (hk 0 (by omega) (by omega)))
  · exact (hset 1 (by omega)).trans ((hrow 1 (by omega) (hlow 1 (by omega))).trans h1)
  · exact (hset 2 (by omega)).trans ((hrow 2 (by omega) (hlow 2 (by omega))).trans (hk 2 (by omega) (by omega)))
  · exact (hset id (by omega)).trans ((hrow id hid2 fun sid h e => by have := (hsid sid h).1; omega).trans hent)
  · exact (hset _ (by omega)).trans hr
  · obtain ⟨g1, g2, _⟩ := hm.ents e he
    exact (hset _ (by omega)).trans ((hrow _ (by omega) fun sid h => (hsid sid h).2 e he).trans (hk _ (by omega) g2))
set_option maxHeartbeats 4000000 in
theorem t56 (E : Env) (h : E.fns 56 = some e56) (h57 : ToldBy E 57 q61) (r : Row) (hs : short r.code = true) (hin : Inside r) (hts : ∀ (i : Nat) (c : Code'), r.code[i]? = some c → c.to.length ≤ 65) (st : List Int) (stk : List Ent) (s : St) (hm : RMem r st stk s)
    (hlen : st.length = r.code.length) (hroom : stk.length ≤ 1000000) (a : Nat) (v : Int) (hv : st[a]? = some v) (KK : AV → St → Prop) (h0 : v = 0 → ∀ s' id, RMem r (st.set a 1) (⟨id, a, succs r a⟩ :: stk) s' → KK (.bool false) s') (h1 : v ≠ 0 → KK (.bool (v == 1)) s) :
    callK E 0 56 ([] ++ [K a] ++ [.ptr 2 0, .ptr 0 0, .ptr 3 0]) s KK := by
  have hlt : a < r.code.length := by rw [← hlen]; exact lt_of_get hv
  have hcut := cut_one (map_get (f := fun n => AV.int .i64 n) hv)
  have r0 := hm.row
  have r1 := hm.state
  have r2 := hm.cellS
  have hnx := hm.nx
  refine callK_run h rfl (fn_run h rfl rfl (plOf_args0 ..) ?_)
  simp only [argPl, e56, List.nil_append, List.cons_append]
  cases hb : (v == 0) with
  | false =>
    have h1 := h1 (by simpa using hb)
    clear h0 hm hv hlen hts hs hin hnx
    repeat' (first
    | with_reducible refine Red.go ?_
    | ((with_reducible apply blkK_pass); rfl)
    | ((with_reducible first | apply wpOps_dry | apply wpOps_wet | apply wpOps_wet0); (simp only [evDryF, evWetF, St.new, Nat.reduceAdd, Nat.zero_add, Nat.add_zero, Eo.evF, upd_ap, reduceIte, Nat.reduceEqDiff, Bool.false_eq_true, Bool.not_true, Bool.not_false, flat, binAV, binInt, gint, natOf_cast, row_rowH, *]; rfl))
    | ((with_reducible apply wpOps_undef)
       · simp only [upd_ap, reduceIte, Nat.reduceEqDiff]; done)
    | ((with_reducible first | apply wpOps_test | apply wp_test); (simp only [Eo.evF, upd_ap, reduceIte, Nat.reduceEqDiff, Bool.false_eq_true, Bool.not_true, Bool.not_false, flat, binAV, binInt, gint, natOf_cast, row_rowH, *]; rfl))
    | (with_reducible apply testK_mk
       all_goals (intro hb; try simp only [Bool.not_true, Bool.not_false, Bool.not_eq_true', Bool.not_eq_false'] at hb)))
    refine fnK_one ?_
    simpa [upd_ap] using h1
  | true =>
    have hv0 : v = 0 := by simpa using hb
    have hk0 := h0 hv0
    clear h0 h1
    obtain ⟨c, hc, _⟩ := get_ex hlt
    have hc' := map_get (f := encCode) hc
    obtain ⟨hok, _⟩ := hin a c hc
    have q := q61_eq hs hc hok
    have hover : over (kInt st) (a * 1) [.int .i64 1] = some (kInt (st.set a 1)) := over_int (by omega)
    have hsu : succs r a = if (c.op == 258) = true then [] else nextL c a := by simp only [succs, hc]
    have hll : (nextL c a).length ≤ 65 := by
      have := hts a c hc
      unfold nextL
      split
      · simp
      · split
        · exact this
        · split
          · split <;> simp
          · simp
    obtain ⟨w, hw, hso⟩ := hm.cell
    have hcw : cut [w] 0 1 = some [w] := rfl
    have huw : unflat false [w] = some w := by
      rcases hso with ⟨_, rfl⟩ | ⟨_, _, _, rfl, _⟩ <;> rfl
    have n0 : (0 = s.nx) = False := by simp; omega
    have n1 : (1 = s.nx) = False := by simp; omega
    have n2 : (2 = s.nx) = False := by simp; omega
    have n3 : (3 = s.nx) = False := by simp; omega
    have hw1 : ∀ o, rowH (s.H.set 1 o) 3 = some ([w], 1, 1) := fun o => by rw [rowH_ne (by omega)]; exact hw
    clear hv hlen hts hs hin
    clear hb
    subst hv0
    have hb0 : ((0 : Int) == 0) = true := rfl
    have hm' := hm
    have hso' := hso
    have hnx' : 4 ≤ s.nx := hnx
    clear hnx hso hm hok hc
    cases hop : (c.op == 258) with
    | true =>
      rw [hsu, hop, if_pos rfl] at hk0
      clear hsu hll q
      have he := visit_end (rest := []) (s2 := ⟨(s.H.set 1 (.cells (kInt (st.set a 1)) 1 1)).set s.nx (.cells [K a] 1 1), s.nx + 1⟩) hm' (at' := a) hroom (Nat.le_succ _) (Nat.le_refl _) (Nat.lt_succ_self _)
        (by rw [rowH_ne (by omega), rowH_set]) (fun i hi hi2 => by rw [rowH_ne (by omega), rowH_ne hi]) (rowH_set ..) hw hso'
      clear hso' hm' hroom
      obtain ⟨s4, ha, hw4, hfin⟩ := he
      have hk0 := hk0 _ _ hfin
      clear hfin
      repeat' (first
      | with_reducible refine Red.go ?_
      | ((with_reducible apply blkK_pass); rfl)
      | ((with_reducible first | apply wpOps_dry | apply wpOps_wet | apply wpOps_wet0); (simp only [evDryF, evWetF, St.new, Nat.reduceAdd, Nat.zero_add, Nat.add_zero, Eo.evF, upd_ap, reduceIte, Nat.reduceEqDiff, Bool.false_eq_true, Bool.not_true, Bool.not_false, flat, binAV, binInt, gint, natOf_cast, row_rowH, rowH_set, rowH_ne, ne_eq, not_false_eq_true, *]; rfl))
      | ((with_reducible apply wpOps_undef)
         · simp only [upd_ap, reduceIte, Nat.reduceEqDiff]; done)
      | ((with_reducible first | apply wpOps_test | apply wp_test); (simp only [Eo.evF, upd_ap, reduceIte, Nat.reduceEqDiff, Bool.false_eq_true, Bool.not_true, Bool.not_false, flat, binAV, binInt, gint, natOf_cast, row_rowH, rowH_set, rowH_ne, ne_eq, not_false_eq_true, *]; rfl))
      | (with_reducible apply testK_mk
         all_goals (intro hb; try simp only [Bool.not_true, Bool.not_false, Bool.not_eq_true', Bool.not_eq_false'] at hb)))
      apply wpOps_wet
      · refine Eq.trans (evWet_stack (b := w) (z := s.nx + 1) (c := .sl s.nx 0 1) (ex := 1) ?_ ?_ ?_) ha
        · simp only [Eo.evF, upd_ap, reduceIte, Nat.reduceEqDiff]
        · simp only [Eo.evF, upd_ap, reduceIte, Nat.reduceEqDiff]
        · exact rowH_set ..
      clear ha
      repeat' (first
      | with_reducible refine Red.go ?_
      | ((with_reducible apply blkK_pass); rfl)
      | ((with_reducible first | apply wpOps_dry | apply wpOps_wet | apply wpOps_wet0); (simp only [evDryF, evWetF, St.new, Nat.reduceAdd, Nat.zero_add, Nat.add_zero, Eo.evF, upd_ap, reduceIte, Nat.reduceEqDiff, Bool.false_eq_true, Bool.not_true, Bool.not_false, flat, row_rowH, *]; rfl))
      | ((with_reducible apply wpOps_undef)
         · simp only [upd_ap, reduceIte, Nat.reduceEqDiff]; done)
      | ((with_reducible first | apply wpOps_test | apply wp_test); (simp only [Eo.evF, upd_ap, reduceIte, Nat.reduceEqDiff, Bool.false_eq_true, Bool.not_true, Bool.not_false, flat, row_rowH, *]; rfl))
      | (with_reducible apply testK_mk
         all_goals (intro hb; try simp only [Bool.not_true, Bool.not_false, Bool.not_eq_true', Bool.not_eq_false'] at hb)))
      refine fnK_one ?_
      exact hk0
    | false =>
      rw [hsu, hop, if_neg (by simp)] at hk0
      cases hop2 : (c.op == 276 || c.op == 277) with
      | true =>
        have hn : nextL c a = [] := by simp only [nextL, hop2, if_true]
        have hv : nextV c a = .nils := by simp only [nextV, hop2, if_true]
        rw [hv] at q
        rw [hn] at hk0
        clear hsu hll hn hv hop2
        have he := visit_end (rest := []) (s2 := ⟨(s.H.set 1 (.cells (kInt (st.set a 1)) 1 1)).set s.nx (.cells [K a] 1 1), s.nx + 1⟩) hm' (at' := a) hroom (Nat.le_succ _) (Nat.le_refl _) (Nat.lt_succ_self _)
          (by rw [rowH_ne (by omega), rowH_set]) (fun i hi hi2 => by rw [rowH_ne (by omega), rowH_ne hi]) (rowH_set ..) hw hso'
        clear hso' hm' hroom
        obtain ⟨s4, ha, hw4, hfin⟩ := he
        have hk0 := hk0 _ _ hfin
        clear hfin
        repeat' (first
        | with_reducible refine Red.go ?_
        | ((with_reducible apply blkK_pass); rfl)
        | ((with_reducible first | apply wpOps_dry | apply wpOps_wet | apply wpOps_wet0); (simp only [evDryF, evWetF, St.new, Nat.reduceAdd, Nat.zero_add, Nat.add_zero, Eo.evF, upd_ap, reduceIte, Nat.reduceEqDiff, Bool.false_eq_true, Bool.not_true, Bool.not_false, flat, binAV, binInt, gint, natOf_cast, row_rowH, rowH_set, rowH_ne, ne_eq, not_false_eq_true, *]; rfl))
        | ((with_reducible apply wpOps_undef)
           · simp only [upd_ap, reduceIte, Nat.reduceEqDiff]; done)
        | ((with_reducible apply wpOps_told); assumption; (simp only [evsF, List.map_cons, List.map_nil, Eo.evF, upd_ap, reduceIte, Nat.reduceEqDiff, Bool.false_eq_true, Bool.not_true, Bool.not_false, flat, binAV, binInt, gint, natOf_cast, row_rowH, rowH_set, rowH_ne, ne_eq, not_false_eq_true, *]; rfl); first | (simp only [q]; rfl) | assumption)
        | ((with_reducible first | apply wpOps_test | apply wp_test); (simp only [Eo.evF, upd_ap, reduceIte, Nat.reduceEqDiff, Bool.false_eq_true, Bool.not_true, Bool.not_false, flat, binAV, binInt, gint, natOf_cast, row_rowH, rowH_set, rowH_ne, ne_eq, not_false_eq_true, *]; rfl))
        | (with_reducible apply testK_mk
           all_goals (intro hb; try simp only [Bool.not_true, Bool.not_false, Bool.not_eq_true', Bool.not_eq_false'] at hb)))
        apply wpOps_wet
        · refine Eq.trans (evWet_stack (b := w) (z := s.nx + 1) (c := .sl s.nx 0 1) (ex := 1) ?_ ?_ ?_) ha
          · simp only [Eo.evF, upd_ap, reduceIte, Nat.reduceEqDiff]
          · simp only [Eo.evF, upd_ap, reduceIte, Nat.reduceEqDiff]
          · exact rowH_set ..
        clear ha
        repeat' (first
        | with_reducible refine Red.go ?_
        | ((with_reducible apply blkK_pass); rfl)
        | ((with_reducible first | apply wpOps_dry | apply wpOps_wet | apply wpOps_wet0); (simp only [evDryF, evWetF, St.new, Nat.reduceAdd, Nat.zero_add, Nat.add_zero, Eo.evF, upd_ap, reduceIte, Nat.reduceEqDiff, Bool.false_eq_true, Bool.not_true, Bool.not_false, flat, row_rowH, *]; rfl))
        | ((with_reducible apply wpOps_undef)
           · simp only [upd_ap, reduceIte, Nat.reduceEqDiff]; done)
        | ((with_reducible first | apply wpOps_test | apply wp_test); (simp only [Eo.evF, upd_ap, reduceIte, Nat.reduceEqDiff, Bool.false_eq_true, Bool.not_true, Bool.not_false, flat, row_rowH, *]; rfl))
        | (with_reducible apply testK_mk
           all_goals (intro hb; try simp only [Bool.not_true, Bool.not_false, Bool.not_eq_true', Bool.not_eq_false'] at hb)))
        refine fnK_one ?_
        exact hk0
      | false =>
        have hv : nextV c a = ints (nextL c a) := by simp only [nextV, hop2, Bool.false_eq_true, if_false]
        rw [hv] at q
        clear hsu hv hop2
        obtain ⟨s2, id, ex1, ha2, hn1, hn2, hn3, hn4, hn5⟩ := append_next (s := ⟨(s.H.set 1 (.cells (kInt (st.set a 1)) 1 1)).set s.nx (.cells [K a] 1 1), s.nx + 1⟩) (y := s.nx) (a := a) (l := nextL c a) (rowH_set ..) (Nat.lt_succ_self _) (by omega)
        have hn1 : s.nx + 1 ≤ s2.nx := hn1
        have hn5 : ∀ i, i < s.nx + 1 → rowH s2.H i = rowH ((s.H.set 1 (.cells (kInt (st.set a 1)) 1 1)).set s.nx (.cells [K a] 1 1)) i := hn5
        have he := visit_end (rest := nextL c a) (s2 := s2) hm' (at' := a) hroom (by omega) hn2 hn3
          (by rw [hn5 1 (by omega), rowH_ne (by omega), rowH_set]) (fun i hi hi2 => by rw [hn5 i (by omega), rowH_ne (by omega), rowH_ne hi]) hn4 hw hso'
        have hw3 : rowH s2.H 3 = some ([w], 1, 1) := by rw [hn5 3 (by omega), rowH_ne (by omega), rowH_ne (by omega)]; exact hw
        clear hso' hm' hroom hn1 hn2 hn3 hn4 hn5 hll
        obtain ⟨s4, ha, hw4, hfin⟩ := he
        have hk0 := hk0 _ _ hfin
        clear hfin
        repeat' (first
        | with_reducible refine Red.go ?_
        | ((with_reducible apply blkK_pass); rfl)
        | ((with_reducible first | apply wpOps_dry | apply wpOps_wet | apply wpOps_wet0); (simp only [evDryF, evWetF, St.new, Nat.reduceAdd, Nat.zero_add, Nat.add_zero, Eo.evF, upd_ap, reduceIte, Nat.reduceEqDiff, Bool.false_eq_true, Bool.not_true, Bool.not_false, flat, binAV, binInt, gint, natOf_cast, row_rowH, rowH_set, rowH_ne, ne_eq, not_false_eq_true, *]; rfl))
        | ((with_reducible apply wpOps_undef)
           · simp only [upd_ap, reduceIte, Nat.reduceEqDiff]; done)
        | ((with_reducible apply wpOps_told); assumption; (simp only [evsF, List.map_cons, List.map_nil, Eo.evF, upd_ap, reduceIte, Nat.reduceEqDiff, Bool.false_eq_true, Bool.not_true, Bool.not_false, flat, binAV, binInt, gint, natOf_cast, row_rowH, rowH_set, rowH_ne, ne_eq, not_false_eq_true, *]; rfl); first | (simp only [q]; rfl) | assumption)
        | ((with_reducible first | apply wpOps_test | apply wp_test); (simp only [Eo.evF, upd_ap, reduceIte, Nat.reduceEqDiff, Bool.false_eq_true, Bool.not_true, Bool.not_false, flat, binAV, binInt, gint, natOf_cast, row_rowH, rowH_set, rowH_ne, ne_eq, not_false_eq_true, *]; rfl))
        | (with_reducible apply testK_mk
           all_goals (intro hb; try simp only [Bool.not_true, Bool.not_false, Bool.not_eq_true', Bool.not_eq_false'] at hb)))
        apply wpOps_wet
        · refine Eq.trans (evWet_next (b := .sl s.nx 0 1) (l := nextL c a) ?_ ?_) ha2
          · simp only [Eo.evF, upd_ap, reduceIte, Nat.reduceEqDiff]
          · simp only [Eo.evF, upd_ap, reduceIte, Nat.reduceEqDiff]
        clear ha2 q
        repeat' (first
        | with_reducible refine Red.go ?_
        | ((with_reducible apply blkK_pass); rfl)
        | ((with_reducible first | apply wpOps_dry | apply wpOps_wet | apply wpOps_wet0); (simp only [evDryF, evWetF, St.new, Nat.reduceAdd, Nat.zero_add, Nat.add_zero, Eo.evF, upd_ap, reduceIte, Nat.reduceEqDiff, Bool.false_eq_true, Bool.not_true, Bool.not_false, flat, binAV, binInt, gint, natOf_cast, row_rowH, *]; rfl))
        | ((with_reducible apply wpOps_undef)
           · simp only [upd_ap, reduceIte, Nat.reduceEqDiff]; done)
        | ((with_reducible first | apply wpOps_test | apply wp_test); (simp only [Eo.evF, upd_ap, reduceIte, Nat.reduceEqDiff, Bool.false_eq_true, Bool.not_true, Bool.not_false, flat, binAV, binInt, gint, natOf_cast, row_rowH, *]; rfl))
        | (with_reducible apply testK_mk
           all_goals (intro hb; try simp only [Bool.not_true, Bool.not_false, Bool.not_eq_true', Bool.not_eq_false'] at hb)))
        apply wpOps_wet
        · refine Eq.trans (evWet_stack (b := w) (z := s2.nx) (c := .sl id 0 ((nextL c a).length + 1)) (ex := 1) ?_ ?_ ?_) ha
          · simp only [Eo.evF, upd_ap, reduceIte, Nat.reduceEqDiff]
          · simp only [Eo.evF, upd_ap, reduceIte, Nat.reduceEqDiff]
          · exact rowH_set ..
        clear ha
        repeat' (first
        | with_reducible refine Red.go ?_
        | ((with_reducible apply blkK_pass); rfl)
        | ((with_reducible first | apply wpOps_dry | apply wpOps_wet | apply wpOps_wet0); (simp only [evDryF, evWetF, St.new, Nat.reduceAdd, Nat.zero_add, Nat.add_zero, Eo.evF, upd_ap, reduceIte, Nat.reduceEqDiff, Bool.false_eq_true, Bool.not_true, Bool.not_false, flat, row_rowH, *]; rfl))
        | ((with_reducible apply wpOps_undef)
           · simp only [upd_ap, reduceIte, Nat.reduceEqDiff]; done)
        | ((with_reducible first | apply wpOps_test | apply wp_test); (simp only [Eo.evF, upd_ap, reduceIte, Nat.reduceEqDiff, Bool.false_eq_true, Bool.not_true, Bool.not_false, flat, row_rowH, *]; rfl))
        | (with_reducible apply testK_mk
           all_goals (intro hb; try simp only [Bool.not_true, Bool.not_false, Bool.not_eq_true', Bool.not_eq_false'] at hb)))
        refine fnK_one ?_
        exact hk0
end Go.Ev.Lc
/- LowerChecks, the program's side: rings without a tick, the search. -/
namespace Go.Ev.Lc
open Go.Ev.Tab
set_option maxRecDepth 100000
set_option linter.all false

def body26 := match e26.body with
  | .seq _ (.seq _ (.seq _ (.seq _ (.seq (.seq _ (.block _ (.loop b))) _)))) => b
  | _ => .skip
def in26 := match body26 with
  | .seq _ (.seq _ (.seq (.block _ (.seq _ (.seq _ (.block _ (.loop b))))) _)) => b
  | _ => .skip
theorem left_ge : ∀ stk : List Ent, stk.length ≤ left (entL stk)
  | [] => Nat.le_refl _
  | e :: t => by
    have := left_ge t
    simp only [entL, List.map_cons, left, List.length_cons] at this ⊢
    omega
theorem list_last {α : Type} {l : List α} (h : l ≠ []) : ∃ a b, l = a ++ [b] := ⟨l.dropLast, l.getLast h, (List.dropLast_concat_getLast h).symm⟩
theorem succs_in {r : Row} (hin : Inside r) {i : Nat} {x : Int} (h : x ∈ succs r i) : 0 ≤ x ∧ x < r.code.length := by
  unfold succs at h
  split at h
  · rename_i c hc
    split at h
    · simp at h
    · exact (hin i c hc).2 x h
  · simp at h
/-- The stack's row, where there is one. -/
theorem RMem.top {r : Row} {st : List Int} {stk : List Ent} {e : Ent} {s : St} (hm : RMem r st (e :: stk) s) :
    ∃ sid cs ex, rowH s.H 3 = some ([.sl sid 0 (stk.length + 1)], 1, 1) ∧ 4 ≤ sid ∧ sid < s.nx ∧ rowH s.H sid = some (cs, 1, ex) ∧ cs.take (stk.length + 1) = (stk.map Ent.sl).reverse ++ [e.sl] ∧ ∀ x ∈ e :: stk, x.id ≠ sid := by
  obtain ⟨w, h1, h2⟩ := hm.cell
  rcases h2 with ⟨h2, _⟩ | ⟨sid, cs, ex, rfl, h3, h4, h5, h6, h7⟩
  · simp at h2
  · exact ⟨sid, cs, ex, h1, h3, h4, h5, by simpa using h6, h7⟩
/-- The uppermost is done. -/
theorem RMem.popped {r : Row} {st : List Int} {stk : List Ent} {e : Ent} {s : St} (hm : RMem r st (e :: stk) s) {sid : Nat} {cs : List AV} {ex : Nat} (h4 : 4 ≤ sid) (h5 : sid < s.nx) (h6 : rowH s.H sid = some (cs, 1, ex)) (h7 : cs.take (stk.length + 1) = (stk.map Ent.sl).reverse ++ [e.sl]) (h8 : ∀ x ∈ e :: stk, x.id ≠ sid) :
    RMem r (st.set e.h 2) stk ⟨(s.H.set 1 (.cells (kInt (st.set e.h 2)) 1 1)).set 3 (.cells [.sl sid 0 stk.length] 1 1), s.nx⟩ := by
  have hnx := hm.nx
  refine ⟨?_, ?_, ?_, hnx, fun x hx => ?_, _, rowH_set .., .inr ⟨sid, cs, ex, rfl, h4, h5, ?_, ?_, fun x hx => h8 x (List.mem_cons_of_mem _ hx)⟩⟩
  · rw [rowH_ne (by omega), rowH_ne (by omega)]; exact hm.row
  · rw [rowH_ne (by omega), rowH_set]
  · rw [rowH_ne (by omega), rowH_ne (by omega)]; exact hm.cellS
  · obtain ⟨g1, g2, cs', x', g3, g4⟩ := hm.ents x (List.mem_cons_of_mem _ hx)
    exact ⟨g1, g2, cs', x', by rw [rowH_ne (by omega), rowH_ne (by omega)]; exact g3, g4⟩
  · rw [rowH_ne (by omega), rowH_ne (by omega)]; exact h6
  · exact (take_get h7 (by simp)).2.1
/-- One goes from what is left of the uppermost. -/
theorem RMem.taken {r : Row} {st : List Int} {stk : List Ent} {id h : Nat} {rest : List Int} {x : Int} {s : St} (hm : RMem r st (⟨id, h, rest ++ [x]⟩ :: stk) s) {sid : Nat} {cs : List AV} {ex : Nat} (h4 : 4 ≤ sid) (h5 : sid < s.nx) (h6 : rowH s.H sid = some (cs, 1, ex))
    (h7 : cs.take (stk.length + 1) = (stk.map Ent.sl).reverse ++ [.sl id 0 ((rest ++ [x]).length + 1)]) (h8 : ∀ e ∈ (⟨id, h, rest ++ [x]⟩ : Ent) :: stk, e.id ≠ sid) (h3 : rowH s.H 3 = some ([.sl sid 0 (stk.length + 1)], 1, 1)) :
    RMem r st (⟨id, h, rest⟩ :: stk) ⟨s.H.set sid (.cells (cs.set stk.length (.sl id 0 (rest.length + 1))) 1 ex), s.nx⟩ := by
  have hnx := hm.nx
  refine ⟨?_, ?_, ?_, hnx, fun e he => ?_, _, (rowH_ne (by omega)).trans h3, .inr ⟨sid, _, ex, rfl, h4, h5, rowH_set .., ?_, fun e he => ?_⟩⟩
  · rw [rowH_ne (by omega)]; exact hm.row
  · rw [rowH_ne (by omega)]; exact hm.state
  · rw [rowH_ne (by omega)]; exact hm.cellS
  · rcases List.mem_cons.1 he with rfl | he
    · obtain ⟨g1, g2, cs', x', g3, g4⟩ := hm.ents _ (List.mem_cons_self ..)
      refine ⟨g1, g2, cs', x', (rowH_ne (h8 ⟨id, h, rest ++ [x]⟩ (List.mem_cons_self ..))).trans g3, ?_⟩
      have g5 := congrArg (List.take (rest.length + 1)) g4
      rw [List.take_take, Nat.min_eq_left (by simp)] at g5
      rw [g5]
      simp [kInt]
    · obtain ⟨g1, g2, cs', x', g3, g4⟩ := hm.ents e (List.mem_cons_of_mem _ he)
      exact ⟨g1, g2, cs', x', (rowH_ne (h8 _ (List.mem_cons_of_mem _ he))).trans g3, g4⟩
  · have := take_set_last (x := AV.sl id 0 (rest.length + 1)) h7 (by simp)
    simpa using this
  · rcases List.mem_cons.1 he with rfl | he
    · exact h8 ⟨id, h, rest ++ [x]⟩ (List.mem_cons_self ..)
    · exact h8 _ (List.mem_cons_of_mem _ he)
/-- What the uppermost's own row holds. -/
theorem RMem.own {r : Row} {st : List Int} {stk : List Ent} {e : Ent} {s : St} (hm : RMem r st (e :: stk) s) : ∃ cs ex, rowH s.H e.id = some (cs, 1, ex) ∧ cs.take (e.rest.length + 1) = K e.h :: kInt e.rest := by
  obtain ⟨_, _, cs, ex, h1, h2⟩ := hm.ents e (List.mem_cons_self ..)
  exact ⟨cs, ex, h1, h2⟩
theorem take_at {α : Type} {cs l : List α} {n j : Nat} {a : α} (h : cs.take n = l) (hj : l[j]? = some a) : cs[j]? = some a := by
  rw [← h, List.getElem?_take] at hj
  split at hj
  · exact hj
  · simp at hj
abbrev fn56 : AV := .fn 56 [] [.ptr 2 0, .ptr 0 0, .ptr 3 0]
set_option maxHeartbeats 8000000 in
theorem loop_in (E : Env) (h56 : E.fns 56 = some e56) (h57 : ToldBy E 57 q61) (r : Row) (hs : short r.code = true) (hin : Inside r) (hts : ∀ (i : Nat) (c : Code'), r.code[i]? = some c → c.to.length ≤ 65) (i n : Nat) (k : Nat) (Q : Post)
    (hq : ∀ st s env, RInv r k st [] → RMem r st [] s → env 3 = .ptr 2 0 → env 4 = .ptr 3 0 → env 5 = fn56 → env 17 = K n → env 18 = K i → Q (.exit 2) env s)
    (hr : circlesB r = true → ∀ env s, env 2 = .bool true → Q .ret env s) :
    ∀ m (st : List Int) (stk : List Ent) (s : St) (v : Pl), fresh r st r.code.length + left (entL stk) = m → m ≤ 1000000 → RInv r k st (entL stk) → RMem r st stk s →
      RunT E 0 (.loop in26) (setAll v [(3, .ptr 2 0), (4, .ptr 3 0), (5, fn56), (17, K n), (18, K i)]) s Q := by
  intro m
  induction m using Nat.strongRecOn with
  | ind m ih =>
    intro st stk s v hme hm1 hi hm
    cases stk with
    | nil =>
      have hq := hq st s
      have hq := fun env => hq env hi hm
      obtain ⟨w, hw, hso⟩ := hm.cell
      have z : ((0 : Nat) : Int) = 0 := rfl
      have d : decide ((0 : Int) > 0) = false := by decide
      clear ih hr hi hm hs hin hts
      rcases hso with ⟨_, rfl⟩ | ⟨sid, _, _, rfl, _⟩
      all_goals
        refine lp ?_
        simp only [setAll, in26, body26, e26]
        repeat' (first
        | with_reducible refine Red.go ?_
        | with_reducible refine wp_draw ?_
        | ((with_reducible apply blkK_pass); rfl)
        | ((with_reducible first | apply wpOps_dry | apply wpOps_wet | apply wpOps_wet0 | apply wpDraw_dry); (simp only [evDryF, evWetF, St.new, Nat.reduceAdd, Nat.zero_add, Nat.add_zero, Eo.evF, upd_ap, reduceIte, Nat.reduceEqDiff, Bool.false_eq_true, Bool.not_true, Bool.not_false, flat, binAV, binInt, gint, row_rowH, List.length_nil, *]; rfl))
        | ((with_reducible apply wpDraw_load); (simp only [Eo.evF, upd_ap, reduceIte, Nat.reduceEqDiff, Bool.false_eq_true, Bool.not_true, Bool.not_false, flat, binAV, binInt, gint, row_rowH, List.length_nil, *]; rfl); rfl; rfl)
        | ((with_reducible first | apply wpOps_undef | apply wpDraw_undef)
           · simp only [upd_ap, reduceIte, Nat.reduceEqDiff]; done)
        | ((with_reducible first | apply wpOps_test | apply wp_test | apply draw_test); (simp only [Eo.evF, upd_ap, reduceIte, Nat.reduceEqDiff, Bool.false_eq_true, Bool.not_true, Bool.not_false, flat, binAV, binInt, gint, row_rowH, List.length_nil, *]; rfl))
        | (with_reducible apply testK_mk
           all_goals (intro hb; try simp only [Bool.not_true, Bool.not_false, Bool.not_eq_true', Bool.not_eq_false'] at hb)))
        exact hq _ rfl rfl rfl rfl rfl
    | cons e t =>
      obtain ⟨id, h, rest⟩ := e
      obtain ⟨sid, cs, ex, h3, h4, h5, h6, h7, h8⟩ := hm.top
      obtain ⟨oc, oex, o1, o2⟩ := hm.own
      have o1 : rowH s.H id = some (oc, 1, oex) := o1
      have o2 : oc.take (rest.length + 1) = K h :: kInt rest := o2
      have h7 : cs.take (t.length + 1) = (t.map Ent.sl).reverse ++ [.sl id 0 (rest.length + 1)] := h7
      obtain ⟨g1, g2, g3⟩ := take_get h7 (by simp)
      have hcs := cut_one g1
      have htl : t.length ≤ 1000000 := by
        have := left_ge t
        simp only [entL, List.map_cons, left] at hme this
        omega
      have hgt : decide (((t.length + 1 : Nat) : Int) > 0) = true := by simp <;> omega
      have hw : IntKind.i64.wrap (((t.length + 1 : Nat) : Int) - 1) = ((t.length : Nat) : Int) := by rw [IntKind.wrap_i64]; omega
      have hlt : t.length < t.length + 1 := Nat.lt_succ_self _
      have hst := hm.state
      have hcS := hm.cellS
      by_cases hre : rest = []
      · subst hre
        have hone : (((1 : Nat) : Int) == 1) = true := rfl
        have hlz : ([] : List Int).length + 1 = 1 := rfl
        rw [hlz] at hcs
        have o3 := cut_one (take_at o2 (j := 0) rfl)
        have hh : st[h]? = some 1 := (hi.opens h).2 ⟨_, List.mem_cons_self .., rfl⟩
        have hover := over_int (v := 2) (lt_of_get hh)
        have hhn : h < r.code.length := by rw [← hi.len]; exact lt_of_get hh
        have hpop := hm.popped h4 h5 h6 h7 h8
        have hi' := hi.pop
        have hf := fresh_keep (r := r) (v := 2) (by decide) hh (by decide) r.code.length
        have hme' : fresh r (st.set h 2) r.code.length + left (entL t) + 1 = m := by
          rw [hf]
          simp only [entL, List.map_cons, left, List.length_nil] at hme ⊢
          omega
        have ih := fun v => ih _ (by omega) (st.set h 2) t _ v rfl (by omega) hi' hpop
        have n0 : natOf (.int .i64 0) = some 0 := rfl
        have hs1 : (sid = 1) = False := by simp; omega
        have hs3 : (sid = 3) = False := by simp; omega
        clear hpop hi' hi hm hr hq hme hme' hf hm1 hs hin hts h4 h5 h7 h8 hh htl o2 g1 g2 g3
        refine lp ?_
        simp only [setAll, in26, body26, e26]
        have s1 : (sid = 1) = False := hs1
        have s3 : (sid = 3) = False := hs3
        have hle : t.length ≤ t.length + 1 := Nat.le_succ _
        clear hs1 hs3
        repeat' (first
        | with_reducible refine Red.go ?_
        | with_reducible refine wp_drawR ?_
        | ((with_reducible apply blkK_pass); rfl)
        | ((with_reducible first | apply dr_load | apply dr_wet | apply dr_wet0); (simp only [evDryF, evWetF, St.new, Nat.reduceAdd, Nat.zero_add, Nat.add_zero, Eo.evF, upd_ap, reduceIte, Nat.reduceEqDiff, Bool.false_eq_true, Bool.not_true, Bool.not_false, flat, binAV, binInt, gint, natOf_cast, evoF, Nat.zero_le, Nat.sub_zero, Nat.zero_mul, and_self, row_rowH, rowH_set, rowH_ne, ne_eq, not_false_eq_true, *]; rfl); rfl)
        | ((with_reducible first | apply wpOps_dry | apply wpOps_wet | apply wpOps_wet0 | apply dr_dry); (simp only [evDryF, evWetF, St.new, Nat.reduceAdd, Nat.zero_add, Nat.add_zero, Eo.evF, upd_ap, reduceIte, Nat.reduceEqDiff, Bool.false_eq_true, Bool.not_true, Bool.not_false, flat, binAV, binInt, gint, natOf_cast, evoF, Nat.zero_le, Nat.sub_zero, Nat.zero_mul, and_self, row_rowH, rowH_set, rowH_ne, ne_eq, not_false_eq_true, *]; rfl))
        | ((with_reducible first | apply wpOps_undef | apply dr_undef)
           · simp only [upd_ap, reduceIte, Nat.reduceEqDiff]; done)
        | ((with_reducible first | apply wpOps_test | apply wp_test | apply dr_test); (simp only [Eo.evF, upd_ap, reduceIte, Nat.reduceEqDiff, Bool.false_eq_true, Bool.not_true, Bool.not_false, flat, binAV, binInt, gint, natOf_cast, evoF, Nat.zero_le, Nat.sub_zero, Nat.zero_mul, and_self, row_rowH, rowH_set, rowH_ne, ne_eq, not_false_eq_true, *]; rfl))
        | (with_reducible apply testK_mk
           all_goals (intro hb; try simp only [Bool.not_true, Bool.not_false, Bool.not_eq_true', Bool.not_eq_false'] at hb)))
        refine lpK_nrm ?_
        exact rebase (L := [(3, .ptr 2 0), (4, .ptr 3 0), (5, fn56), (17, K n), (18, K i)]) ⟨rfl, rfl, rfl, rfl, rfl, trivial⟩ (ih _)
      · obtain ⟨rest', x, rfl⟩ := list_last hre
        have hxs : x ∈ succs r h := hi.chain.2.2.1 x (by simp)
        obtain ⟨hx0, hx1⟩ := succs_in hin hxs
        obtain ⟨a, rfl⟩ : ∃ a : Nat, x = a := ⟨x.toNat, by omega⟩
        have hal : a < st.length := by rw [hi.len]; omega
        have hv : st[a]? = some st[a] := List.getElem?_eq_getElem hal
        generalize st[a] = vv at hv
        have hlr : (rest' ++ [(a : Int)]).length = rest'.length + 1 := by simp
        rw [hlr] at hcs o2
        have hone : (((rest'.length + 1 + 1 : Nat) : Int) == 1) = false := by simp; omega
        have o3 := cut_one (take_at o2 (j := rest'.length + 1) (a := K a) (by simp [kInt]))
        have hover : over cs (t.length * 1) [.sl id 0 (rest'.length + 1)] = some (cs.set t.length (.sl id 0 (rest'.length + 1))) := over_one g3
        have hw2 : IntKind.i64.wrap (((rest'.length + 1 + 1 : Nat) : Int) - 1) = ((rest'.length + 1 : Nat) : Int) := by
          have : rest'.length ≤ 1000000 := by
            simp only [entL, List.map_cons, left, List.length_append] at hme
            omega
          rw [IntKind.wrap_i64]; omega
        have htk := hm.taken h4 h5 h6 h7 h8 h3
        have hroom : (⟨id, h, rest'⟩ :: t : List Ent).length ≤ 1000000 := by
          have := left_ge t
          simp only [entL, List.map_cons, left, List.length_append, List.length_cons] at hme this ⊢
          omega
        have hring : vv = 1 → circlesB r = true := fun e => by subst e; exact RInv.ring hi hv
        have hdone : vv = 2 → RInv r k st (entL (⟨id, h, rest'⟩ :: t)) := fun e => by subst e; exact hi.drop hv
        have hpush : vv = 0 → RInv r k (st.set a 1) (entL (⟨0, a, succs r a⟩ :: ⟨id, h, rest'⟩ :: t)) := fun e => by subst e; exact hi.push hv
        have hthree := hi.three a vv hv
        have hlen := hi.len
        have ihd : vv = 2 → ∀ v, RunT E 0 (.loop in26) (setAll v [(3, .ptr 2 0), (4, .ptr 3 0), (5, fn56), (17, K n), (18, K i)]) ⟨s.H.set sid (.cells (cs.set t.length (.sl id 0 (rest'.length + 1))) 1 ex), s.nx⟩ Q := fun e v => by
          refine ih (fresh r st r.code.length + left (entL (⟨id, h, rest'⟩ :: t))) ?_ st _ _ v rfl ?_ (hdone e) htk
          all_goals
            simp only [entL, List.map_cons, left, List.length_append, List.length_cons, List.length_nil] at hme ⊢
            omega
        have ihp : vv = 0 → ∀ s' id', RMem r (st.set a 1) (⟨id', a, succs r a⟩ :: ⟨id, h, rest'⟩ :: t) s' → ∀ v, RunT E 0 (.loop in26) (setAll v [(3, .ptr 2 0), (4, .ptr 3 0), (5, fn56), (17, K n), (18, K i)]) s' Q := fun e s' id' hm' v => by
          have hf := fresh_set (r := r) (v := 1) (by decide) (by rw [hv, e]) r.code.length (by omega)
          refine ih (fresh r (st.set a 1) r.code.length + left (entL (⟨id', a, succs r a⟩ :: ⟨id, h, rest'⟩ :: t))) ?_ (st.set a 1) _ _ v rfl ?_ (hpush e) hm'
          all_goals
            simp only [entL, List.map_cons, left, List.length_append, List.length_cons, List.length_nil] at hme ⊢
            omega
        have hvis := fun KK => t56 E h56 h57 r hs hin hts st (⟨id, h, rest'⟩ :: t) _ htk hlen hroom a vv hv KK
        have s3 : (id = sid) = False := by
          have := h8 _ (List.mem_cons_self ..)
          simpa using this
        have hle : rest'.length + 1 ≤ rest'.length + 1 + 1 := Nat.le_succ _
        have hlt2 : rest'.length + 1 < rest'.length + 1 + 1 := Nat.lt_succ_self _
        clear ih hi hm hq hme hm1 hs hin hts h4 h5 h7 h8 htl o2 g1 g2 g3 hpush hdone htk hroom hlen hxs hx0 hx1 hre hlr hv hal
        refine lp ?_
        simp only [setAll, in26, body26, e26]
        repeat' (first
        | with_reducible refine Red.go ?_
        | with_reducible refine wp_draw ?_
        | ((with_reducible apply blkK_pass); rfl)
        | ((with_reducible first | apply wpOps_dry | apply wpOps_wet | apply wpOps_wet0 | apply wpDraw_dry); (simp only [evDryF, evWetF, St.new, Nat.reduceAdd, Nat.zero_add, Nat.add_zero, Eo.evF, upd_ap, reduceIte, Nat.reduceEqDiff, Bool.false_eq_true, Bool.not_true, Bool.not_false, flat, binAV, binInt, gint, natOf_cast, evoF, Nat.zero_le, Nat.sub_zero, Nat.zero_mul, and_self, row_rowH, rowH_set, rowH_ne, ne_eq, not_false_eq_true, *]; rfl))
        | ((with_reducible apply wpDraw_load); (simp only [Eo.evF, upd_ap, reduceIte, Nat.reduceEqDiff, Bool.false_eq_true, Bool.not_true, Bool.not_false, flat, binAV, binInt, gint, natOf_cast, evoF, Nat.zero_le, Nat.sub_zero, Nat.zero_mul, and_self, row_rowH, rowH_set, rowH_ne, ne_eq, not_false_eq_true, *]; rfl); rfl; rfl)
        | ((with_reducible first | apply wpOps_undef | apply wpDraw_undef)
           · simp only [upd_ap, reduceIte, Nat.reduceEqDiff]; done)
        | ((with_reducible first | apply wpOps_test | apply wp_test | apply draw_test); (simp only [Eo.evF, upd_ap, reduceIte, Nat.reduceEqDiff, Bool.false_eq_true, Bool.not_true, Bool.not_false, flat, binAV, binInt, gint, natOf_cast, evoF, Nat.zero_le, Nat.sub_zero, Nat.zero_mul, and_self, row_rowH, rowH_set, rowH_ne, ne_eq, not_false_eq_true, *]; rfl))
        | (with_reducible apply testK_mk
           all_goals (intro hb; try simp only [Bool.not_true, Bool.not_false, Bool.not_eq_true', Bool.not_eq_false'] at hb)))
        refine wpOps_call (g := 56) (a := []) (b := [.ptr 2 0, .ptr 0 0, .ptr 3 0]) (x := [K a]) (by simp only [Eo.evF, upd_ap, reduceIte, Nat.reduceEqDiff]) (by simp only [evsF, List.map_cons, List.map_nil, Eo.evF, upd_ap, reduceIte, Nat.reduceEqDiff]) ?_
        refine hvis _ (fun e s' id' hm' => ?_) (fun e => ?_)
        · have ihp := ihp e s' id' hm'
          clear hvis ihd hm' hring hthree
          repeat' (first
          | with_reducible refine Red.go ?_
          | with_reducible refine wp_draw ?_
          | ((with_reducible apply blkK_pass); rfl)
          | ((with_reducible first | apply wpOps_dry | apply wpOps_wet | apply wpOps_wet0 | apply wpDraw_dry); (simp only [evDryF, evWetF, St.new, Nat.reduceAdd, Nat.zero_add, Nat.add_zero, Eo.evF, upd_ap, reduceIte, Nat.reduceEqDiff, Bool.false_eq_true, Bool.not_true, Bool.not_false, flat, *]; rfl))
          | ((with_reducible apply wpDraw_load); (simp only [Eo.evF, upd_ap, reduceIte, Nat.reduceEqDiff, Bool.false_eq_true, Bool.not_true, Bool.not_false, flat, *]; rfl); rfl; rfl)
          | ((with_reducible first | apply wpOps_undef | apply wpDraw_undef)
             · simp only [upd_ap, reduceIte, Nat.reduceEqDiff]; done)
          | ((with_reducible first | apply wpOps_test | apply wp_test | apply draw_test); (simp only [Eo.evF, upd_ap, reduceIte, Nat.reduceEqDiff, Bool.false_eq_true, Bool.not_true, Bool.not_false, flat, *]; rfl))
          | (with_reducible apply testK_mk
             all_goals (intro hb; try simp only [Bool.not_true, Bool.not_false, Bool.not_eq_true', Bool.not_eq_false'] at hb)))
          refine lpK_nrm ?_
          exact rebase (L := [(3, .ptr 2 0), (4, .ptr 3 0), (5, fn56), (17, K n), (18, K i)]) ⟨rfl, rfl, rfl, rfl, rfl, trivial⟩ (ihp _)
        · clear hvis ihp
          rcases hthree with rfl | rfl | rfl
          · exact absurd rfl e
          · have hr := hr (hring rfl)
            have b1 : ((1 : Int) == 1) = true := rfl
            clear ihd hring
            repeat' (first
            | with_reducible refine Red.go ?_
            | with_reducible refine wp_draw ?_
            | ((with_reducible apply blkK_pass); rfl)
            | ((with_reducible first | apply wpOps_dry | apply wpOps_wet | apply wpOps_wet0 | apply wpDraw_dry); (simp only [evDryF, evWetF, St.new, Nat.reduceAdd, Nat.zero_add, Nat.add_zero, Eo.evF, upd_ap, reduceIte, Nat.reduceEqDiff, Bool.false_eq_true, Bool.not_true, Bool.not_false, flat, *]; rfl))
            | ((with_reducible apply wpDraw_load); (simp only [Eo.evF, upd_ap, reduceIte, Nat.reduceEqDiff, Bool.false_eq_true, Bool.not_true, Bool.not_false, flat, *]; rfl); rfl; rfl)
            | ((with_reducible first | apply wpOps_undef | apply wpDraw_undef)
               · simp only [upd_ap, reduceIte, Nat.reduceEqDiff]; done)
            | ((with_reducible first | apply wpOps_test | apply wp_test | apply draw_test); (simp only [Eo.evF, upd_ap, reduceIte, Nat.reduceEqDiff, Bool.false_eq_true, Bool.not_true, Bool.not_false, flat, *]; rfl))
            | (with_reducible apply testK_mk
               all_goals (intro hb; try simp only [Bool.not_true, Bool.not_false, Bool.not_eq_true', Bool.not_eq_false'] at hb)))
            exact hr _ _ rfl
          · have ihd := ihd rfl
            have b1 : ((2 : Int) == 1) = false := rfl
            clear hr hring
            repeat' (first
            | with_reducible refine Red.go ?_
            | with_reducible refine wp_draw ?_
            | ((with_reducible apply blkK_pass); rfl)
            | ((with_reducible first | apply wpOps_dry | apply wpOps_wet | apply wpOps_wet0 | apply wpDraw_dry); (simp only [evDryF, evWetF, St.new, Nat.reduceAdd, Nat.zero_add, Nat.add_zero, Eo.evF, upd_ap, reduceIte, Nat.reduceEqDiff, Bool.false_eq_true, Bool.not_true, Bool.not_false, flat, *]; rfl))
            | ((with_reducible apply wpDraw_load); (simp only [Eo.evF, upd_ap, reduceIte, Nat.reduceEqDiff, Bool.false_eq_true, Bool.not_true, Bool.not_false, flat, *]; rfl); rfl; rfl)
            | ((with_reducible first | apply wpOps_undef | apply wpDraw_undef)
               · simp only [upd_ap, reduceIte, Nat.reduceEqDiff]; done)
            | ((with_reducible first | apply wpOps_test | apply wp_test | apply draw_test); (simp only [Eo.evF, upd_ap, reduceIte, Nat.reduceEqDiff, Bool.false_eq_true, Bool.not_true, Bool.not_false, flat, *]; rfl))
            | (with_reducible apply testK_mk
               all_goals (intro hb; try simp only [Bool.not_true, Bool.not_false, Bool.not_eq_true', Bool.not_eq_false'] at hb)))
            refine lpK_nrm ?_
            exact rebase (L := [(3, .ptr 2 0), (4, .ptr 3 0), (5, fn56), (17, K n), (18, K i)]) ⟨rfl, rfl, rfl, rfl, rfl, trivial⟩ (ihd _)
end Go.Ev.Lc
/- LowerChecks, the program's side: rings without a tick, the whole. -/
namespace Go.Ev.Lc
open Go.Ev.Tab
set_option maxRecDepth 100000
set_option linter.all false

theorem fresh_le {r : Row} {st : List Int} (hs : ∀ i, (succs r i).length ≤ 65) : ∀ m, fresh r st m ≤ m * 67
  | 0 => Nat.le_refl _
  | m + 1 => by
    have h1 := fresh_le (st := st) hs m
    have h2 := hs m
    simp only [fresh]
    split <;> omega
theorem succs_few {r : Row} (hts : ∀ (i : Nat) (c : Code'), r.code[i]? = some c → c.to.length ≤ 65) (i : Nat) : (succs r i).length ≤ 65 := by
  unfold succs
  split
  · rename_i c hc
    split
    · simp
    · have := hts i c hc
      unfold nextL
      split
      · simp
      · split
        · exact this
        · split
          · split <;> simp
          · simp
  · simp
set_option maxHeartbeats 4000000 in
theorem loop26 (E : Env) (h56 : E.fns 56 = some e56) (h57 : ToldBy E 57 q61) (r : Row) (hle : r.code.length ≤ 4096) (hin : Inside r) (hts : ∀ (i : Nat) (c : Code'), r.code[i]? = some c → c.to.length ≤ 65) (Q : Post)
    (hq : circlesB r = false → ∀ env s, Q (.exit 0) env s) (hr : circlesB r = true → ∀ env s, env 2 = .bool true → Q .ret env s) :
    ∀ m k (st : List Int) (s : St) (v : Pl), k + m = r.code.length → RInv r k st [] → RMem r st [] s →
      RunT E 0 (.loop body26) (setAll v [(3, .ptr 2 0), (4, .ptr 3 0), (5, fn56), (17, K r.code.length), (18, K k)]) s Q := by
  have hs : short r.code = true := by unfold short; simp; omega
  intro m
  induction m with
  | zero =>
    intro k st s v hk hi hm
    have hki := lt_f (l := r.code) (k := k) (by omega)
    have hq := hq (by
      have : k = r.code.length := by omega
      subst this
      exact hi.last)
    clear hk hi hm hr hle hin hts
    refine lp ?_
    simp only [setAll, body26, e26]
    repeat' (first
    | with_reducible refine Red.go ?_
    | with_reducible refine wp_draw ?_
    | ((with_reducible apply blkK_pass); rfl)
    | ((with_reducible first | apply wpOps_dry | apply wpOps_wet | apply wpOps_wet0 | apply wpDraw_dry); (simp only [evDryF, evWetF, St.new, Nat.reduceAdd, Nat.zero_add, Nat.add_zero, Eo.evF, upd_ap, reduceIte, Nat.reduceEqDiff, Bool.false_eq_true, Bool.not_true, Bool.not_false, flat, binAV, binInt, *]; rfl))
    | ((with_reducible apply wpDraw_load); (simp only [Eo.evF, upd_ap, reduceIte, Nat.reduceEqDiff, Bool.false_eq_true, Bool.not_true, Bool.not_false, flat, binAV, binInt, *]; rfl); rfl; rfl)
    | ((with_reducible first | apply wpOps_undef | apply wpDraw_undef)
       · simp only [upd_ap, reduceIte, Nat.reduceEqDiff]; done)
    | ((with_reducible first | apply wpOps_test | apply wp_test | apply draw_test); (simp only [Eo.evF, upd_ap, reduceIte, Nat.reduceEqDiff, Bool.false_eq_true, Bool.not_true, Bool.not_false, flat, binAV, binInt, *]; rfl))
    | (with_reducible apply testK_mk
       all_goals (intro hb; try simp only [Bool.not_true, Bool.not_false, Bool.not_eq_true', Bool.not_eq_false'] at hb)))
    exact hq _ _
  | succ m ih =>
    intro k st s v hk hi hm
    have hkl : k < r.code.length := by omega
    have hki := lt_t hkl
    have hw := wrap_succ hs hkl
    have ih := fun st s v => ih (k + 1) st s v (by omega)
    have hal : k < st.length := by rw [hi.len]; exact hkl
    have hv : st[k]? = some st[k] := List.getElem?_eq_getElem hal
    generalize st[k] = vv at hv
    have hvis := fun KK => t56 E h56 h57 r hs hin hts st [] s hm hi.len (by simp) k vv hv KK
    have hin' := fun Q h1 hr st stk s v h2 => loop_in E h56 h57 r hs hin hts k r.code.length (k + 1) Q h1 hr _ st stk s v rfl h2
    have hfew : ∀ st : List Int, fresh r st r.code.length ≤ 4096 * 67 := fun st => Nat.le_trans (fresh_le (succs_few hts) _) (Nat.mul_le_mul_right _ hle)
    have hsk := succs_few hts k
    have hle' := hle
    have hb1 : left (entL []) ≤ 1 := by simp [entL, left]
    have hb2 : ∀ id, left (entL [⟨id, k, succs r k⟩]) ≤ 66 := fun id => by simp only [entL, List.map_cons, List.map_nil, left]; omega
    have hbnd1 : fresh r st r.code.length + left (entL []) ≤ 1000000 := by have := hfew st; omega
    have hbnd2 : ∀ id, fresh r (st.set k 1) r.code.length + left (entL [⟨id, k, succs r k⟩]) ≤ 1000000 := fun id => by have := hfew (st.set k 1); have := hb2 id; omega
    have hfirst : vv = 0 → RInv r (k + 1) (st.set k 1) [(k, succs r k)] := fun e => by subst e; exact hi.first hv
    have hnext : vv ≠ 0 → RInv r (k + 1) st [] := fun e => hi.next (by rw [hv]; simpa using e)
    clear hfew hsk hb1 hb2 hv hal hle hin hts hi hk hs hkl hle'
    refine lp ?_
    simp only [setAll, body26, e26]
    repeat' (first
    | with_reducible refine Red.go ?_
    | with_reducible refine wp_draw ?_
    | ((with_reducible apply blkK_pass); rfl)
    | ((with_reducible first | apply wpOps_dry | apply wpOps_wet | apply wpOps_wet0 | apply wpDraw_dry); (simp only [evDryF, evWetF, St.new, Nat.reduceAdd, Nat.zero_add, Nat.add_zero, Eo.evF, upd_ap, reduceIte, Nat.reduceEqDiff, Bool.false_eq_true, Bool.not_true, Bool.not_false, flat, binAV, binInt, *]; rfl))
    | ((with_reducible apply wpDraw_load); (simp only [Eo.evF, upd_ap, reduceIte, Nat.reduceEqDiff, Bool.false_eq_true, Bool.not_true, Bool.not_false, flat, binAV, binInt, *]; rfl); rfl; rfl)
    | ((with_reducible first | apply wpOps_undef | apply wpDraw_undef)
       · simp only [upd_ap, reduceIte, Nat.reduceEqDiff]; done)
    | ((with_reducible first | apply wpOps_test | apply wp_test | apply draw_test); (simp only [Eo.evF, upd_ap, reduceIte, Nat.reduceEqDiff, Bool.false_eq_true, Bool.not_true, Bool.not_false, flat, binAV, binInt, *]; rfl))
    | (with_reducible apply testK_mk
       all_goals (intro hb; try simp only [Bool.not_true, Bool.not_false, Bool.not_eq_true', Bool.not_eq_false'] at hb)))
    refine wpOps_call (g := 56) (a := []) (b := [.ptr 2 0, .ptr 0 0, .ptr 3 0]) (x := [K k]) (by simp only [Eo.evF, upd_ap, reduceIte, Nat.reduceEqDiff]) (by simp only [evsF, List.map_cons, List.map_nil, Eo.evF, upd_ap, reduceIte, Nat.reduceEqDiff]) ?_
    refine hvis _ (fun e s' id hm' => ?_) (fun e => ?_)
    · have hin' := fun Q h1 hr v => hin' Q h1 hr (st.set k 1) [⟨id, k, succs r k⟩] s' v (hbnd2 id) (hfirst e) hm'
      clear hvis hbnd1 hbnd2 hfirst hnext hm' hm
      repeat' (first
      | with_reducible refine Red.go ?_
      | with_reducible refine wp_draw ?_
      | ((with_reducible apply blkK_pass); rfl)
      | ((with_reducible first | apply wpOps_dry | apply wpOps_wet | apply wpOps_wet0 | apply wpDraw_dry); (simp only [evDryF, evWetF, St.new, Nat.reduceAdd, Nat.zero_add, Nat.add_zero, Eo.evF, upd_ap, reduceIte, Nat.reduceEqDiff, Bool.false_eq_true, Bool.not_true, Bool.not_false, flat, *]; rfl))
      | ((with_reducible apply wpDraw_load); (simp only [Eo.evF, upd_ap, reduceIte, Nat.reduceEqDiff, Bool.false_eq_true, Bool.not_true, Bool.not_false, flat, *]; rfl); rfl; rfl)
      | ((with_reducible first | apply wpOps_undef | apply wpDraw_undef)
         · simp only [upd_ap, reduceIte, Nat.reduceEqDiff]; done)
      | ((with_reducible first | apply wpOps_test | apply wp_test | apply draw_test); (simp only [Eo.evF, upd_ap, reduceIte, Nat.reduceEqDiff, Bool.false_eq_true, Bool.not_true, Bool.not_false, flat, *]; rfl))
      | (with_reducible apply testK_mk
         all_goals (intro hb; try simp only [Bool.not_true, Bool.not_false, Bool.not_eq_true', Bool.not_eq_false'] at hb)))
      refine wp_loop (rebase (L := [(3, .ptr 2 0), (4, .ptr 3 0), (5, fn56), (17, K r.code.length), (18, K k)]) ⟨rfl, rfl, rfl, rfl, rfl, trivial⟩ (hin' _ (fun st2 s2 env i2 m2 e3 e4 e5 e17 e18 => ?_) (fun hc env s e2 => ?_) _))
      · have ih := fun v => ih st2 s2 v i2 m2
        clear hin' i2 m2
        repeat' (first
        | with_reducible refine Red.go ?_
        | with_reducible refine wp_draw ?_
        | ((with_reducible apply blkK_pass); rfl)
        | ((with_reducible first | apply wpOps_dry | apply wpOps_wet | apply wpOps_wet0 | apply wpDraw_dry); (simp only [evDryF, evWetF, St.new, Nat.reduceAdd, Nat.zero_add, Nat.add_zero, Eo.evF, upd_ap, reduceIte, Nat.reduceEqDiff, Bool.false_eq_true, Bool.not_true, Bool.not_false, flat, binAV, binInt, *]; rfl))
        | ((with_reducible apply wpDraw_load); (simp only [Eo.evF, upd_ap, reduceIte, Nat.reduceEqDiff, Bool.false_eq_true, Bool.not_true, Bool.not_false, flat, binAV, binInt, *]; rfl); rfl; rfl)
        | ((with_reducible first | apply wpOps_undef | apply wpDraw_undef)
           · simp only [upd_ap, reduceIte, Nat.reduceEqDiff]; done)
        | ((with_reducible first | apply wpOps_test | apply wp_test | apply draw_test); (simp only [Eo.evF, upd_ap, reduceIte, Nat.reduceEqDiff, Bool.false_eq_true, Bool.not_true, Bool.not_false, flat, binAV, binInt, *]; rfl))
        | (with_reducible apply testK_mk
           all_goals (intro hb; try simp only [Bool.not_true, Bool.not_false, Bool.not_eq_true', Bool.not_eq_false'] at hb)))
        refine lpK_nrm ?_
        exact rebase (L := [(3, .ptr 2 0), (4, .ptr 3 0), (5, fn56), (17, K r.code.length), (18, K (k + 1 : Nat))]) ⟨e3, e4, e5, e17, rfl, trivial⟩ (ih _)
      · clear hin' ih
        repeat' (first
        | with_reducible refine Red.go ?_
        | with_reducible refine wp_draw ?_
        | ((with_reducible apply blkK_pass); rfl)
        | ((with_reducible first | apply wpOps_dry | apply wpOps_wet | apply wpOps_wet0 | apply wpDraw_dry); (simp only [evDryF, evWetF, St.new, Nat.reduceAdd, Nat.zero_add, Nat.add_zero, Eo.evF, upd_ap, reduceIte, Nat.reduceEqDiff, Bool.false_eq_true, Bool.not_true, Bool.not_false, flat, *]; rfl))
        | ((with_reducible apply wpDraw_load); (simp only [Eo.evF, upd_ap, reduceIte, Nat.reduceEqDiff, Bool.false_eq_true, Bool.not_true, Bool.not_false, flat, *]; rfl); rfl; rfl)
        | ((with_reducible first | apply wpOps_undef | apply wpDraw_undef)
           · simp only [upd_ap, reduceIte, Nat.reduceEqDiff]; done)
        | ((with_reducible first | apply wpOps_test | apply wp_test | apply draw_test); (simp only [Eo.evF, upd_ap, reduceIte, Nat.reduceEqDiff, Bool.false_eq_true, Bool.not_true, Bool.not_false, flat, *]; rfl))
        | (with_reducible apply testK_mk
           all_goals (intro hb; try simp only [Bool.not_true, Bool.not_false, Bool.not_eq_true', Bool.not_eq_false'] at hb)))
        exact hr hc _ _ e2
    · have hin' := fun Q h1 hr v => hin' Q h1 hr st [] s v hbnd1 (hnext e) hm
      clear hvis hbnd1 hbnd2 hfirst hnext hm
      repeat' (first
      | with_reducible refine Red.go ?_
      | with_reducible refine wp_draw ?_
      | ((with_reducible apply blkK_pass); rfl)
      | ((with_reducible first | apply wpOps_dry | apply wpOps_wet | apply wpOps_wet0 | apply wpDraw_dry); (simp only [evDryF, evWetF, St.new, Nat.reduceAdd, Nat.zero_add, Nat.add_zero, Eo.evF, upd_ap, reduceIte, Nat.reduceEqDiff, Bool.false_eq_true, Bool.not_true, Bool.not_false, flat, *]; rfl))
      | ((with_reducible apply wpDraw_load); (simp only [Eo.evF, upd_ap, reduceIte, Nat.reduceEqDiff, Bool.false_eq_true, Bool.not_true, Bool.not_false, flat, *]; rfl); rfl; rfl)
      | ((with_reducible first | apply wpOps_undef | apply wpDraw_undef)
         · simp only [upd_ap, reduceIte, Nat.reduceEqDiff]; done)
      | ((with_reducible first | apply wpOps_test | apply wp_test | apply draw_test); (simp only [Eo.evF, upd_ap, reduceIte, Nat.reduceEqDiff, Bool.false_eq_true, Bool.not_true, Bool.not_false, flat, *]; rfl))
      | (with_reducible apply testK_mk
         all_goals (intro hb; try simp only [Bool.not_true, Bool.not_false, Bool.not_eq_true', Bool.not_eq_false'] at hb)))
      refine wp_loop (rebase (L := [(3, .ptr 2 0), (4, .ptr 3 0), (5, fn56), (17, K r.code.length), (18, K k)]) ⟨rfl, rfl, rfl, rfl, rfl, trivial⟩ (hin' _ (fun st2 s2 env i2 m2 e3 e4 e5 e17 e18 => ?_) (fun hc env s e2 => ?_) _))
      · have ih := fun v => ih st2 s2 v i2 m2
        clear hin' i2 m2
        repeat' (first
        | with_reducible refine Red.go ?_
        | with_reducible refine wp_draw ?_
        | ((with_reducible apply blkK_pass); rfl)
        | ((with_reducible first | apply wpOps_dry | apply wpOps_wet | apply wpOps_wet0 | apply wpDraw_dry); (simp only [evDryF, evWetF, St.new, Nat.reduceAdd, Nat.zero_add, Nat.add_zero, Eo.evF, upd_ap, reduceIte, Nat.reduceEqDiff, Bool.false_eq_true, Bool.not_true, Bool.not_false, flat, binAV, binInt, *]; rfl))
        | ((with_reducible apply wpDraw_load); (simp only [Eo.evF, upd_ap, reduceIte, Nat.reduceEqDiff, Bool.false_eq_true, Bool.not_true, Bool.not_false, flat, binAV, binInt, *]; rfl); rfl; rfl)
        | ((with_reducible first | apply wpOps_undef | apply wpDraw_undef)
           · simp only [upd_ap, reduceIte, Nat.reduceEqDiff]; done)
        | ((with_reducible first | apply wpOps_test | apply wp_test | apply draw_test); (simp only [Eo.evF, upd_ap, reduceIte, Nat.reduceEqDiff, Bool.false_eq_true, Bool.not_true, Bool.not_false, flat, binAV, binInt, *]; rfl))
        | (with_reducible apply testK_mk
           all_goals (intro hb; try simp only [Bool.not_true, Bool.not_false, Bool.not_eq_true', Bool.not_eq_false'] at hb)))
        refine lpK_nrm ?_
        exact rebase (L := [(3, .ptr 2 0), (4, .ptr 3 0), (5, fn56), (17, K r.code.length), (18, K (k + 1 : Nat))]) ⟨e3, e4, e5, e17, rfl, trivial⟩ (ih _)
      · clear hin' ih
        repeat' (first
        | with_reducible refine Red.go ?_
        | with_reducible refine wp_draw ?_
        | ((with_reducible apply blkK_pass); rfl)
        | ((with_reducible first | apply wpOps_dry | apply wpOps_wet | apply wpOps_wet0 | apply wpDraw_dry); (simp only [evDryF, evWetF, St.new, Nat.reduceAdd, Nat.zero_add, Nat.add_zero, Eo.evF, upd_ap, reduceIte, Nat.reduceEqDiff, Bool.false_eq_true, Bool.not_true, Bool.not_false, flat, *]; rfl))
        | ((with_reducible apply wpDraw_load); (simp only [Eo.evF, upd_ap, reduceIte, Nat.reduceEqDiff, Bool.false_eq_true, Bool.not_true, Bool.not_false, flat, *]; rfl); rfl; rfl)
        | ((with_reducible first | apply wpOps_undef | apply wpDraw_undef)
           · simp only [upd_ap, reduceIte, Nat.reduceEqDiff]; done)
        | ((with_reducible first | apply wpOps_test | apply wp_test | apply draw_test); (simp only [Eo.evF, upd_ap, reduceIte, Nat.reduceEqDiff, Bool.false_eq_true, Bool.not_true, Bool.not_false, flat, *]; rfl))
        | (with_reducible apply testK_mk
           all_goals (intro hb; try simp only [Bool.not_true, Bool.not_false, Bool.not_eq_true', Bool.not_eq_false'] at hb)))
        exact hr hc _ _ e2
set_option maxHeartbeats 4000000 in
theorem t26 (E : Env) (h : E.fns 26 = some e26) (h56 : E.fns 56 = some e56) (h57 : ToldBy E 57 q61) (r : Row) (hle : r.code.length ≤ 4096) (hin : Inside r) (hts : ∀ (i : Nat) (c : Code'), r.code[i]? = some c → c.to.length ≤ 65) :
    AnsK E 0 26 [encRow r] s0 (ans (.bool (circlesB r))) := by
  have hroom : (r.code.length ≤ r.code.length ∧ roomy r.code.length 8 = true) := ⟨Nat.le_refl _, roomy_of (by omega)⟩
  refine fn_run h rfl rfl (plOf_args0 ..) ?_
  simp only [argPl, e26]
  have hrep : (List.replicate r.code.length [AV.int .i64 0]).flatten = kInt (List.replicate r.code.length 0) := by
    generalize r.code.length = n
    induction n with
    | zero => rfl
    | succ n ih => simp only [List.replicate_succ, List.flatten_cons, kInt, List.map_cons] at ih ⊢; rw [ih]; rfl
  have hloop := fun Q hq hr v s => loop26 E h56 h57 r hle hin hts Q hq hr r.code.length 0 (List.replicate r.code.length 0) s v (by omega) (RInv.start r)
  have hle' := hle
  clear hle hin hts
  repeat' (first
  | with_reducible refine Red.go ?_
  | with_reducible refine wp_draw ?_
  | ((with_reducible apply blkK_pass); rfl)
  | ((with_reducible first | apply wpOps_dry | apply wpOps_wet | apply wpOps_wet0 | apply wpDraw_dry); (simp only [evDryF, evWetF, St.new, Nat.reduceAdd, Nat.zero_add, Nat.add_zero, Eo.evF, upd_ap, reduceIte, Nat.reduceEqDiff, Bool.false_eq_true, Bool.not_true, Bool.not_false, flat, binAV, binInt, gint, List.length_map, natOf_cast, *]; rfl))
  | ((with_reducible apply wpDraw_load); (simp only [Eo.evF, upd_ap, reduceIte, Nat.reduceEqDiff, Bool.false_eq_true, Bool.not_true, Bool.not_false, flat, binAV, binInt, gint, List.length_map, natOf_cast, *]; rfl); rfl; rfl)
  | ((with_reducible first | apply wpOps_undef | apply wpDraw_undef)
     · simp only [upd_ap, reduceIte, Nat.reduceEqDiff]; done)
  | ((with_reducible first | apply wpOps_test | apply wp_test | apply draw_test); (simp only [Eo.evF, upd_ap, reduceIte, Nat.reduceEqDiff, Bool.false_eq_true, Bool.not_true, Bool.not_false, flat, binAV, binInt, gint, List.length_map, natOf_cast, *]; rfl))
  | (with_reducible apply testK_mk
     all_goals (intro hb; try simp only [Bool.not_true, Bool.not_false, Bool.not_eq_true', Bool.not_eq_false'] at hb)))
  refine wp_loop (rebase (L := [(3, .ptr 2 0), (4, .ptr 3 0), (5, fn56), (17, K r.code.length), (18, K (0 : Nat))]) ⟨rfl, rfl, rfl, rfl, rfl, trivial⟩ (hloop _ (fun hc env s => ?_) (fun hc env s e2 => ?_) _ _ ?_))
  · clear hloop
    repeat' (first
    | with_reducible refine Red.go ?_
    | with_reducible refine wp_draw ?_
    | ((with_reducible apply blkK_pass); rfl)
    | ((with_reducible first | apply wpOps_dry | apply wpOps_wet | apply wpOps_wet0 | apply wpDraw_dry); (simp only [evDryF, evWetF, St.new, Nat.reduceAdd, Nat.zero_add, Nat.add_zero, Eo.evF, upd_ap, reduceIte, Nat.reduceEqDiff, Bool.false_eq_true, Bool.not_true, Bool.not_false, flat, *]; rfl))
    | ((with_reducible apply wpDraw_load); (simp only [Eo.evF, upd_ap, reduceIte, Nat.reduceEqDiff, Bool.false_eq_true, Bool.not_true, Bool.not_false, flat, *]; rfl); rfl; rfl)
    | ((with_reducible first | apply wpOps_undef | apply wpDraw_undef)
       · simp only [upd_ap, reduceIte, Nat.reduceEqDiff]; done)
    | ((with_reducible first | apply wpOps_test | apply wp_test | apply draw_test); (simp only [Eo.evF, upd_ap, reduceIte, Nat.reduceEqDiff, Bool.false_eq_true, Bool.not_true, Bool.not_false, flat, *]; rfl))
    | (with_reducible apply testK_mk
       all_goals (intro hb; try simp only [Bool.not_true, Bool.not_false, Bool.not_eq_true', Bool.not_eq_false'] at hb)))
    refine fnK_one ?_
    simp [ans, tupled, upd_ap, hc]
  · clear hloop
    repeat' (first
    | with_reducible refine Red.go ?_
    | with_reducible refine wp_draw ?_
    | ((with_reducible apply blkK_pass); rfl)
    | ((with_reducible first | apply wpOps_dry | apply wpOps_wet | apply wpOps_wet0 | apply wpDraw_dry); (simp only [evDryF, evWetF, St.new, Nat.reduceAdd, Nat.zero_add, Nat.add_zero, Eo.evF, upd_ap, reduceIte, Nat.reduceEqDiff, Bool.false_eq_true, Bool.not_true, Bool.not_false, flat, *]; rfl))
    | ((with_reducible apply wpDraw_load); (simp only [Eo.evF, upd_ap, reduceIte, Nat.reduceEqDiff, Bool.false_eq_true, Bool.not_true, Bool.not_false, flat, *]; rfl); rfl; rfl)
    | ((with_reducible first | apply wpOps_undef | apply wpDraw_undef)
       · simp only [upd_ap, reduceIte, Nat.reduceEqDiff]; done)
    | ((with_reducible first | apply wpOps_test | apply wp_test | apply draw_test); (simp only [Eo.evF, upd_ap, reduceIte, Nat.reduceEqDiff, Bool.false_eq_true, Bool.not_true, Bool.not_false, flat, *]; rfl))
    | (with_reducible apply testK_mk
       all_goals (intro hb; try simp only [Bool.not_true, Bool.not_false, Bool.not_eq_true', Bool.not_eq_false'] at hb)))
    refine fnK_one ?_
    simp [ans, tupled, upd_ap, hc, e2]
  · exact ⟨by kernel_rfl, by kernel_rfl, by kernel_rfl, Nat.le_refl _, fun e he => by simp at he, _, (by kernel_rfl : _ = some ([AV.nils], 1, 1)), .inl ⟨rfl, rfl⟩⟩
end Go.Ev.Lc
/- LowerChecks, the program's side: the four ends. -/
namespace Go.Ev.Lc
open Go.Ev.Tab
set_option maxRecDepth 100000
set_option linter.all false

def endsL : List Int := [273, 275, 276, 277]
theorem t55four (E : Env) {lo : Nat} (h : E.fns 55 = some e55) (x : Int) (s : St) (b ex : Nat) (hrow : row s b = some ([K 273, K 275, K 276, K 277], 1, ex)) (KK : AV → St → Prop) (h1 : endsL.any (x == ·) = false → KK (K (-1)) s) (h2 : endsL.any (x == ·) = true → ∀ j : Nat, KK (K j) s) :
    AnsK E lo 55 [.sl b 0 4, K x] s KK := by
  refine fn_run h rfl rfl (plOf_args0 ..) ?_
  simp only [argPl, e55]
  simp only [endsL, List.any_cons, List.any_nil, Bool.or_false] at h1 h2
  have n0 : natOf (.int .i64 0) = some 0 := rfl
  have n1 : natOf (.int .i64 1) = some 1 := rfl
  have n2 : natOf (.int .i64 2) = some 2 := rfl
  have n3 : natOf (.int .i64 3) = some 3 := rfl
  have w0 : IntKind.i64.wrap (0 + 1) = 1 := by decide
  have w1 : IntKind.i64.wrap (1 + 1) = 2 := by decide
  have w2 : IntKind.i64.wrap (2 + 1) = 3 := by decide
  have w3 : IntKind.i64.wrap (3 + 1) = 4 := by decide
  have d0 : decide ((0 : Int) < ((4 : Nat) : Int)) = true := by decide
  have d1 : decide ((1 : Int) < ((4 : Nat) : Int)) = true := by decide
  have d2 : decide ((2 : Int) < ((4 : Nat) : Int)) = true := by decide
  have d3 : decide ((3 : Int) < ((4 : Nat) : Int)) = true := by decide
  have d4 : decide ((4 : Int) < ((4 : Nat) : Int)) = false := by decide
  have c0 : cut [K 273, K 275, K 276, K 277] (0 * 1) 1 = some [K 273] := rfl
  have c1 : cut [K 273, K 275, K 276, K 277] (1 * 1) 1 = some [K 275] := rfl
  have c2 : cut [K 273, K 275, K 276, K 277] (2 * 1) 1 = some [K 276] := rfl
  have c3 : cut [K 273, K 275, K 276, K 277] (3 * 1) 1 = some [K 277] := rfl
  have h1' := h1
  have h2' := h2
  clear h1 h2
  repeat' (first
  | with_reducible refine Red.go ?_
  | ((with_reducible apply blkK_pass); rfl)
  | ((with_reducible first | apply wpOps_dry | apply wpOps_wet | apply wpOps_wet0); (simp only [evDryF, evWetF, St.new, Nat.reduceAdd, Nat.zero_add, Nat.add_zero, Eo.evF, upd_ap, reduceIte, Nat.reduceEqDiff, Bool.false_eq_true, Bool.not_true, Bool.not_false, flat, binAV, binInt, gint, *]; rfl))
  | ((with_reducible apply wpOps_undef)
     · simp only [upd_ap, reduceIte, Nat.reduceEqDiff]; done)
  | ((with_reducible first | apply wpOps_test | apply wp_test); (simp only [Eo.evF, upd_ap, reduceIte, Nat.reduceEqDiff, Bool.false_eq_true, Bool.not_true, Bool.not_false, flat, binAV, binInt, gint, *]; rfl))
  | (with_reducible apply testK_mk
     all_goals (intro hb; try simp only [Bool.not_true, Bool.not_false, Bool.not_eq_true', Bool.not_eq_false'] at hb)))
  refine wp_loop (lp ?_)
  repeat' (first
  | with_reducible refine Red.go ?_
  | ((with_reducible apply blkK_pass); rfl)
  | ((with_reducible first | apply wpOps_dry | apply wpOps_wet | apply wpOps_wet0); (simp only [evDryF, evWetF, St.new, Nat.reduceAdd, Nat.zero_add, Nat.add_zero, Eo.evF, upd_ap, reduceIte, Nat.reduceEqDiff, Bool.false_eq_true, Bool.not_true, Bool.not_false, flat, binAV, binInt, gint, *]; rfl))
  | ((with_reducible apply wpOps_undef)
     · simp only [upd_ap, reduceIte, Nat.reduceEqDiff]; done)
  | ((with_reducible first | apply wpOps_test | apply wp_test); (simp only [Eo.evF, upd_ap, reduceIte, Nat.reduceEqDiff, Bool.false_eq_true, Bool.not_true, Bool.not_false, flat, binAV, binInt, gint, *]; rfl))
  | (with_reducible apply testK_mk
     all_goals (intro hb; try simp only [Bool.not_true, Bool.not_false, Bool.not_eq_true', Bool.not_eq_false'] at hb)))
  · refine fnK_one ?_
    exact h2' (by simp [hb]) 0
  have b0 := hb
  refine lpK_nrm (lp ?_)
  repeat' (first
  | with_reducible refine Red.go ?_
  | ((with_reducible apply blkK_pass); rfl)
  | ((with_reducible first | apply wpOps_dry | apply wpOps_wet | apply wpOps_wet0); (simp only [evDryF, evWetF, St.new, Nat.reduceAdd, Nat.zero_add, Nat.add_zero, Eo.evF, upd_ap, reduceIte, Nat.reduceEqDiff, Bool.false_eq_true, Bool.not_true, Bool.not_false, flat, binAV, binInt, gint, *]; rfl))
  | ((with_reducible apply wpOps_undef)
     · simp only [upd_ap, reduceIte, Nat.reduceEqDiff]; done)
  | ((with_reducible first | apply wpOps_test | apply wp_test); (simp only [Eo.evF, upd_ap, reduceIte, Nat.reduceEqDiff, Bool.false_eq_true, Bool.not_true, Bool.not_false, flat, binAV, binInt, gint, *]; rfl))
  | (with_reducible apply testK_mk
     all_goals (intro hb; try simp only [Bool.not_true, Bool.not_false, Bool.not_eq_true', Bool.not_eq_false'] at hb)))
  · refine fnK_one ?_
    exact h2' (by simp [hb]) 1
  have b1 := hb
  refine lpK_nrm (lp ?_)
  repeat' (first
  | with_reducible refine Red.go ?_
  | ((with_reducible apply blkK_pass); rfl)
  | ((with_reducible first | apply wpOps_dry | apply wpOps_wet | apply wpOps_wet0); (simp only [evDryF, evWetF, St.new, Nat.reduceAdd, Nat.zero_add, Nat.add_zero, Eo.evF, upd_ap, reduceIte, Nat.reduceEqDiff, Bool.false_eq_true, Bool.not_true, Bool.not_false, flat, binAV, binInt, gint, *]; rfl))
  | ((with_reducible apply wpOps_undef)
     · simp only [upd_ap, reduceIte, Nat.reduceEqDiff]; done)
  | ((with_reducible first | apply wpOps_test | apply wp_test); (simp only [Eo.evF, upd_ap, reduceIte, Nat.reduceEqDiff, Bool.false_eq_true, Bool.not_true, Bool.not_false, flat, binAV, binInt, gint, *]; rfl))
  | (with_reducible apply testK_mk
     all_goals (intro hb; try simp only [Bool.not_true, Bool.not_false, Bool.not_eq_true', Bool.not_eq_false'] at hb)))
  · refine fnK_one ?_
    exact h2' (by simp [hb]) 2
  have b2 := hb
  refine lpK_nrm (lp ?_)
  repeat' (first
  | with_reducible refine Red.go ?_
  | ((with_reducible apply blkK_pass); rfl)
  | ((with_reducible first | apply wpOps_dry | apply wpOps_wet | apply wpOps_wet0); (simp only [evDryF, evWetF, St.new, Nat.reduceAdd, Nat.zero_add, Nat.add_zero, Eo.evF, upd_ap, reduceIte, Nat.reduceEqDiff, Bool.false_eq_true, Bool.not_true, Bool.not_false, flat, binAV, binInt, gint, *]; rfl))
  | ((with_reducible apply wpOps_undef)
     · simp only [upd_ap, reduceIte, Nat.reduceEqDiff]; done)
  | ((with_reducible first | apply wpOps_test | apply wp_test); (simp only [Eo.evF, upd_ap, reduceIte, Nat.reduceEqDiff, Bool.false_eq_true, Bool.not_true, Bool.not_false, flat, binAV, binInt, gint, *]; rfl))
  | (with_reducible apply testK_mk
     all_goals (intro hb; try simp only [Bool.not_true, Bool.not_false, Bool.not_eq_true', Bool.not_eq_false'] at hb)))
  · refine fnK_one ?_
    exact h2' (by simp [hb]) 3
  have b3 := hb
  refine lpK_nrm (lp ?_)
  have h1 := h1' (by simp [b0, b1, b2, b3])
  clear h1' h2'
  repeat' (first
  | with_reducible refine Red.go ?_
  | ((with_reducible apply blkK_pass); rfl)
  | ((with_reducible first | apply wpOps_dry | apply wpOps_wet | apply wpOps_wet0); (simp only [evDryF, evWetF, St.new, Nat.reduceAdd, Nat.zero_add, Nat.add_zero, Eo.evF, upd_ap, reduceIte, Nat.reduceEqDiff, Bool.false_eq_true, Bool.not_true, Bool.not_false, flat, binAV, binInt, gint, *]; rfl))
  | ((with_reducible apply wpOps_undef)
     · simp only [upd_ap, reduceIte, Nat.reduceEqDiff]; done)
  | ((with_reducible first | apply wpOps_test | apply wp_test); (simp only [Eo.evF, upd_ap, reduceIte, Nat.reduceEqDiff, Bool.false_eq_true, Bool.not_true, Bool.not_false, flat, binAV, binInt, gint, *]; rfl))
  | (with_reducible apply testK_mk
     all_goals (intro hb; try simp only [Bool.not_true, Bool.not_false, Bool.not_eq_true', Bool.not_eq_false'] at hb)))
  refine fnK_one ?_
  exact h1
theorem t25four (E : Env) {lo : Nat} (h : E.fns 25 = some e25) (h55 : E.fns 55 = some e55) (x : Int) (s : St) (b ex : Nat) (hrow : row s b = some ([K 273, K 275, K 276, K 277], 1, ex)) (KK : AV → St → Prop) (hk : KK (.bool (endsL.any (x == ·))) s) :
    AnsK E lo 25 [.sl b 0 4, K x] s KK := by
  refine fn_run h rfl rfl (plOf_args0 ..) ?_
  simp only [argPl, e25]
  repeat' (first
  | with_reducible refine Red.go ?_
  | ((with_reducible apply blkK_pass); rfl)
  | ((with_reducible first | apply wpOps_dry | apply wpOps_wet | apply wpOps_wet0); (simp only [evDryF, evWetF, St.new, Nat.reduceAdd, Nat.zero_add, Nat.add_zero, Eo.evF, upd_ap, reduceIte, Nat.reduceEqDiff, Bool.false_eq_true, Bool.not_true, Bool.not_false, flat, binAV, binInt, gint, *]; rfl))
  | ((with_reducible apply wpOps_undef)
     · simp only [upd_ap, reduceIte, Nat.reduceEqDiff]; done)
  | ((with_reducible first | apply wpOps_test | apply wp_test); (simp only [Eo.evF, upd_ap, reduceIte, Nat.reduceEqDiff, Bool.false_eq_true, Bool.not_true, Bool.not_false, flat, binAV, binInt, gint, *]; rfl))
  | (with_reducible apply testK_mk
     all_goals (intro hb; try simp only [Bool.not_true, Bool.not_false, Bool.not_eq_true', Bool.not_eq_false'] at hb)))
  refine wpOps_call (g := 55) (a := []) (b := []) (x := [.sl b 0 4, K x]) rfl rfl ?_
  refine callK_run h55 rfl (t55four E h55 x s b ex hrow _ (fun ha => ?_) (fun ha j => ?_))
  · have d : decide ((-1 : Int) ≥ 0) = false := by decide
    rw [ha] at hk
    clear ha
    repeat' (first
    | with_reducible refine Red.go ?_
    | ((with_reducible apply blkK_pass); rfl)
    | ((with_reducible first | apply wpOps_dry | apply wpOps_wet | apply wpOps_wet0); (simp only [evDryF, evWetF, St.new, Nat.reduceAdd, Nat.zero_add, Nat.add_zero, Eo.evF, upd_ap, reduceIte, Nat.reduceEqDiff, Bool.false_eq_true, Bool.not_true, Bool.not_false, flat, binAV, binInt, *]; rfl))
    | ((with_reducible apply wpOps_undef)
       · simp only [upd_ap, reduceIte, Nat.reduceEqDiff]; done)
    | ((with_reducible first | apply wpOps_test | apply wp_test); (simp only [Eo.evF, upd_ap, reduceIte, Nat.reduceEqDiff, Bool.false_eq_true, Bool.not_true, Bool.not_false, flat, binAV, binInt, *]; rfl))
    | (with_reducible apply testK_mk
       all_goals (intro hb; try simp only [Bool.not_true, Bool.not_false, Bool.not_eq_true', Bool.not_eq_false'] at hb)))
    refine fnK_one ?_
    exact hk
  · have d : decide ((j : Int) ≥ 0) = true := by simp
    rw [ha] at hk
    clear ha
    repeat' (first
    | with_reducible refine Red.go ?_
    | ((with_reducible apply blkK_pass); rfl)
    | ((with_reducible first | apply wpOps_dry | apply wpOps_wet | apply wpOps_wet0); (simp only [evDryF, evWetF, St.new, Nat.reduceAdd, Nat.zero_add, Nat.add_zero, Eo.evF, upd_ap, reduceIte, Nat.reduceEqDiff, Bool.false_eq_true, Bool.not_true, Bool.not_false, flat, binAV, binInt, *]; rfl))
    | ((with_reducible apply wpOps_undef)
       · simp only [upd_ap, reduceIte, Nat.reduceEqDiff]; done)
    | ((with_reducible first | apply wpOps_test | apply wp_test); (simp only [Eo.evF, upd_ap, reduceIte, Nat.reduceEqDiff, Bool.false_eq_true, Bool.not_true, Bool.not_false, flat, binAV, binInt, *]; rfl))
    | (with_reducible apply testK_mk
       all_goals (intro hb; try simp only [Bool.not_true, Bool.not_false, Bool.not_eq_true', Bool.not_eq_false'] at hb)))
    refine fnK_one ?_
    exact hk
end Go.Ev.Lc
