/- What the functions of the two Checks answer, by steps through their code. -/
import Derived.Test.YtkalflplonnhmaaGreatDoorLcD
import Derived.KernelRfl
set_option linter.all false
/- LowerChecks: the program's look at an instruction is the document's. -/
namespace Go.Ev.Lc
open Go.Ev.Tab
set_option maxRecDepth 100000
set_option linter.all false

theorem contains_any {l : List Int} {x : Int} : l.contains x = l.any (x == ·) := by
  induction l with
  | nil => rfl
  | cons a r ih => simp only [List.contains_cons, List.any_cons, ih]
theorem withinB_all {n : Int} (l : List Int) : withinB n l = l.all (inside n) := by
  unfold withinB
  induction l with
  | nil => rfl
  | cons a r ih => simp only [List.any_cons, List.all_cons, Bool.not_or, ih, inside, outB]
theorem placesFrom_f {l : List Int} {n : Int} : ∀ m i, i + m = l.length → placesFrom l n false m i = (l.drop i).all (inside n)
  | 0, i, h => by rw [List.drop_eq_nil_of_le (by omega)]; rfl
  | m + 1, i, h => by
    obtain ⟨x, hx, hd⟩ := get_ex (l := l) (k := i) (by omega)
    simp only [placesFrom, okAt, hx, hd, List.all_cons, placesFrom_f (l := l) (n := n) m (i + 1) (by omega), Bool.false_and, Bool.not_false, Bool.and_true]
theorem placesFrom_t {l : List Int} {n : Int} : ∀ m i, i + m = l.length → placesFrom l n true m i = ((l.drop i).all (inside n) && unlikeFrom l m i)
  | 0, i, h => by rw [List.drop_eq_nil_of_le (by omega)]; rfl
  | m + 1, i, h => by
    obtain ⟨x, hx, hd⟩ := get_ex (l := l) (k := i) (by omega)
    simp only [placesFrom, unlikeFrom, unlikeAt, okAt, hx, hd, List.all_cons, placesFrom_t (l := l) (n := n) m (i + 1) (by omega), contains_any, Bool.true_and]
    cases inside n x <;> cases (l.take i).any (x == ·) <;> cases (l.drop (i + 1)).all (inside n) <;> rfl
theorem placesB_f {l : List Int} {n : Int} : placesB l n false = withinB n l := by
  rw [withinB_all, placesB, placesFrom_f _ _ (by omega), List.drop_zero]
theorem placesB_t {l : List Int} {n : Int} : placesB l n true = (withinB n l && unlikeB l) := by
  rw [withinB_all, placesB, placesFrom_t _ _ (by omega), List.drop_zero]; rfl

/-- Signatures of few places. -/
def fewSig (s : Sig) : Prop := s.inp.length ≤ 8 ∧ s.out.length ≤ 8
theorem fewSig_of {s : Sig} (h : sigB s = true) : fewSig s := by
  simp only [sigB, kindsB, Bool.and_eq_true, Bool.not_eq_true', decide_eq_false_iff_not] at h
  unfold fewSig
  omega
theorem envB_sigs {e : Env'} (h : envB e = true) : ∀ s ∈ e.sigs, sigB s = true := by
  simp only [envB, Bool.and_eq_true] at h
  exact fun s hs => List.all_eq_true.1 h.2 s hs
theorem envB_muts {e : Env'} (h : envB e = true) : e.muts.length = e.globals.length := by
  simp only [envB, Bool.and_eq_true, beq_iff_eq] at h
  omega

def headS (v : AV) (c : Code') : Bool :=
  okS v && decide ((c.n : Int) ≤ mostS v) && ((c.args.length : Int) == inS v) && ((c.outs.length : Int) == outS v) && decide ((c.to.length : Int) ≥ fromS v) && decide ((c.to.length : Int) ≤ toS v)
def headF (v : AV) (c : Code') : Bool :=
  fewB c && okV v && (inV v == c.args.length) && (outV v == c.outs.length) && toB c.op c.to.length
theorem head_no {v w : AV} {c : Code'} (h1 : okS v = false) (h2 : okV w = false) : headS v c = headF w c := by
  simp [headS, headF, h1, h2]
theorem ofF_in {op : Int} (h : (ofF op == 0) = false) : 69 ≤ op ∧ op ≤ 196 := by
  simp [ofF, inB] at h
  omega
theorem accT_in {op : Int} (h : (accT op == 0) = false) : 40 ≤ op ∧ op ≤ 62 := by
  simp [accT] at h
  omega
theorem head_eq {e : Env'} {s : Sig} {c : Code'} (he : ∀ x ∈ e.sigs, fewSig x) (hs : fewSig s) (hn : c.n < 18446744073709551616) (hm : e.muts.length = e.globals.length) :
    headS (shapeV e s c.op c.n) c = headF (form60V e s c.op c.n) c := by
  obtain ⟨op, n, ar, ou, to⟩ := c
  simp only at hn
  show headS (shapeV e s op n) ⟨op, n, ar, ou, to⟩ = headF (form60V e s op n) ⟨op, n, ar, ou, to⟩
  obtain ⟨_, hs2⟩ := hs
  have fin : ∀ (a b : AV) (m f t : Int) (k : Bool) (a' b' : AV) (k' : Bool), lenV a = lenV a' → lenV b = lenV b' → lenV a ≤ 8 → lenV b ≤ 8 → t ≤ 65 →
      ((k = true ∧ (n : Int) ≤ m) ↔ k' = true) → (((to.length : Int) ≥ f ∧ (to.length : Int) ≤ t) ↔ toB op to.length = true ∧ (to.length : Int) ≤ 65) →
      headS (shp a b m f t k) ⟨op, n, ar, ou, to⟩ = headF (ret3 a' b' k') ⟨op, n, ar, ou, to⟩ := by
    intro a b m f t k a' b' k' h1 h2 h3 h4 h5 h6 h7
    have hS : headS (shp a b m f t k) ⟨op, n, ar, ou, to⟩ = (k && decide ((n : Int) ≤ m) && ((ar.length : Int) == lenV a) && ((ou.length : Int) == lenV b) && decide ((to.length : Int) ≥ f) && decide ((to.length : Int) ≤ t)) := rfl
    have hF : headF (ret3 a' b' k') ⟨op, n, ar, ou, to⟩ = ((!decide ((ar.length : Int) > 8) && !decide ((ou.length : Int) > 8) && !decide ((to.length : Int) > 65)) && k' && (lenV a' == ar.length) && (lenV b' == ou.length) && toB op to.length) := rfl
    rw [hS, hF, Bool.eq_iff_iff]
    simp only [Bool.and_eq_true, decide_eq_true_eq, beq_iff_eq, Bool.not_eq_true', decide_eq_false_iff_not]
    constructor
    · rintro ⟨⟨⟨⟨⟨g1, g2⟩, g3⟩, g4⟩, g5⟩, g6⟩
      obtain ⟨k1, k2⟩ := h7.1 ⟨g5, g6⟩
      exact ⟨⟨⟨⟨⟨⟨by omega, by omega⟩, by omega⟩, h6.1 ⟨g1, g2⟩⟩, by omega⟩, by omega⟩, k1⟩
    · rintro ⟨⟨⟨⟨⟨⟨g1, g2⟩, g3⟩, g4⟩, g5⟩, g6⟩, g7⟩
      obtain ⟨k1, k2⟩ := h6.2 g4
      obtain ⟨k3, k4⟩ := h7.2 ⟨g7, by omega⟩
      exact ⟨⟨⟨⟨⟨k1, k2⟩, by omega⟩, by omega⟩, k3⟩, k4⟩
  have zz : ∀ o : Int, o ≠ 273 → o ≠ 274 → o ≠ 275 → (((to.length : Int) ≥ 0 ∧ (to.length : Int) ≤ 0) ↔ toB o to.length = true ∧ (to.length : Int) ≤ 65) := by
    intro o e1 e2 e3
    have : toB o to.length = ((to.length : Int) == 0) := by simp [toB, e1, e2, e3]
    rw [this, beq_iff_eq]
    omega
  have z1 : ∀ o : Int, o = 273 ∨ o = 274 → (((to.length : Int) ≥ 1 ∧ (to.length : Int) ≤ 1) ↔ toB o to.length = true ∧ (to.length : Int) ≤ 65) := by
    intro o e1
    have : toB o to.length = ((to.length : Int) == 1) := by rcases e1 with rfl | rfl <;> rfl
    rw [this, beq_iff_eq]
    omega
  have z5 : ((to.length : Int) ≥ 1 ∧ (to.length : Int) ≤ 65) ↔ toB 275 to.length = true ∧ (to.length : Int) ≤ 65 := by
    have : toB 275 to.length = decide ((to.length : Int) ≥ 1) := rfl
    rw [this, decide_eq_true_eq]
  have b0 : (true = true ∧ (n : Int) ≤ 0) ↔ (((n : Int) == 0) = true) := by rw [beq_iff_eq]; simp <;> omega
  by_cases c1 : op = 256
  · subst c1
    simp only [shapeV, form60V, formV]
    exact fin _ _ _ _ _ _ _ _ _ rfl rfl (by simp [lenV]) (by simp [lenV]) (by omega) (by simp <;> omega) (zz _ (by decide) (by decide) (by decide))
  by_cases c2 : op = 272
  · subst c2
    simp only [shapeV, form60V, formV]
    exact fin _ _ _ _ _ _ _ _ _ rfl rfl (by simp [lenV]) (by simp [lenV]) (by omega) b0 (zz _ (by decide) (by decide) (by decide))
  by_cases c3 : op = 273
  · subst c3
    exact fin .nils .nils 0 1 1 true .nils .nils _ rfl rfl (by simp [lenV]) (by simp [lenV]) (by omega) b0 (z1 _ (by decide))
  by_cases c4 : op = 274
  · subst c4
    exact fin (ints [127]) .nils 0 1 1 true (ints [127]) .nils _ rfl rfl (by simp [lenV]) (by simp [lenV]) (by omega) b0 (z1 _ (by decide))
  by_cases c5 : op = 275
  · subst c5
    exact fin (ints [127]) .nils 0 1 65 true (ints [127]) .nils _ rfl rfl (by simp [lenV]) (by simp [lenV]) (by omega) b0 z5
  by_cases c6 : op = 276
  · subst c6
    exact fin (ints s.out) .nils 0 0 0 true (ints s.out) .nils _ rfl rfl (by simp [lenV]; omega) (by simp [lenV]) (by omega) b0 (zz _ (by decide) (by decide) (by decide))
  by_cases c7 : op = 277
  · subst c7
    exact fin .nils .nils 0 0 0 true .nils .nils _ rfl rfl (by simp [lenV]) (by simp [lenV]) (by omega) b0 (zz _ (by decide) (by decide) (by decide))
  by_cases c8 : op = 258
  · subst c8
    exact fin .nils .nils 0 0 0 true .nils .nils _ rfl rfl (by simp [lenV]) (by simp [lenV]) (by omega) b0 (zz _ (by decide) (by decide) (by decide))
  by_cases c9 : op = 27
  · subst c9
    exact fin (ints [0, 0, 127]) (ints [0]) 0 0 0 true (ints [0, 0, 127]) (ints [0]) _ rfl rfl (by simp [lenV]) (by simp [lenV]) (by omega) b0 (zz _ (by decide) (by decide) (by decide))
  have ht : toB op to.length = ((to.length : Int) == 0) := by simp [toB, c3, c4, c5]
  have g1 : (op == 256) = false := by simp [c1]
  have g2 : (op == 272) = false := by simp [c2]
  have g3 : (op == 273) = false := by simp [c3]
  have g4 : (op == 274) = false := by simp [c4]
  have g5 : (op == 275) = false := by simp [c5]
  have g6 : (op == 276) = false := by simp [c6]
  have g7 : (op == 277) = false := by simp [c7]
  have g8 : (op == 258) = false := by simp [c8]
  have g9 : (op == 27) = false := by simp [c9]
  have z : ((to.length : Int) ≥ 0 ∧ (to.length : Int) ≤ 0) ↔ toB op to.length = true ∧ (to.length : Int) ≤ 65 := by rw [ht, beq_iff_eq]; omega
  cases c10 : (op == 16) with
  | true =>
    have hop : op = 16 := by simpa using c10
    subst hop
    rcases Nat.lt_or_ge n e.sigs.length with hlt | hge
    · obtain ⟨sx, hsx, _⟩ := get_ex (l := e.sigs) (k := n) hlt
      have hd : decide ((n : Int) < (e.sigs.length : Int)) = true := by simp; omega
      have hd2 : decide ((n : Int) ≥ (e.sigs.length : Int)) = false := by simp; omega
      have e1 : shapeV e s 16 n = shp (ints sx.inp) (ints sx.out) n 0 0 true := by
        simp only [shapeV, hd, Int.toNat_natCast, hsx]
        rfl
      have e2 : form60V e s 16 n = ret3 (ints sx.inp) (ints sx.out) true := by
        simp only [form60V, formV, hd2, Int.toNat_natCast, hsx]
        rfl
      obtain ⟨f1, f2⟩ := he sx (List.mem_of_getElem? hsx)
      rw [e1, e2]
      exact fin _ _ _ _ _ _ _ _ _ rfl rfl (by simp [lenV]; omega) (by simp [lenV]; omega) (by omega) (by simp) z
    · have hd : decide ((n : Int) < (e.sigs.length : Int)) = false := by simp; omega
      have hd2 : decide ((n : Int) ≥ (e.sigs.length : Int)) = true := by simp; omega
      have e1 : shapeV e s 16 n = shp .nils .nils 0 0 0 false := by
        simp only [shapeV, hd]
        rfl
      have e2 : form60V e s 16 n = ret3 .nils .nils false := by
        simp only [form60V, formV, hd2]
        rfl
      rw [e1, e2]
      exact head_no rfl rfl
  | false =>
  cases c11 : (op == 35 || op == 36) with
  | true =>
    have hof : (ofF op == 0) = true := by
      cases hc : (ofF op == 0) with
      | true => rfl
      | false => have := ofF_in hc; simp at c11; omega
    rcases Nat.lt_or_ge n e.globals.length with hlt | hge
    · obtain ⟨gx, hgx, _⟩ := get_ex (l := e.globals) (k := n) hlt
      obtain ⟨mx, hmx, _⟩ := get_ex (l := e.muts) (k := n) (by omega)
      have hd : decide ((n : Int) ≥ (e.globals.length : Int)) = false := by simp; omega
      cases c12 : (op == 35) with
      | true =>
        have e1 : shapeV e s op n = shp .nils (ints [gx]) n 0 0 true := by
          simp only [shapeV, g1, g2, g3, g4, g5, g6, g7, g8, g9, c10, c11, c12, hd, hgx, hmx, hof, Int.toNat_natCast, Bool.true_or, Bool.or_true, Bool.or_self, Bool.false_eq_true, if_false, if_true, Bool.true_eq_false]
        have e2 : form60V e s op n = ret3 .nils (ints [gx]) true := by
          simp only [form60V, formV, g1, g2, g3, g4, g5, g6, g7, g8, g9, c10, c11, c12, hd, hgx, hmx, hof, Int.toNat_natCast, Bool.true_or, Bool.or_true, Bool.or_self, Bool.false_eq_true, if_false, if_true, Bool.true_eq_false]
        rw [e1, e2]
        exact fin _ _ _ _ _ _ _ _ _ rfl rfl (by simp [lenV]) (by simp [lenV]) (by omega) (by simp) z
      | false =>
        have c13 : (op == 36) = true := by rw [c12] at c11; simpa using c11
        have e1 : shapeV e s op n = shp (ints [gx]) .nils n 0 0 mx := by
          simp only [shapeV, g1, g2, g3, g4, g5, g6, g7, g8, g9, c10, c12, c13, hd, hgx, hmx, hof, Int.toNat_natCast, Bool.true_or, Bool.or_true, Bool.or_self, Bool.false_eq_true, if_false, if_true, Bool.true_eq_false]
        have e2 : form60V e s op n = ret3 (ints [gx]) .nils mx := by
          simp only [form60V, formV, g1, g2, g3, g4, g5, g6, g7, g8, g9, c10, c12, c13, hd, hgx, hmx, hof, Int.toNat_natCast, Bool.true_or, Bool.or_true, Bool.or_self, Bool.false_eq_true, if_false, if_true, Bool.true_eq_false]
        rw [e1, e2]
        exact fin _ _ _ _ _ _ _ _ _ rfl rfl (by simp [lenV]) (by simp [lenV]) (by omega) (by simp) z
    · have hd : decide ((n : Int) ≥ (e.globals.length : Int)) = true := by simp; omega
      have e1 : shapeV e s op n = shp .nils .nils 0 0 0 false := by
        simp only [shapeV, g1, g2, g3, g4, g5, g6, g7, g8, g9, c10, c11, hd, hof, Int.toNat_natCast, Bool.or_self, Bool.false_eq_true, if_false, if_true, Bool.true_eq_false]
      have e2 : form60V e s op n = ret3 .nils .nils false := by
        simp only [form60V, formV, g1, g2, g3, g4, g5, g6, g7, g8, g9, c10, c11, hd, hof, Int.toNat_natCast, Bool.or_self, Bool.false_eq_true, if_false, if_true, Bool.true_eq_false]
      rw [e1, e2]
      exact head_no rfl rfl
  | false =>
  cases c12 : (ofF op == 0) with
  | false =>
    have e1 : shapeV e s op n = shp (if unaryB op = true then ints [ofF op] else ints [ofF op, ofF op]) (ints [outF op]) 0 0 0 true := by
      simp only [shapeV, g1, g2, g3, g4, g5, g6, g7, g8, g9, c10, c11, c12, Bool.or_self, Bool.false_eq_true, if_false, if_true]
    have e2 : form60V e s op n = ret3 (if unaryB op = true then ints [ofF op] else ints [ofF op, ofF op]) (ints [outF op]) ((n : Int) == 0) := by
      simp only [form60V, formV, g1, g2, g3, g4, g5, g6, g7, g8, g9, c10, c11, c12, Bool.or_self, Bool.false_eq_true, if_false, if_true]
    rw [e1, e2]
    refine fin _ _ _ _ _ _ _ _ _ rfl rfl ?_ (by simp [lenV]) (by omega) (by simp <;> omega) z
    split <;> simp [lenV]
  | true =>
  cases hmem : e.mem with
  | false =>
    have e2 : form60V e s op n = ret3 .nils .nils false := by
      simp only [form60V, formV, g1, g2, g3, g4, g5, g6, g7, g8, g9, c10, c11, c12, hmem, Bool.or_self, Bool.false_eq_true, if_false, if_true, Bool.true_eq_false]
    have e1 : shapeV e s op n = memV op false := by
      simp only [shapeV, g1, g2, g3, g4, g5, g6, g7, g8, g9, c10, c11, c12, hmem, Bool.or_self, Bool.false_eq_true, if_false, if_true, Bool.true_eq_false]
    rw [e1, e2]
    refine head_no ?_ rfl
    unfold memV
    repeat' (first | rfl | split)
  | true =>
    have e1 : shapeV e s op n = memV op true := by
      simp only [shapeV, g1, g2, g3, g4, g5, g6, g7, g8, g9, c10, c11, c12, hmem, Bool.or_self, Bool.false_eq_true, if_false, if_true, Bool.true_eq_false]
    rw [e1]
    simp only [form60V, formV, g1, g2, g3, g4, g5, g6, g7, g8, g9, c10, c11, c12, hmem, Bool.or_self, Bool.false_eq_true, if_false, if_true, Bool.true_eq_false, memV]
    by_cases d1 : op = 257
    · subst d1
      exact fin (ints [127]) .nils 8589934592 0 0 true (ints [127]) .nils _ rfl rfl (by simp [lenV]) (by simp [lenV]) (by omega) (by simp) z
    have k1 : (op == 257) = false := by simp [d1]
    cases d2 : (accT op == 0) with
    | false =>
      have hr := accT_in d2
      have k2 : (op == 63) = false := by simp; omega
      have k3 : (op == 64) = false := by simp; omega
      simp only [k1, k2, k3, Bool.false_eq_true, if_false, if_true]
      split
      · exact fin _ _ _ _ _ _ _ _ _ rfl rfl (by simp [lenV]) (by simp [lenV]) (by omega) (by simp <;> omega) z
      · exact fin _ _ _ _ _ _ _ _ _ rfl rfl (by simp [lenV]) (by simp [lenV]) (by omega) (by simp <;> omega) z
    | true =>
      simp only [k1, Bool.false_eq_true, if_false, if_true, Bool.true_eq_false]
      by_cases d3 : op = 63
      · subst d3
        exact fin .nils (ints [127]) 0 0 0 true .nils (ints [127]) _ rfl rfl (by simp [lenV]) (by simp [lenV]) (by omega) (by simp <;> omega) z
      have k2 : (op == 63) = false := by simp [d3]
      by_cases d4 : op = 64
      · subst d4
        exact fin (ints [127]) (ints [127]) 0 0 0 true (ints [127]) (ints [127]) _ rfl rfl (by simp [lenV]) (by simp [lenV]) (by omega) (by simp <;> omega) z
      have k3 : (op == 64) = false := by simp [d4]
      simp only [k2, k3, Bool.false_eq_true, if_false]
      exact head_no rfl rfl
theorem instr_eq {e : Env'} {r : Row} {c : Code'} (he : ∀ x ∈ e.sigs, fewSig x) (hs : fewSig r.sig) (hn : c.n < 18446744073709551616) (hm : e.muts.length = e.globals.length) : instrB e r c = codeB e r c := by
  have h := head_eq (c := c) he hs hn hm
  have h1 : instrB e r c = (headS (shapeV e r.sig c.op c.n) c && (withinB r.places c.args && (withinB r.places c.outs && unlikeB c.outs) && withinB r.code.length c.to)) := by
    simp only [instrB, headS, Bool.and_assoc]
  have h2 : codeB e r c = (headF (form60V e r.sig c.op c.n) c && (withinB r.places c.args && (withinB r.places c.outs && unlikeB c.outs) && withinB r.code.length c.to)) := by
    simp only [codeB, headF, placesB_f, placesB_t, Bool.and_assoc]
    ac_rfl
  rw [h1, h2, h]
end Go.Ev.Lc
/- LowerChecks: the program's Check is the document's, in plain Lean. -/
namespace Go.Ev.Lc
open Go.Ev.Tab
set_option maxRecDepth 100000
set_option linter.all false

noncomputable def progB (e : Env') (r : Row) : Bool :=
  envB e && sigB r.sig && !((r.code.length : Int) == 0) && !decide ((r.code.length : Int) > 4096) && !decide (r.places < 0) && !decide (r.places > 4096) && ((r.params.length : Int) == r.sig.inp.length) && withinB r.places r.params && unlikeB r.params &&
    !(r.code.any fun c => !instrB e r c) && ((opAt r 0 == 258) && (endsL.any (opAt r (r.code.length - 1) == ·)) && !circlesB r)
theorem ends_eq (x : Int) : endsL.any (x == ·) = (goesB x && !(x == 274)) := by
  rw [Bool.eq_iff_iff]
  simp only [endsL, List.any_cons, List.any_nil, Bool.or_false, Bool.or_eq_true, beq_iff_eq, goesB, Bool.and_eq_true, decide_eq_true_eq, Bool.not_eq_true', beq_eq_false_iff_ne, ne_eq]
  omega
theorem any_not {α : Type} (p : α → Bool) (l : List α) : (!l.any fun x => !p x) = l.all p := by
  induction l with
  | nil => rfl
  | cons a r ih => simp only [List.any_cons, List.all_cons, Bool.not_or, Bool.not_not, ih]
theorem all_congr {α : Type} {p q : α → Bool} : ∀ {l : List α}, (∀ x ∈ l, p x = q x) → l.all p = l.all q
  | [], _ => rfl
  | a :: r, h => by
    simp only [List.all_cons]
    rw [h a (List.mem_cons_self ..), all_congr fun x hx => h x (List.mem_cons_of_mem _ hx)]
theorem instrs_eq {e : Env'} {r : Row} (ho : RowOk r) (hE : envB e = true) (hS : sigB r.sig = true) : (!(r.code.any fun c => !instrB e r c)) = r.code.all (codeB e r) := by
  rw [any_not]
  refine all_congr fun c hc => ?_
  obtain ⟨i, hi⟩ := List.mem_iff_getElem?.1 hc
  exact instr_eq (fun x hx => fewSig_of (envB_sigs hE x hx)) (fewSig_of hS) (ho.each i c hi).2 (envB_muts hE)
theorem check_eq {e : Env'} {r : Row} (ho : RowOk r) : progB e r = refCheckB e r := by
  unfold progB refCheckB
  cases hE : envB e with
  | false => simp
  | true =>
    cases hS : sigB r.sig with
    | false => simp
    | true =>
      rw [instrs_eq ho hE hS, ends_eq, placesB_t]
      obtain ⟨f1, f2⟩ := fewSig_of hS
      have d1 : decide ((r.sig.inp.length : Int) > 8) = false := by simp; omega
      have d2 : decide ((r.sig.out.length : Int) > 8) = false := by simp; omega
      have d3 : decide ((r.code.length : Int) < 1) = ((r.code.length : Int) == 0) := by
        rw [Bool.eq_iff_iff]
        simp only [decide_eq_true_eq, beq_iff_eq]
        omega
      rw [d1, d2, d3]
      simp only [Bool.true_and, Bool.not_false, Bool.and_true, Bool.and_assoc]
theorem to_few {e : Env'} {r : Row} (h : r.code.all (codeB e r) = true) : ∀ (i : Nat) (c : Code'), r.code[i]? = some c → c.to.length ≤ 65 := by
  intro i c hc
  have h1 := List.all_eq_true.1 h c (List.mem_of_getElem? hc)
  simp only [codeB, fewB, Bool.and_eq_true, Bool.not_eq_true', decide_eq_false_iff_not] at h1
  omega
/-! ### Right -/
noncomputable def rightAt (e : Env') : List Row → List Sig → Bool
  | [], _ => true
  | r :: t, s :: l => refCheckB e r && sameSigB r.sig s && rightAt e t l
  | _ :: _, [] => false
noncomputable def rightB (p : Rows) : Bool := envB p.env && ((p.fns.length : Int) == (p.env.sigs.length : Int) - p.env.imports) && rightAt p.env p.fns (p.env.sigs.drop p.env.imports.toNat)
structure RowsOk (p : Rows) : Prop where
  env : envShort p.env = true
  fns : short p.fns = true
  imports : word p.env.imports
  each : ∀ r ∈ p.fns, RowOk r
abbrev rowsCells (p : Rows) : List AV := [sigs p.env.sigs, K p.env.imports, ints p.env.globals, bools p.env.muts, .bool p.env.mem, rows p.fns]
abbrev encRows (p : Rows) : AV := .agg (rowsCells p)
def unRows : AV → Option Rows
  | .agg [a, b, c, d, e, .lst l] => match unEnv (.agg [a, b, c, d, e]), unList unRow l with | some x, some y => some ⟨x, y⟩ | _, _ => none
  | _ => none
theorem unRows_enc (p : Rows) : unRows (encRows p) = some p := by
  have h := unEnv_enc p.env
  simp only [encEnv] at h
  simp only [encRows, unRows, h, unList_map (g := encRow) unRow_enc]
theorem unRows_some (v : AV) (p : Rows) (h : unRows v = some p) : v = encRows p := by
  unfold unRows at h
  split at h
  · split at h
    · rename_i h1 h2
      simp only [Option.some.injEq] at h; subst h
      have e1 := unEnv_some _ _ h1
      simp only [encEnv, AV.agg.injEq, List.cons.injEq, and_true] at e1
      obtain ⟨rfl, rfl, rfl, rfl, rfl⟩ := e1
      rw [unList_some unRow_some h2]
    · simp at h
  · simp at h
open Classical in
noncomputable def q9 : List AV → Option AV
  | [x, y] => match unEnv x, unRow y with | some e, some r => if envShort e = true ∧ RowOk r then some (.bool (refCheckB e r)) else none | _, _ => none
  | _ => none
theorem q9_eq {e : Env'} (hs : envShort e = true) {r : Row} (ho : RowOk r) : q9 [encEnv e, encRow r] = some (.bool (refCheckB e r)) := by
  have h1 := unEnv_enc e
  have h2 := unRow_enc r
  simp only [encEnv, encRow] at h1 h2
  simp only [q9, h1, h2]
  rw [if_pos ⟨hs, ho⟩]
open Classical in
noncomputable def q11 : List AV → Option AV
  | [x] => match unRows x with | some p => if RowsOk p then some (.bool (rightB p)) else none | _ => none
  | _ => none
theorem q11_eq {p : Rows} (ho : RowsOk p) : q11 [encRows p] = some (.bool (rightB p)) := by
  have h1 := unRows_enc p
  simp only [encRows] at h1
  simp only [q11, h1]
  rw [if_pos ho]
open Classical in
noncomputable def q26 : List AV → Option AV
  | [x] => match unRow x with | some r => if r.code.length ≤ 4096 ∧ Inside r ∧ (∀ (i : Nat) (c : Code'), r.code[i]? = some c → c.to.length ≤ 65) then some (.bool (circlesB r)) else none | none => none
  | _ => none
theorem q26_eq {r : Row} (h : r.code.length ≤ 4096) (hin : Inside r) (hts : ∀ (i : Nat) (c : Code'), r.code[i]? = some c → c.to.length ≤ 65) : q26 [encRow r] = some (.bool (circlesB r)) := by
  have h2 := unRow_enc r
  simp only [encRow] at h2
  simp only [q26, h2]
  rw [if_pos ⟨h, hin, hts⟩]
end Go.Ev.Lc
/- LowerChecks, the program's side: Check, the walk. -/
namespace Go.Ev.Lc
open Go.Ev.Tab
set_option maxRecDepth 100000
set_option linter.all false

set_option maxHeartbeats 8000000 in
theorem t8 (E : Env) (h : E.fns 8 = some e8) (h19 : E.fns 19 = some { e19 with pure := true }) (h47 : ToldBy E 47 q47x) (h48 : E.fns 48 = some e48) (h79 : E.fns 79 = some e79) (h49 : E.fns 49 = some { e49 with pure := true }) (h50 : ToldBy E 50 q59)
    (h20 : ToldBy E 20 q20) (h21 : ToldBy E 21 q21) (h22 : E.fns 22 = some e22) (h53 : E.fns 53 = some e53) (h23 : E.fns 23 = some { e23 with pure := true }) (h24 : ToldBy E 24 q24) (h25 : E.fns 25 = some e25) (h55 : E.fns 55 = some e55) (h26 : ToldBy E 26 q26)
    (e : Env') (hs : envShort e = true) (r : Row) (ho : RowOk r) : AnsK E 0 8 [encEnv e, encRow r] s0 (ans (.bool (progB e r))) := by
  have ho' := ho
  obtain ⟨o1, o2, o3, o4, o5⟩ := ho
  have hsig : sigShort r.sig = true := by simp only [sigShort, o1, o2, Bool.and_self]
  refine fn_run h rfl rfl (plOf_args0 ..) ?_
  simp only [argPl, e8]
  have hs' := hs
  clear hs
  repeat' (first
  | with_reducible refine Red.go ?_
  | ((with_reducible apply blkK_pass); rfl)
  | ((with_reducible first | apply wpOps_dry | apply wpOps_wet | apply wpOps_wet0); (simp only [evDryF, evWetF, St.new, Nat.reduceAdd, Nat.zero_add, Nat.add_zero, Eo.evF, upd_ap, reduceIte, Nat.reduceEqDiff, Bool.false_eq_true, Bool.not_true, Bool.not_false, flat, binAV, binInt, gint, List.length_map, *]; rfl))
  | ((with_reducible apply wpOps_undef)
     · simp only [upd_ap, reduceIte, Nat.reduceEqDiff]; done)
  | ((with_reducible first | apply wpOps_test | apply wp_test); (simp only [Eo.evF, upd_ap, reduceIte, Nat.reduceEqDiff, Bool.false_eq_true, Bool.not_true, Bool.not_false, flat, binAV, binInt, gint, List.length_map, *]; rfl))
  | (with_reducible apply testK_mk
     all_goals (intro hb; try simp only [Bool.not_true, Bool.not_false, Bool.not_eq_true', Bool.not_eq_false'] at hb)))
  refine wpOps_call (g := 19) (a := []) (b := []) rfl (by simp only [evsF, List.map_cons, List.map_nil, Eo.evF, upd_ap, reduceIte, Nat.reduceEqDiff]; rfl) ?_
  refine callK_run h19 rfl (t19 E h19 h47 h48 h79 h49 h50 e hs' _ _ ?_)
  cases hE : envB e with
  | false =>
    have hp : progB e r = false := by simp [progB, hE]
    clear hE
    repeat' (first
    | with_reducible refine Red.go ?_
    | ((with_reducible apply blkK_pass); rfl)
    | ((with_reducible first | apply wpOps_dry | apply wpOps_wet | apply wpOps_wet0); (simp only [evDryF, evWetF, St.new, Nat.reduceAdd, Nat.zero_add, Nat.add_zero, Eo.evF, upd_ap, reduceIte, Nat.reduceEqDiff, Bool.false_eq_true, Bool.not_true, Bool.not_false, flat, *]; rfl))
    | ((with_reducible apply wpOps_undef)
       · simp only [upd_ap, reduceIte, Nat.reduceEqDiff]; done)
    | ((with_reducible first | apply wpOps_test | apply wp_test); (simp only [Eo.evF, upd_ap, reduceIte, Nat.reduceEqDiff, Bool.false_eq_true, Bool.not_true, Bool.not_false, flat, *]; rfl))
    | (with_reducible apply testK_mk
       all_goals (intro hb; try simp only [Bool.not_true, Bool.not_false, Bool.not_eq_true', Bool.not_eq_false'] at hb)))
    refine fnK_one ?_
    simp [ans, tupled, hp, upd_ap]
  | true =>
    have hm := envB_muts hE
    repeat' (first
    | with_reducible refine Red.go ?_
    | ((with_reducible apply blkK_pass); rfl)
    | ((with_reducible first | apply wpOps_dry | apply wpOps_wet | apply wpOps_wet0); (simp only [evDryF, evWetF, St.new, Nat.reduceAdd, Nat.zero_add, Nat.add_zero, Eo.evF, upd_ap, reduceIte, Nat.reduceEqDiff, Bool.false_eq_true, Bool.not_true, Bool.not_false, flat, *]; rfl))
    | ((with_reducible apply wpOps_undef)
       · simp only [upd_ap, reduceIte, Nat.reduceEqDiff]; done)
    | ((with_reducible first | apply wpOps_test | apply wp_test); (simp only [Eo.evF, upd_ap, reduceIte, Nat.reduceEqDiff, Bool.false_eq_true, Bool.not_true, Bool.not_false, flat, *]; rfl))
    | (with_reducible apply testK_mk
       all_goals (intro hb; try simp only [Bool.not_true, Bool.not_false, Bool.not_eq_true', Bool.not_eq_false'] at hb)))
    refine wpOps_call (g := 19) (a := []) (b := []) (x := [.agg [.sl 2 0 1, K 0, .nils, .nils, .bool false]]) rfl rfl ?_
    refine callK_run h19 rfl (t19one E h19 h47 h48 h79 h49 h50 r.sig hsig _ 2 1 (fun o n => by kernel_rfl) _ ?_)
    cases hS : sigB r.sig with
    | false =>
      have hp : progB e r = false := by simp [progB, hS]
      clear hE hS hm
      repeat' (first
      | with_reducible refine Red.go ?_
      | ((with_reducible apply blkK_pass); rfl)
      | ((with_reducible first | apply wpOps_dry | apply wpOps_wet | apply wpOps_wet0); (simp only [evDryF, evWetF, St.new, Nat.reduceAdd, Nat.zero_add, Nat.add_zero, Eo.evF, upd_ap, reduceIte, Nat.reduceEqDiff, Bool.false_eq_true, Bool.not_true, Bool.not_false, flat, *]; rfl))
      | ((with_reducible apply wpOps_undef)
         · simp only [upd_ap, reduceIte, Nat.reduceEqDiff]; done)
      | ((with_reducible first | apply wpOps_test | apply wp_test); (simp only [Eo.evF, upd_ap, reduceIte, Nat.reduceEqDiff, Bool.false_eq_true, Bool.not_true, Bool.not_false, flat, *]; rfl))
      | (with_reducible apply testK_mk
         all_goals (intro hb; try simp only [Bool.not_true, Bool.not_false, Bool.not_eq_true', Bool.not_eq_false'] at hb)))
      refine fnK_one ?_
      simp [ans, tupled, hp, upd_ap]
    | true =>
      have q20' := q20_eq r.places o3
      have q21' := q21_eq o3
      have hall := instrs_eq ho' hE hS
      have hrun := fun (s : St) KK ha hb (hk : 0 ≠ s.nx ∧ 1 ≠ s.nx) => t22 (lo := 0) E h22 h53 r.code o4 23 [] [.ptr 0 0, .ptr 1 0] (fun c => !instrB e r c) s (fun c hc => by
        obtain ⟨i, hi⟩ := List.mem_iff_getElem?.1 hc
        exact t23 E h23 h24 e hs' hm r c (o5 i c hi).1 (ho'.ops c hc) s 0 1 1 1 ha hb (hk.1) (hk.2)) KK
      clear hm hsig o1 o2 o3
      repeat' (first
      | with_reducible refine Red.go ?_
      | ((with_reducible apply blkK_pass); rfl)
      | ((with_reducible first | apply wpOps_dry | apply wpOps_wet | apply wpOps_wet0); (simp only [evDryF, evWetF, St.new, Nat.reduceAdd, Nat.zero_add, Nat.add_zero, Eo.evF, upd_ap, reduceIte, Nat.reduceEqDiff, Bool.false_eq_true, Bool.not_true, Bool.not_false, flat, binAV, binInt, gint, List.length_map, *]; rfl))
      | ((with_reducible apply wpOps_undef)
         · simp only [upd_ap, reduceIte, Nat.reduceEqDiff]; done)
      | ((with_reducible apply wpOps_told); assumption; (simp only [evsF, List.map_cons, List.map_nil, Eo.evF, upd_ap, reduceIte, Nat.reduceEqDiff, Bool.false_eq_true, Bool.not_true, Bool.not_false, flat, binAV, binInt, gint, List.length_map, *]; rfl); first | (simp only [q20', q21']; rfl) | assumption)
      | ((with_reducible first | apply wpOps_test | apply wp_test); (simp only [Eo.evF, upd_ap, reduceIte, Nat.reduceEqDiff, Bool.false_eq_true, Bool.not_true, Bool.not_false, flat, binAV, binInt, gint, List.length_map, *]; rfl))
      | (with_reducible apply testK_mk
         all_goals (intro hb; try simp only [Bool.not_true, Bool.not_false, Bool.not_eq_true', Bool.not_eq_false'] at hb)))
      all_goals first
        | (refine fnK_one ?_
           simp only [ans, tupled, upd_ap, reduceIte, Nat.reduceEqDiff]
           simp [progB, *]
           done)
        | skip
      have hpre : progB e r = (!(r.code.any fun c => !instrB e r c) && ((opAt r 0 == 258) && (endsL.any (opAt r (r.code.length - 1) == ·)) && !circlesB r)) := by
        clear hall
        simp only [progB, *]
        simp
      rw [hall] at hpre
      refine wpOps_call (g := 22) (a := []) (b := []) (x := [codes r.code, .fn 23 [] [.ptr 0 0, .ptr 1 0]]) rfl rfl ?_
      refine callK_run h22 rfl (hrun _ _ (by kernel_rfl) (by kernel_rfl) ⟨by show 0 ≠ 3; decide, by show 1 ≠ 3; decide⟩ ?_)
      clear hrun q20' q21'
      have hlen1 : 0 < r.code.length := by
        have h0 : ((r.code.length : Int) == 0) = false := by assumption
        simp at h0
        exact List.length_pos_iff.2 h0
      have hle : r.code.length ≤ 4096 := by
        have h0 : decide ((r.code.length : Int) > 4096) = false := by assumption
        simp at h0
        omega
      clear hE hS hs'
      cases hA : r.code.all (codeB e r) with
      | false =>
        rw [hA] at hpre hall
        have hany : (r.code.any fun c => !instrB e r c) = true := by simpa using hall
        rw [hany]
        clear hany hall o4 o5 ho' hlen1 hle
        repeat' (first
        | with_reducible refine Red.go ?_
        | ((with_reducible apply blkK_pass); rfl)
        | ((with_reducible first | apply wpOps_dry | apply wpOps_wet | apply wpOps_wet0); (simp only [evDryF, evWetF, St.new, Nat.reduceAdd, Nat.zero_add, Nat.add_zero, Eo.evF, upd_ap, reduceIte, Nat.reduceEqDiff, Bool.false_eq_true, Bool.not_true, Bool.not_false, flat, *]; rfl))
        | ((with_reducible apply wpOps_undef)
           · simp only [upd_ap, reduceIte, Nat.reduceEqDiff]; done)
        | ((with_reducible first | apply wpOps_test | apply wp_test); (simp only [Eo.evF, upd_ap, reduceIte, Nat.reduceEqDiff, Bool.false_eq_true, Bool.not_true, Bool.not_false, flat, *]; rfl))
        | (with_reducible apply testK_mk
           all_goals (intro hb; try simp only [Bool.not_true, Bool.not_false, Bool.not_eq_true', Bool.not_eq_false'] at hb)))
        refine fnK_one ?_
        simp [ans, tupled, upd_ap, hpre]
      | true =>
        have hany : (r.code.any fun c => !instrB e r c) = false := by rw [hA] at hall; simpa using hall
        rw [hany]
        rw [hA, Bool.true_and] at hpre
        have hfew := to_few hA
        obtain ⟨c0, hc0, _⟩ := get_ex (l := r.code) (k := 0) hlen1
        obtain ⟨cl, hcl, _⟩ := get_ex (l := r.code) (k := r.code.length - 1) (by omega)
        have g0 := map_get (f := encCode) hc0
        have gl := map_get (f := encCode) hcl
        have n1 : natOf (.int .i64 0) = some 0 := rfl
        have hwl : IntKind.i64.wrap ((r.code.length : Int) - 1) = ((r.code.length - 1 : Nat) : Int) := by rw [IntKind.wrap_i64]; omega
        have hop0 : opAt r 0 = c0.op := by simp only [opAt, hc0]
        have hopl : opAt r (r.code.length - 1) = cl.op := by simp only [opAt, hcl]
        rw [hop0, hopl] at hpre
        have hq : endsL.any (cl.op == ·) = true → q26 [encRow r] = some (.bool (circlesB r)) := fun h => by
          rw [ends_eq] at h
          simp only [Bool.and_eq_true, Bool.not_eq_true'] at h
          exact q26_eq hle (inside_of hA (by rw [hopl]; exact h.1) (by rw [hopl]; exact h.2)) hfew
        clear hany hall o4 o5 ho' hlen1 hle hA hfew hop0 hopl hc0 hcl
        cases h258 : (c0.op == 258) with
        | false =>
          rw [h258, Bool.false_and, Bool.false_and] at hpre
          clear hq
          repeat' (first
          | with_reducible refine Red.go ?_
          | ((with_reducible apply blkK_pass); rfl)
          | ((with_reducible first | apply wpOps_dry | apply wpOps_wet | apply wpOps_wet0); (simp only [evDryF, evWetF, St.new, Nat.reduceAdd, Nat.zero_add, Nat.add_zero, Eo.evF, upd_ap, reduceIte, Nat.reduceEqDiff, Bool.false_eq_true, Bool.not_true, Bool.not_false, flat, binAV, binInt, natOf_cast, *]; rfl))
          | ((with_reducible apply wpOps_undef)
             · simp only [upd_ap, reduceIte, Nat.reduceEqDiff]; done)
          | ((with_reducible first | apply wpOps_test | apply wp_test); (simp only [Eo.evF, upd_ap, reduceIte, Nat.reduceEqDiff, Bool.false_eq_true, Bool.not_true, Bool.not_false, flat, binAV, binInt, natOf_cast, *]; rfl))
          | (with_reducible apply testK_mk
             all_goals (intro hb; try simp only [Bool.not_true, Bool.not_false, Bool.not_eq_true', Bool.not_eq_false'] at hb)))
          refine fnK_one ?_
          simp [ans, tupled, upd_ap, hpre]
        | true =>
          rw [h258, Bool.true_and] at hpre
          repeat' (first
          | with_reducible refine Red.go ?_
          | ((with_reducible apply blkK_pass); rfl)
          | ((with_reducible first | apply wpOps_dry | apply wpOps_wet | apply wpOps_wet0); (simp only [evDryF, evWetF, St.new, Nat.reduceAdd, Nat.zero_add, Nat.add_zero, Eo.evF, upd_ap, reduceIte, Nat.reduceEqDiff, Bool.false_eq_true, Bool.not_true, Bool.not_false, flat, binAV, binInt, gint, natOf_cast, List.length_map, *]; rfl))
          | ((with_reducible apply wpOps_undef)
             · simp only [upd_ap, reduceIte, Nat.reduceEqDiff]; done)
          | ((with_reducible first | apply wpOps_test | apply wp_test); (simp only [Eo.evF, upd_ap, reduceIte, Nat.reduceEqDiff, Bool.false_eq_true, Bool.not_true, Bool.not_false, flat, binAV, binInt, gint, natOf_cast, List.length_map, *]; rfl))
          | (with_reducible apply testK_mk
             all_goals (intro hb; try simp only [Bool.not_true, Bool.not_false, Bool.not_eq_true', Bool.not_eq_false'] at hb)))
          refine wpOps_call (g := 25) (a := []) (b := []) (x := [.sl 3 0 4, K cl.op]) rfl (by simp only [evsF, List.map_cons, List.map_nil, Eo.evF, upd_ap, reduceIte, Nat.reduceEqDiff]) ?_
          refine callK_run h25 rfl (t25four E h25 h55 cl.op _ 3 1 (by kernel_rfl) _ ?_)
          cases he : endsL.any (cl.op == ·) with
          | false =>
            rw [he, Bool.false_and] at hpre
            clear hq
            repeat' (first
            | with_reducible refine Red.go ?_
            | ((with_reducible apply blkK_pass); rfl)
            | ((with_reducible first | apply wpOps_dry | apply wpOps_wet | apply wpOps_wet0); (simp only [evDryF, evWetF, St.new, Nat.reduceAdd, Nat.zero_add, Nat.add_zero, Eo.evF, upd_ap, reduceIte, Nat.reduceEqDiff, Bool.false_eq_true, Bool.not_true, Bool.not_false, flat, binAV, binInt, natOf_cast, *]; rfl))
            | ((with_reducible apply wpOps_undef)
               · simp only [upd_ap, reduceIte, Nat.reduceEqDiff]; done)
            | ((with_reducible first | apply wpOps_test | apply wp_test); (simp only [Eo.evF, upd_ap, reduceIte, Nat.reduceEqDiff, Bool.false_eq_true, Bool.not_true, Bool.not_false, flat, binAV, binInt, natOf_cast, *]; rfl))
            | (with_reducible apply testK_mk
               all_goals (intro hb; try simp only [Bool.not_true, Bool.not_false, Bool.not_eq_true', Bool.not_eq_false'] at hb)))
            refine fnK_one ?_
            simp [ans, tupled, upd_ap, hpre]
          | true =>
            rw [he, Bool.true_and] at hpre
            have q := hq he
            clear hq
            repeat' (first
            | with_reducible refine Red.go ?_
            | ((with_reducible apply blkK_pass); rfl)
            | ((with_reducible first | apply wpOps_dry | apply wpOps_wet | apply wpOps_wet0); (simp only [evDryF, evWetF, St.new, Nat.reduceAdd, Nat.zero_add, Nat.add_zero, Eo.evF, upd_ap, reduceIte, Nat.reduceEqDiff, Bool.false_eq_true, Bool.not_true, Bool.not_false, flat, binAV, binInt, natOf_cast, *]; rfl))
            | ((with_reducible apply wpOps_undef)
               · simp only [upd_ap, reduceIte, Nat.reduceEqDiff]; done)
            | ((with_reducible apply wpOps_told); assumption; (simp only [evsF, List.map_cons, List.map_nil, Eo.evF, upd_ap, reduceIte, Nat.reduceEqDiff, Bool.false_eq_true, Bool.not_true, Bool.not_false, flat, binAV, binInt, natOf_cast, *]; rfl); first | (simp only [q]; rfl) | assumption)
            | ((with_reducible first | apply wpOps_test | apply wp_test); (simp only [Eo.evF, upd_ap, reduceIte, Nat.reduceEqDiff, Bool.false_eq_true, Bool.not_true, Bool.not_false, flat, binAV, binInt, natOf_cast, *]; rfl))
            | (with_reducible apply testK_mk
               all_goals (intro hb; try simp only [Bool.not_true, Bool.not_false, Bool.not_eq_true', Bool.not_eq_false'] at hb)))
            refine fnK_one ?_
            simp [ans, tupled, upd_ap, hpre]
end Go.Ev.Lc
/- LowerChecks: Right, on both sides. -/
namespace Go.Ev.Lc
open Go.Ev.Tab
set_option maxRecDepth 100000
set_option linter.all false

theorem envB_imports {e : Env'} (h : envB e = true) : 0 ≤ e.imports ∧ e.imports ≤ e.sigs.length ∧ e.sigs.length ≤ 64 := by
  simp only [envB, Bool.and_eq_true, Bool.not_eq_true', decide_eq_false_iff_not] at h
  omega
def body11 := match e11.body with
  | .seq _ (.seq _ (.seq (.seq _ (.block _ (.loop b))) _)) => b
  | _ => .skip
set_option maxHeartbeats 4000000 in
theorem loop11 (E : Env) (h9 : ToldBy E 9 q9) (h33 : ToldBy E 33 q33) (p : Rows) (ho : RowsOk p) (im : Nat) (hi : p.env.imports = im) (hl : im + p.fns.length = p.env.sigs.length) (h64 : p.env.sigs.length ≤ 64) (s : St) (hrow : rowH s.H 0 = some (rowsCells p, 6, 1)) (Q : Post) :
    ∀ m k (v : Pl), k + m = p.fns.length → (rightAt p.env (p.fns.drop k) (p.env.sigs.drop (im + k)) = true → ∀ env, Q (.exit 0) env s) → (rightAt p.env (p.fns.drop k) (p.env.sigs.drop (im + k)) = false → ∀ env, env 2 = .bool false → Q .ret env s) →
      RunT E 0 (.loop body11) (setAll v [(1, .ptr 0 0), (3, K k)]) s Q := by
  intro m
  induction m with
  | zero =>
    intro k v hk h1 h2
    have hki := lt_f (l := p.fns) (k := k) (by omega)
    have h1 := h1 (by rw [List.drop_eq_nil_of_le (by omega)]; rfl)
    clear hk h2 hl h64 ho hi
    refine lp ?_
    simp only [setAll, body11, e11]
    repeat' (first
    | with_reducible refine Red.go ?_
    | with_reducible refine wp_draw ?_
    | ((with_reducible apply blkK_pass); rfl)
    | ((with_reducible first | apply wpOps_dry | apply wpOps_wet | apply wpOps_wet0 | apply wpDraw_dry); (simp only [evDryF, evWetF, St.new, Nat.reduceAdd, Nat.zero_add, Nat.add_zero, Eo.evF, upd_ap, reduceIte, Nat.reduceEqDiff, Bool.false_eq_true, Bool.not_true, Bool.not_false, flat, binAV, binInt, gint, List.length_map, row_rowH, *]; rfl))
    | ((with_reducible apply wpDraw_load); (simp only [Eo.evF, upd_ap, reduceIte, Nat.reduceEqDiff, Bool.false_eq_true, Bool.not_true, Bool.not_false, flat, binAV, binInt, gint, List.length_map, row_rowH, *]; rfl); rfl; rfl)
    | ((with_reducible first | apply wpOps_undef | apply wpDraw_undef)
       · simp only [upd_ap, reduceIte, Nat.reduceEqDiff]; done)
    | ((with_reducible first | apply wpOps_test | apply wp_test | apply draw_test); (simp only [Eo.evF, upd_ap, reduceIte, Nat.reduceEqDiff, Bool.false_eq_true, Bool.not_true, Bool.not_false, flat, binAV, binInt, gint, List.length_map, row_rowH, *]; rfl))
    | (with_reducible apply testK_mk
       all_goals (intro hb; try simp only [Bool.not_true, Bool.not_false, Bool.not_eq_true', Bool.not_eq_false'] at hb)))
    exact h1 _
  | succ m ih =>
    intro k v hk h1 h2
    have hkl : k < p.fns.length := by omega
    have hki := lt_t hkl
    obtain ⟨r, hr, hd⟩ := get_ex hkl
    obtain ⟨sg, hsg, hds⟩ := get_ex (l := p.env.sigs) (k := im + k) (by omega)
    have hr' := map_get (f := encRow) hr
    have hsg' := map_get (f := encSig) hsg
    have hor := ho.each r (List.mem_of_getElem? hr)
    have q := q9_eq ho.env hor
    have q2 := q33_eq (b := sg) (show sigShort r.sig = true by simp only [sigShort, hor.inp, hor.out, Bool.and_self])
    have hw := wrap_succ ho.fns hkl
    have hwi : IntKind.i64.wrap (p.env.imports + (k : Int)) = ((im + k : Nat) : Int) := by rw [hi, IntKind.wrap_i64]; omega
    have ih := fun v => ih (k + 1) v (by omega)
    rw [hd, hds] at h1 h2
    simp only [rightAt] at h1 h2
    rw [show im + (k + 1) = im + k + 1 from rfl] at ih
    clear hr hsg hd hds hor ho hi hl h64 hkl hk
    refine lp ?_
    simp only [setAll, body11, e11]
    cases hb1 : refCheckB p.env r with
    | false =>
      rw [hb1] at h2 q
      have h2 := h2 rfl
      clear h1 ih q2
      repeat' (first
      | with_reducible refine Red.go ?_
      | with_reducible refine wp_drawR ?_
      | ((with_reducible apply blkK_pass); rfl)
      | ((with_reducible first | apply dr_load | apply dr_wet | apply dr_wet0); (simp only [evDryF, evWetF, St.new, Nat.reduceAdd, Nat.zero_add, Nat.add_zero, Eo.evF, upd_ap, reduceIte, Nat.reduceEqDiff, Bool.false_eq_true, Bool.not_true, Bool.not_false, flat, binAV, binInt, gint, List.length_map, natOf_cast, row_rowH, *]; rfl); rfl)
      | ((with_reducible first | apply wpOps_dry | apply wpOps_wet | apply wpOps_wet0 | apply dr_dry); (simp only [evDryF, evWetF, St.new, Nat.reduceAdd, Nat.zero_add, Nat.add_zero, Eo.evF, upd_ap, reduceIte, Nat.reduceEqDiff, Bool.false_eq_true, Bool.not_true, Bool.not_false, flat, binAV, binInt, gint, List.length_map, natOf_cast, row_rowH, *]; rfl))
      | ((with_reducible first | apply wpOps_undef | apply dr_undef)
         · simp only [upd_ap, reduceIte, Nat.reduceEqDiff]; done)
      | ((with_reducible first | apply wpOps_told | apply dr_told); assumption; (simp only [evsF, List.map_cons, List.map_nil, Eo.evF, upd_ap, reduceIte, Nat.reduceEqDiff, Bool.false_eq_true, Bool.not_true, Bool.not_false, flat, binAV, binInt, gint, List.length_map, natOf_cast, row_rowH, *]; rfl); first | (simp only [q]; rfl) | assumption)
      | ((with_reducible first | apply wpOps_test | apply wp_test | apply dr_test); (simp only [Eo.evF, upd_ap, reduceIte, Nat.reduceEqDiff, Bool.false_eq_true, Bool.not_true, Bool.not_false, flat, binAV, binInt, gint, List.length_map, natOf_cast, row_rowH, *]; rfl))
      | (with_reducible apply testK_mk
         all_goals (intro hb; try simp only [Bool.not_true, Bool.not_false, Bool.not_eq_true', Bool.not_eq_false'] at hb)))
      exact h2 _ rfl
    | true =>
      rw [hb1] at h1 h2 q
      cases hb2 : sameSigB r.sig sg with
      | false =>
        rw [hb2] at h2 q2
        have h2 := h2 rfl
        clear h1 ih
        repeat' (first
        | with_reducible refine Red.go ?_
        | with_reducible refine wp_drawR ?_
        | ((with_reducible apply blkK_pass); rfl)
        | ((with_reducible first | apply dr_load | apply dr_wet | apply dr_wet0); (simp only [evDryF, evWetF, St.new, Nat.reduceAdd, Nat.zero_add, Nat.add_zero, Eo.evF, upd_ap, reduceIte, Nat.reduceEqDiff, Bool.false_eq_true, Bool.not_true, Bool.not_false, flat, binAV, binInt, gint, List.length_map, natOf_cast, row_rowH, *]; rfl); rfl)
        | ((with_reducible first | apply wpOps_dry | apply wpOps_wet | apply wpOps_wet0 | apply dr_dry); (simp only [evDryF, evWetF, St.new, Nat.reduceAdd, Nat.zero_add, Nat.add_zero, Eo.evF, upd_ap, reduceIte, Nat.reduceEqDiff, Bool.false_eq_true, Bool.not_true, Bool.not_false, flat, binAV, binInt, gint, List.length_map, natOf_cast, row_rowH, *]; rfl))
        | ((with_reducible first | apply wpOps_undef | apply dr_undef)
           · simp only [upd_ap, reduceIte, Nat.reduceEqDiff]; done)
        | ((with_reducible first | apply wpOps_told | apply dr_told); assumption; (simp only [evsF, List.map_cons, List.map_nil, Eo.evF, upd_ap, reduceIte, Nat.reduceEqDiff, Bool.false_eq_true, Bool.not_true, Bool.not_false, flat, binAV, binInt, gint, List.length_map, natOf_cast, row_rowH, *]; rfl); first | (simp only [q, q2]; rfl) | assumption)
        | ((with_reducible first | apply wpOps_test | apply wp_test | apply dr_test); (simp only [Eo.evF, upd_ap, reduceIte, Nat.reduceEqDiff, Bool.false_eq_true, Bool.not_true, Bool.not_false, flat, binAV, binInt, gint, List.length_map, natOf_cast, row_rowH, *]; rfl))
        | (with_reducible apply testK_mk
           all_goals (intro hb; try simp only [Bool.not_true, Bool.not_false, Bool.not_eq_true', Bool.not_eq_false'] at hb)))
        exact h2 _ rfl
      | true =>
        rw [hb2] at h1 h2 q2
        simp only [Bool.true_and] at h1 h2
        repeat' (first
        | with_reducible refine Red.go ?_
        | with_reducible refine wp_drawR ?_
        | ((with_reducible apply blkK_pass); rfl)
        | ((with_reducible first | apply dr_load | apply dr_wet | apply dr_wet0); (simp only [evDryF, evWetF, St.new, Nat.reduceAdd, Nat.zero_add, Nat.add_zero, Eo.evF, upd_ap, reduceIte, Nat.reduceEqDiff, Bool.false_eq_true, Bool.not_true, Bool.not_false, flat, binAV, binInt, gint, List.length_map, natOf_cast, row_rowH, *]; rfl); rfl)
        | ((with_reducible first | apply wpOps_dry | apply wpOps_wet | apply wpOps_wet0 | apply dr_dry); (simp only [evDryF, evWetF, St.new, Nat.reduceAdd, Nat.zero_add, Nat.add_zero, Eo.evF, upd_ap, reduceIte, Nat.reduceEqDiff, Bool.false_eq_true, Bool.not_true, Bool.not_false, flat, binAV, binInt, gint, List.length_map, natOf_cast, row_rowH, *]; rfl))
        | ((with_reducible first | apply wpOps_undef | apply dr_undef)
           · simp only [upd_ap, reduceIte, Nat.reduceEqDiff]; done)
        | ((with_reducible first | apply wpOps_told | apply dr_told); assumption; (simp only [evsF, List.map_cons, List.map_nil, Eo.evF, upd_ap, reduceIte, Nat.reduceEqDiff, Bool.false_eq_true, Bool.not_true, Bool.not_false, flat, binAV, binInt, gint, List.length_map, natOf_cast, row_rowH, *]; rfl); first | (simp only [q, q2]; rfl) | assumption)
        | ((with_reducible first | apply wpOps_test | apply wp_test | apply dr_test); (simp only [Eo.evF, upd_ap, reduceIte, Nat.reduceEqDiff, Bool.false_eq_true, Bool.not_true, Bool.not_false, flat, binAV, binInt, gint, List.length_map, natOf_cast, row_rowH, *]; rfl))
        | (with_reducible apply testK_mk
           all_goals (intro hb; try simp only [Bool.not_true, Bool.not_false, Bool.not_eq_true', Bool.not_eq_false'] at hb)))
        refine lpK_nrm ?_
        exact rebase (L := [(1, .ptr 0 0), (3, K (k + 1 : Nat))]) ⟨rfl, rfl, trivial⟩ (ih _ h1 h2)
set_option maxHeartbeats 4000000 in
theorem t11 (E : Env) (h : E.fns 11 = some e11) (h27 : E.fns 27 = some e27) (h58 : ToldBy E 58 q58x) (h59 : ToldBy E 59 q59) (h9 : ToldBy E 9 q9) (h33 : ToldBy E 33 q33) (p : Rows) (ho : RowsOk p) : AnsK E 0 11 [encRows p] s0 (ans (.bool (rightB p))) := by
  refine fn_run h rfl rfl (plOf_args0 ..) ?_
  simp only [argPl, e11]
  have ho' := ho
  clear ho
  repeat' (first
  | with_reducible refine Red.go ?_
  | with_reducible refine wp_draw ?_
  | ((with_reducible apply blkK_pass); rfl)
  | ((with_reducible first | apply wpOps_dry | apply wpOps_wet | apply wpOps_wet0 | apply wpDraw_dry); (simp only [evDryF, evWetF, St.new, Nat.reduceAdd, Nat.zero_add, Nat.add_zero, Eo.evF, upd_ap, reduceIte, Nat.reduceEqDiff, Bool.false_eq_true, Bool.not_true, Bool.not_false, flat, binAV, binInt, gint, List.length_map, *]; rfl))
  | ((with_reducible apply wpDraw_load); (simp only [Eo.evF, upd_ap, reduceIte, Nat.reduceEqDiff, Bool.false_eq_true, Bool.not_true, Bool.not_false, flat, binAV, binInt, gint, List.length_map, *]; rfl); rfl; rfl)
  | ((with_reducible first | apply wpOps_undef | apply wpDraw_undef)
     · simp only [upd_ap, reduceIte, Nat.reduceEqDiff]; done)
  | ((with_reducible first | apply wpOps_test | apply wp_test | apply draw_test); (simp only [Eo.evF, upd_ap, reduceIte, Nat.reduceEqDiff, Bool.false_eq_true, Bool.not_true, Bool.not_false, flat, binAV, binInt, gint, List.length_map, *]; rfl))
  | (with_reducible apply testK_mk
     all_goals (intro hb; try simp only [Bool.not_true, Bool.not_false, Bool.not_eq_true', Bool.not_eq_false'] at hb)))
  refine wpOps_call (g := 27) (a := []) (b := []) (x := [encEnv p.env]) rfl rfl ?_
  refine callK_run h27 rfl (t27g E h27 h58 h59 p.env ho'.env _ _ ?_)
  cases hE : envB p.env with
  | false =>
    have hp : rightB p = false := by simp [rightB, hE]
    clear hE
    repeat' (first
    | with_reducible refine Red.go ?_
    | with_reducible refine wp_draw ?_
    | ((with_reducible apply blkK_pass); rfl)
    | ((with_reducible first | apply wpOps_dry | apply wpOps_wet | apply wpOps_wet0 | apply wpDraw_dry); (simp only [evDryF, evWetF, St.new, Nat.reduceAdd, Nat.zero_add, Nat.add_zero, Eo.evF, upd_ap, reduceIte, Nat.reduceEqDiff, Bool.false_eq_true, Bool.not_true, Bool.not_false, flat, *]; rfl))
    | ((with_reducible apply wpDraw_load); (simp only [Eo.evF, upd_ap, reduceIte, Nat.reduceEqDiff, Bool.false_eq_true, Bool.not_true, Bool.not_false, flat, *]; rfl); rfl; rfl)
    | ((with_reducible first | apply wpOps_undef | apply wpDraw_undef)
       · simp only [upd_ap, reduceIte, Nat.reduceEqDiff]; done)
    | ((with_reducible first | apply wpOps_test | apply wp_test | apply draw_test); (simp only [Eo.evF, upd_ap, reduceIte, Nat.reduceEqDiff, Bool.false_eq_true, Bool.not_true, Bool.not_false, flat, *]; rfl))
    | (with_reducible apply testK_mk
       all_goals (intro hb; try simp only [Bool.not_true, Bool.not_false, Bool.not_eq_true', Bool.not_eq_false'] at hb)))
    refine fnK_one ?_
    simp [ans, tupled, hp, upd_ap]
  | true =>
    obtain ⟨i1, i2, i3⟩ := envB_imports hE
    have hw : IntKind.i64.wrap ((p.env.sigs.length : Int) - p.env.imports) = (p.env.sigs.length : Int) - p.env.imports := by rw [IntKind.wrap_i64]; omega
    cases hL : ((p.fns.length : Int) == (p.env.sigs.length : Int) - p.env.imports) with
    | false =>
      have hp : rightB p = false := by simp only [rightB, hL, Bool.and_false, Bool.false_and]
      clear hE i1 i2 i3
      repeat' (first
      | with_reducible refine Red.go ?_
      | with_reducible refine wp_draw ?_
      | ((with_reducible apply blkK_pass); rfl)
      | ((with_reducible first | apply wpOps_dry | apply wpOps_wet | apply wpOps_wet0 | apply wpDraw_dry); (simp only [evDryF, evWetF, St.new, Nat.reduceAdd, Nat.zero_add, Nat.add_zero, Eo.evF, upd_ap, reduceIte, Nat.reduceEqDiff, Bool.false_eq_true, Bool.not_true, Bool.not_false, flat, binAV, binInt, gint, List.length_map, *]; rfl))
      | ((with_reducible apply wpDraw_load); (simp only [Eo.evF, upd_ap, reduceIte, Nat.reduceEqDiff, Bool.false_eq_true, Bool.not_true, Bool.not_false, flat, binAV, binInt, gint, List.length_map, *]; rfl); rfl; rfl)
      | ((with_reducible first | apply wpOps_undef | apply wpDraw_undef)
         · simp only [upd_ap, reduceIte, Nat.reduceEqDiff]; done)
      | ((with_reducible first | apply wpOps_test | apply wp_test | apply draw_test); (simp only [Eo.evF, upd_ap, reduceIte, Nat.reduceEqDiff, Bool.false_eq_true, Bool.not_true, Bool.not_false, flat, binAV, binInt, gint, List.length_map, *]; rfl))
      | (with_reducible apply testK_mk
         all_goals (intro hb; try simp only [Bool.not_true, Bool.not_false, Bool.not_eq_true', Bool.not_eq_false'] at hb)))
      refine fnK_one ?_
      simp [ans, tupled, hp, upd_ap]
    | true =>
      have hp : rightB p = rightAt p.env p.fns (p.env.sigs.drop p.env.imports.toNat) := by simp only [rightB, hL, hE, Bool.true_and]
      obtain ⟨im, him⟩ : ∃ im : Nat, p.env.imports = im := ⟨p.env.imports.toNat, by omega⟩
      have hl : im + p.fns.length = p.env.sigs.length := by have := hL; simp at this; omega
      rw [him, Int.toNat_natCast] at hp
      rw [him] at hL hw
      have hloop := fun s hrow Q => loop11 E h9 h33 p ho' im him hl i3 s hrow Q p.fns.length 0
      clear hE i1 i2 i3 hl
      have hz : p.env.sigs.drop (im + 0) = p.env.sigs.drop im := rfl
      repeat' (first
      | with_reducible refine Red.go ?_
      | with_reducible refine wp_draw ?_
      | ((with_reducible apply blkK_pass); rfl)
      | ((with_reducible first | apply wpOps_dry | apply wpOps_wet | apply wpOps_wet0 | apply wpDraw_dry); (simp only [evDryF, evWetF, St.new, Nat.reduceAdd, Nat.zero_add, Nat.add_zero, Eo.evF, upd_ap, reduceIte, Nat.reduceEqDiff, Bool.false_eq_true, Bool.not_true, Bool.not_false, flat, binAV, binInt, gint, List.length_map, *]; rfl))
      | ((with_reducible apply wpDraw_load); (simp only [Eo.evF, upd_ap, reduceIte, Nat.reduceEqDiff, Bool.false_eq_true, Bool.not_true, Bool.not_false, flat, binAV, binInt, gint, List.length_map, *]; rfl); rfl; rfl)
      | ((with_reducible first | apply wpOps_undef | apply wpDraw_undef)
         · simp only [upd_ap, reduceIte, Nat.reduceEqDiff]; done)
      | ((with_reducible first | apply wpOps_test | apply wp_test | apply draw_test); (simp only [Eo.evF, upd_ap, reduceIte, Nat.reduceEqDiff, Bool.false_eq_true, Bool.not_true, Bool.not_false, flat, binAV, binInt, gint, List.length_map, *]; rfl))
      | (with_reducible apply testK_mk
         all_goals (intro hb; try simp only [Bool.not_true, Bool.not_false, Bool.not_eq_true', Bool.not_eq_false'] at hb)))
      refine wp_loop (rebase (L := [(1, .ptr 0 0), (3, K (0 : Nat))]) ⟨rfl, rfl, trivial⟩ ?_)
      refine hloop _ (by kernel_rfl) _ _ (by omega) (fun ha env => ?_) (fun ha env e2 => ?_)
      · rw [List.drop_zero, hz, ← hp] at ha
        clear hloop
        repeat' (first
        | with_reducible refine Red.go ?_
        | with_reducible refine wp_draw ?_
        | ((with_reducible apply blkK_pass); rfl)
        | ((with_reducible first | apply wpOps_dry | apply wpOps_wet | apply wpOps_wet0 | apply wpDraw_dry); (simp only [evDryF, evWetF, St.new, Nat.reduceAdd, Nat.zero_add, Nat.add_zero, Eo.evF, upd_ap, reduceIte, Nat.reduceEqDiff, Bool.false_eq_true, Bool.not_true, Bool.not_false, flat, *]; rfl))
        | ((with_reducible apply wpDraw_load); (simp only [Eo.evF, upd_ap, reduceIte, Nat.reduceEqDiff, Bool.false_eq_true, Bool.not_true, Bool.not_false, flat, *]; rfl); rfl; rfl)
        | ((with_reducible first | apply wpOps_undef | apply wpDraw_undef)
           · simp only [upd_ap, reduceIte, Nat.reduceEqDiff]; done)
        | ((with_reducible first | apply wpOps_test | apply wp_test | apply draw_test); (simp only [Eo.evF, upd_ap, reduceIte, Nat.reduceEqDiff, Bool.false_eq_true, Bool.not_true, Bool.not_false, flat, *]; rfl))
        | (with_reducible apply testK_mk
           all_goals (intro hb; try simp only [Bool.not_true, Bool.not_false, Bool.not_eq_true', Bool.not_eq_false'] at hb)))
        refine fnK_one ?_
        simp [ans, tupled, upd_ap, ha]
      · rw [List.drop_zero, hz, ← hp] at ha
        clear hloop
        repeat' (first
        | with_reducible refine Red.go ?_
        | with_reducible refine wp_draw ?_
        | ((with_reducible apply blkK_pass); rfl)
        | ((with_reducible first | apply wpOps_dry | apply wpOps_wet | apply wpOps_wet0 | apply wpDraw_dry); (simp only [evDryF, evWetF, St.new, Nat.reduceAdd, Nat.zero_add, Nat.add_zero, Eo.evF, upd_ap, reduceIte, Nat.reduceEqDiff, Bool.false_eq_true, Bool.not_true, Bool.not_false, flat, *]; rfl))
        | ((with_reducible apply wpDraw_load); (simp only [Eo.evF, upd_ap, reduceIte, Nat.reduceEqDiff, Bool.false_eq_true, Bool.not_true, Bool.not_false, flat, *]; rfl); rfl; rfl)
        | ((with_reducible first | apply wpOps_undef | apply wpDraw_undef)
           · simp only [upd_ap, reduceIte, Nat.reduceEqDiff]; done)
        | ((with_reducible first | apply wpOps_test | apply wp_test | apply draw_test); (simp only [Eo.evF, upd_ap, reduceIte, Nat.reduceEqDiff, Bool.false_eq_true, Bool.not_true, Bool.not_false, flat, *]; rfl))
        | (with_reducible apply testK_mk
           all_goals (intro hb; try simp only [Bool.not_true, Bool.not_false, Bool.not_eq_true', Bool.not_eq_false'] at hb)))
        refine fnK_one ?_
        simp [ans, tupled, upd_ap, ha, e2]
end Go.Ev.Lc
/- LowerChecks: Right of the program. -/
namespace Go.Ev.Lc
open Go.Ev.Tab
set_option maxRecDepth 100000
set_option linter.all false

theorem sameSig_comm (a b : Sig) : (decide (b.inp = a.inp) && decide (b.out = a.out)) = sameSigB a b := by
  unfold sameSigB
  rw [Bool.eq_iff_iff]
  simp only [Bool.and_eq_true, decide_eq_true_eq]
  exact ⟨fun h => ⟨h.1.symm, h.2.symm⟩, fun h => ⟨h.1.symm, h.2.symm⟩⟩
def body10 := match e10.body with
  | .seq _ (.seq _ (.seq (.seq _ (.block _ (.loop b))) _)) => b
  | _ => .skip
set_option maxHeartbeats 8000000 in
theorem loop10 (E : Env) (h8 : ToldBy E 8 q9) (h32 : ToldBy E 32 q62) (p : Rows) (ho : RowsOk p) (im : Nat) (hi : p.env.imports = im) (hl : im + p.fns.length = p.env.sigs.length) (h64 : p.env.sigs.length ≤ 64) (Q : Post) :
    ∀ m k (s : St) (v : Pl), k + m = p.fns.length → rowH s.H 0 = some (rowsCells p, 6, 1) → 1 ≤ s.nx → (rightAt p.env (p.fns.drop k) (p.env.sigs.drop (im + k)) = true → ∀ env s, Q (.exit 0) env s) →
      (rightAt p.env (p.fns.drop k) (p.env.sigs.drop (im + k)) = false → ∀ env s, env 2 = .bool false → Q .ret env s) →
      RunT E 0 (.loop body10) (setAll v [(1, .ptr 0 0), (25, rows p.fns), (26, K p.fns.length), (27, K k)]) s Q := by
  intro m
  induction m with
  | zero =>
    intro k s v hk hrow hnx h1 h2
    have hki := lt_f (l := p.fns) (k := k) (by omega)
    have h1 := h1 (by rw [List.drop_eq_nil_of_le (by omega)]; rfl)
    clear hk h2 hl h64 ho hi hrow hnx
    refine lp ?_
    simp only [setAll, body10, e10]
    repeat' (first
    | with_reducible refine Red.go ?_
    | ((with_reducible apply blkK_pass); rfl)
    | ((with_reducible first | apply wpOps_dry | apply wpOps_wet | apply wpOps_wet0); (simp only [evDryF, evWetF, St.new, Nat.reduceAdd, Nat.zero_add, Nat.add_zero, Eo.evF, upd_ap, reduceIte, Nat.reduceEqDiff, Bool.false_eq_true, Bool.not_true, Bool.not_false, flat, binAV, binInt, gint, List.length_map, *]; rfl))
    | ((with_reducible apply wpOps_undef)
       · simp only [upd_ap, reduceIte, Nat.reduceEqDiff]; done)
    | ((with_reducible first | apply wpOps_test | apply wp_test); (simp only [Eo.evF, upd_ap, reduceIte, Nat.reduceEqDiff, Bool.false_eq_true, Bool.not_true, Bool.not_false, flat, binAV, binInt, gint, List.length_map, *]; rfl))
    | (with_reducible apply testK_mk
       all_goals (intro hb; try simp only [Bool.not_true, Bool.not_false, Bool.not_eq_true', Bool.not_eq_false'] at hb)))
    exact h1 _ _
  | succ m ih =>
    intro k s v hk hrow hnx h1 h2
    have hkl : k < p.fns.length := by omega
    have hki := lt_t hkl
    obtain ⟨r, hr, hd⟩ := get_ex hkl
    obtain ⟨sg, hsg, hds⟩ := get_ex (l := p.env.sigs) (k := im + k) (by omega)
    have hr' := map_get (f := encRow) hr
    have hsg' := map_get (f := encSig) hsg
    have hor := ho.each r (List.mem_of_getElem? hr)
    have q := q9_eq ho.env hor
    obtain ⟨_, _, _, sgs⟩ := envShort_and ho.env
    have hsgs := List.all_eq_true.1 sgs sg (List.mem_of_getElem? hsg)
    simp only [sigShort, Bool.and_eq_true] at hsgs
    have q2 := q62_eq (b := r.sig.inp) hsgs.1
    have q3 := q62_eq (b := r.sig.out) hsgs.2
    have hsame := sameSig_comm r.sig sg
    have hw := wrap_succ ho.fns hkl
    have hwi : IntKind.i64.wrap (p.env.imports + (k : Int)) = ((im + k : Nat) : Int) := by rw [hi, IntKind.wrap_i64]; omega
    have hrow4 : ∀ a b c d, rowH ((((s.H.set s.nx a).set s.nx b).set (s.nx + 1) c).set (s.nx + 1) d) 0 = some (rowsCells p, 6, 1) := fun a b c d => by rw [rowH_ne (by omega), rowH_ne (by omega), rowH_ne (by omega), rowH_ne (by omega)]; exact hrow
    have n0 : (0 = s.nx) = False := by simp; omega
    have n1 : (0 = s.nx + 1) = False := by simp
    have n2 : (s.nx = s.nx + 1) = False := by simp
    have ih := fun s v => ih (k + 1) s v (by omega)
    rw [hd, hds] at h1 h2
    simp only [rightAt, ← hsame] at h1 h2
    rw [show im + (k + 1) = im + k + 1 from rfl] at ih
    clear hr hsg hd hds hor ho hi hl h64 hkl hk sgs hsgs hsame hnx
    refine lp ?_
    simp only [setAll, body10, e10]
    cases hb2 : decide (sg.inp = r.sig.inp) with
    | false =>
      rw [hb2] at h2 q2
      have h2 := h2 (by simp)
      clear h1 ih q3 q
      repeat' (first
      | with_reducible refine Red.go ?_
      | ((with_reducible apply blkK_pass); rfl)
      | ((with_reducible first | apply wpOps_dry | apply wpOps_wet | apply wpOps_wet0); (simp only [evDryF, evWetF, St.new, Nat.reduceAdd, Nat.zero_add, Nat.add_zero, Eo.evF, upd_ap, reduceIte, Nat.reduceEqDiff, Bool.false_eq_true, Bool.not_true, Bool.not_false, flat, binAV, binInt, gint, List.length_map, natOf_cast, row_rowH, rowH_set, rowH_ne, ne_eq, not_false_eq_true, *]; rfl))
      | ((with_reducible apply wpOps_undef)
         · simp only [upd_ap, reduceIte, Nat.reduceEqDiff]; done)
      | ((with_reducible apply wpOps_told); assumption; (simp only [evsF, List.map_cons, List.map_nil, Eo.evF, upd_ap, reduceIte, Nat.reduceEqDiff, Bool.false_eq_true, Bool.not_true, Bool.not_false, flat, binAV, binInt, gint, List.length_map, natOf_cast, row_rowH, rowH_set, rowH_ne, ne_eq, not_false_eq_true, *]; rfl); first | (simp only [q2]; rfl) | assumption)
      | ((with_reducible first | apply wpOps_test | apply wp_test); (simp only [Eo.evF, upd_ap, reduceIte, Nat.reduceEqDiff, Bool.false_eq_true, Bool.not_true, Bool.not_false, flat, binAV, binInt, gint, List.length_map, natOf_cast, row_rowH, rowH_set, rowH_ne, ne_eq, not_false_eq_true, *]; rfl))
      | (with_reducible apply testK_mk
         all_goals (intro hb; try simp only [Bool.not_true, Bool.not_false, Bool.not_eq_true', Bool.not_eq_false'] at hb)))
      exact h2 _ _ rfl
    | true =>
      rw [hb2] at h1 h2 q2
      cases hb3 : decide (sg.out = r.sig.out) with
      | false =>
        rw [hb3] at h2 q3
        have h2 := h2 (by simp)
        clear h1 ih q
        repeat' (first
        | with_reducible refine Red.go ?_
        | ((with_reducible apply blkK_pass); rfl)
        | ((with_reducible first | apply wpOps_dry | apply wpOps_wet | apply wpOps_wet0); (simp only [evDryF, evWetF, St.new, Nat.reduceAdd, Nat.zero_add, Nat.add_zero, Eo.evF, upd_ap, reduceIte, Nat.reduceEqDiff, Bool.false_eq_true, Bool.not_true, Bool.not_false, flat, binAV, binInt, gint, List.length_map, natOf_cast, row_rowH, rowH_set, rowH_ne, ne_eq, not_false_eq_true, *]; rfl))
        | ((with_reducible apply wpOps_undef)
           · simp only [upd_ap, reduceIte, Nat.reduceEqDiff]; done)
        | ((with_reducible apply wpOps_told); assumption; (simp only [evsF, List.map_cons, List.map_nil, Eo.evF, upd_ap, reduceIte, Nat.reduceEqDiff, Bool.false_eq_true, Bool.not_true, Bool.not_false, flat, binAV, binInt, gint, List.length_map, natOf_cast, row_rowH, rowH_set, rowH_ne, ne_eq, not_false_eq_true, *]; rfl); first | (simp only [q2, q3]; rfl) | assumption)
        | ((with_reducible first | apply wpOps_test | apply wp_test); (simp only [Eo.evF, upd_ap, reduceIte, Nat.reduceEqDiff, Bool.false_eq_true, Bool.not_true, Bool.not_false, flat, binAV, binInt, gint, List.length_map, natOf_cast, row_rowH, rowH_set, rowH_ne, ne_eq, not_false_eq_true, *]; rfl))
        | (with_reducible apply testK_mk
           all_goals (intro hb; try simp only [Bool.not_true, Bool.not_false, Bool.not_eq_true', Bool.not_eq_false'] at hb)))
        exact h2 _ _ rfl
      | true =>
        rw [hb3] at h1 h2 q3
        cases hb1 : refCheckB p.env r with
        | false =>
          rw [hb1] at h2 q
          have h2 := h2 (by simp)
          clear h1 ih
          repeat' (first
          | with_reducible refine Red.go ?_
          | ((with_reducible apply blkK_pass); rfl)
          | ((with_reducible first | apply wpOps_dry | apply wpOps_wet | apply wpOps_wet0); (simp only [evDryF, evWetF, St.new, Nat.reduceAdd, Nat.zero_add, Nat.add_zero, Eo.evF, upd_ap, reduceIte, Nat.reduceEqDiff, Bool.false_eq_true, Bool.not_true, Bool.not_false, flat, binAV, binInt, gint, List.length_map, natOf_cast, row_rowH, rowH_set, rowH_ne, ne_eq, not_false_eq_true, *]; rfl))
          | ((with_reducible apply wpOps_undef)
             · simp only [upd_ap, reduceIte, Nat.reduceEqDiff]; done)
          | ((with_reducible apply wpOps_told); assumption; (simp only [evsF, List.map_cons, List.map_nil, Eo.evF, upd_ap, reduceIte, Nat.reduceEqDiff, Bool.false_eq_true, Bool.not_true, Bool.not_false, flat, binAV, binInt, gint, List.length_map, natOf_cast, row_rowH, rowH_set, rowH_ne, ne_eq, not_false_eq_true, *]; rfl); first | (simp only [q, q2, q3]; rfl) | assumption)
          | ((with_reducible first | apply wpOps_test | apply wp_test); (simp only [Eo.evF, upd_ap, reduceIte, Nat.reduceEqDiff, Bool.false_eq_true, Bool.not_true, Bool.not_false, flat, binAV, binInt, gint, List.length_map, natOf_cast, row_rowH, rowH_set, rowH_ne, ne_eq, not_false_eq_true, *]; rfl))
          | (with_reducible apply testK_mk
             all_goals (intro hb; try simp only [Bool.not_true, Bool.not_false, Bool.not_eq_true', Bool.not_eq_false'] at hb)))
          exact h2 _ _ rfl
        | true =>
          rw [hb1] at h1 h2 q
          simp only [Bool.true_and, Bool.and_self] at h1 h2
          repeat' (first
          | with_reducible refine Red.go ?_
          | ((with_reducible apply blkK_pass); rfl)
          | ((with_reducible first | apply wpOps_dry | apply wpOps_wet | apply wpOps_wet0); (simp only [evDryF, evWetF, St.new, Nat.reduceAdd, Nat.zero_add, Nat.add_zero, Eo.evF, upd_ap, reduceIte, Nat.reduceEqDiff, Bool.false_eq_true, Bool.not_true, Bool.not_false, flat, binAV, binInt, gint, List.length_map, natOf_cast, row_rowH, rowH_set, rowH_ne, ne_eq, not_false_eq_true, *]; rfl))
          | ((with_reducible apply wpOps_undef)
             · simp only [upd_ap, reduceIte, Nat.reduceEqDiff]; done)
          | ((with_reducible apply wpOps_told); assumption; (simp only [evsF, List.map_cons, List.map_nil, Eo.evF, upd_ap, reduceIte, Nat.reduceEqDiff, Bool.false_eq_true, Bool.not_true, Bool.not_false, flat, binAV, binInt, gint, List.length_map, natOf_cast, row_rowH, rowH_set, rowH_ne, ne_eq, not_false_eq_true, *]; rfl); first | (simp only [q, q2, q3]; rfl) | assumption)
          | ((with_reducible first | apply wpOps_test | apply wp_test); (simp only [Eo.evF, upd_ap, reduceIte, Nat.reduceEqDiff, Bool.false_eq_true, Bool.not_true, Bool.not_false, flat, binAV, binInt, gint, List.length_map, natOf_cast, row_rowH, rowH_set, rowH_ne, ne_eq, not_false_eq_true, *]; rfl))
          | (with_reducible apply testK_mk
             all_goals (intro hb; try simp only [Bool.not_true, Bool.not_false, Bool.not_eq_true', Bool.not_eq_false'] at hb)))
          refine lpK_nrm ?_
          refine rebase (L := [(1, .ptr 0 0), (25, rows p.fns), (26, K p.fns.length), (27, K (k + 1 : Nat))]) ⟨rfl, rfl, rfl, rfl, trivial⟩ (ih _ _ ?_ ?_ h1 h2)
          · exact hrow4 _ _ _ _
          · show 1 ≤ s.nx + 1 + 1
            omega
set_option maxHeartbeats 8000000 in
theorem t10 (E : Env) (h : E.fns 10 = some e10) (h19 : E.fns 19 = some { e19 with pure := true }) (h47 : ToldBy E 47 q47x) (h48 : E.fns 48 = some e48) (h79 : E.fns 79 = some e79) (h49 : E.fns 49 = some { e49 with pure := true }) (h50 : ToldBy E 50 q59) (h8 : ToldBy E 8 q9) (h32 : ToldBy E 32 q62)
    (p : Rows) (ho : RowsOk p) : AnsK E 0 10 [encRows p] s0 (ans (.bool (rightB p))) := by
  refine fn_run h rfl rfl (plOf_args0 ..) ?_
  simp only [argPl, e10]
  have ho' := ho
  clear ho
  repeat' (first
  | with_reducible refine Red.go ?_
  | with_reducible refine wp_draw ?_
  | ((with_reducible apply blkK_pass); rfl)
  | ((with_reducible first | apply wpOps_dry | apply wpOps_wet | apply wpOps_wet0 | apply wpDraw_dry); (simp only [evDryF, evWetF, St.new, Nat.reduceAdd, Nat.zero_add, Nat.add_zero, Eo.evF, upd_ap, reduceIte, Nat.reduceEqDiff, Bool.false_eq_true, Bool.not_true, Bool.not_false, flat, binAV, binInt, gint, List.length_map, *]; rfl))
  | ((with_reducible apply wpDraw_load); (simp only [Eo.evF, upd_ap, reduceIte, Nat.reduceEqDiff, Bool.false_eq_true, Bool.not_true, Bool.not_false, flat, binAV, binInt, gint, List.length_map, *]; rfl); rfl; rfl)
  | ((with_reducible first | apply wpOps_undef | apply wpDraw_undef)
     · simp only [upd_ap, reduceIte, Nat.reduceEqDiff]; done)
  | ((with_reducible first | apply wpOps_test | apply wp_test | apply draw_test); (simp only [Eo.evF, upd_ap, reduceIte, Nat.reduceEqDiff, Bool.false_eq_true, Bool.not_true, Bool.not_false, flat, binAV, binInt, gint, List.length_map, *]; rfl))
  | (with_reducible apply testK_mk
     all_goals (intro hb; try simp only [Bool.not_true, Bool.not_false, Bool.not_eq_true', Bool.not_eq_false'] at hb)))
  refine wpOps_call (g := 19) (a := []) (b := []) (x := [encEnv p.env]) rfl rfl ?_
  refine callK_run h19 rfl (t19 E h19 h47 h48 h79 h49 h50 p.env ho'.env _ _ ?_)
  cases hE : envB p.env with
  | false =>
    have hp : rightB p = false := by simp [rightB, hE]
    clear hE
    repeat' (first
    | with_reducible refine Red.go ?_
    | with_reducible refine wp_draw ?_
    | ((with_reducible apply blkK_pass); rfl)
    | ((with_reducible first | apply wpOps_dry | apply wpOps_wet | apply wpOps_wet0 | apply wpDraw_dry); (simp only [evDryF, evWetF, St.new, Nat.reduceAdd, Nat.zero_add, Nat.add_zero, Eo.evF, upd_ap, reduceIte, Nat.reduceEqDiff, Bool.false_eq_true, Bool.not_true, Bool.not_false, flat, *]; rfl))
    | ((with_reducible apply wpDraw_load); (simp only [Eo.evF, upd_ap, reduceIte, Nat.reduceEqDiff, Bool.false_eq_true, Bool.not_true, Bool.not_false, flat, *]; rfl); rfl; rfl)
    | ((with_reducible first | apply wpOps_undef | apply wpDraw_undef)
       · simp only [upd_ap, reduceIte, Nat.reduceEqDiff]; done)
    | ((with_reducible first | apply wpOps_test | apply wp_test | apply draw_test); (simp only [Eo.evF, upd_ap, reduceIte, Nat.reduceEqDiff, Bool.false_eq_true, Bool.not_true, Bool.not_false, flat, *]; rfl))
    | (with_reducible apply testK_mk
       all_goals (intro hb; try simp only [Bool.not_true, Bool.not_false, Bool.not_eq_true', Bool.not_eq_false'] at hb)))
    refine fnK_one ?_
    simp [ans, tupled, hp, upd_ap]
  | true =>
    obtain ⟨i1, i2, i3⟩ := envB_imports hE
    obtain ⟨im, him⟩ : ∃ im : Nat, p.env.imports = im := ⟨p.env.imports.toNat, by omega⟩
    have hlen := short_lt ho'.fns
    have hL' : (IntKind.i64.wrap ((p.fns.length : Int) + p.env.imports) == (p.env.sigs.length : Int)) = ((p.fns.length : Int) == (p.env.sigs.length : Int) - p.env.imports) := by
      rw [Bool.eq_iff_iff, beq_iff_eq, beq_iff_eq, IntKind.wrap_i64]
      omega
    cases hL : ((p.fns.length : Int) == (p.env.sigs.length : Int) - p.env.imports) with
    | false =>
      have hp : rightB p = false := by simp only [rightB, hL, Bool.and_false, Bool.false_and]
      rw [hL] at hL'
      clear hE i1 i2 i3 him hL hlen
      repeat' (first
      | with_reducible refine Red.go ?_
      | with_reducible refine wp_draw ?_
      | ((with_reducible apply blkK_pass); rfl)
      | ((with_reducible first | apply wpOps_dry | apply wpOps_wet | apply wpOps_wet0 | apply wpDraw_dry); (simp only [evDryF, evWetF, St.new, Nat.reduceAdd, Nat.zero_add, Nat.add_zero, Eo.evF, upd_ap, reduceIte, Nat.reduceEqDiff, Bool.false_eq_true, Bool.not_true, Bool.not_false, flat, binAV, binInt, gint, List.length_map, *]; rfl))
      | ((with_reducible apply wpDraw_load); (simp only [Eo.evF, upd_ap, reduceIte, Nat.reduceEqDiff, Bool.false_eq_true, Bool.not_true, Bool.not_false, flat, binAV, binInt, gint, List.length_map, *]; rfl); rfl; rfl)
      | ((with_reducible first | apply wpOps_undef | apply wpDraw_undef)
         · simp only [upd_ap, reduceIte, Nat.reduceEqDiff]; done)
      | ((with_reducible first | apply wpOps_test | apply wp_test | apply draw_test); (simp only [Eo.evF, upd_ap, reduceIte, Nat.reduceEqDiff, Bool.false_eq_true, Bool.not_true, Bool.not_false, flat, binAV, binInt, gint, List.length_map, *]; rfl))
      | (with_reducible apply testK_mk
         all_goals (intro hb; try simp only [Bool.not_true, Bool.not_false, Bool.not_eq_true', Bool.not_eq_false'] at hb)))
      refine fnK_one ?_
      simp [ans, tupled, hp, upd_ap]
    | true =>
      have hp : rightB p = rightAt p.env p.fns (p.env.sigs.drop p.env.imports.toNat) := by simp only [rightB, hL, hE, Bool.true_and]
      have hl : im + p.fns.length = p.env.sigs.length := by have := hL; simp at this; omega
      rw [him, Int.toNat_natCast] at hp
      rw [hL] at hL'
      have hloop := fun Q s v => loop10 E h8 h32 p ho' im him hl i3 Q p.fns.length 0 s v
      clear hE i1 i2 i3 hl him hL hlen
      have hz : p.env.sigs.drop (im + 0) = p.env.sigs.drop im := rfl
      repeat' (first
      | with_reducible refine Red.go ?_
      | with_reducible refine wp_draw ?_
      | ((with_reducible apply blkK_pass); rfl)
      | ((with_reducible first | apply wpOps_dry | apply wpOps_wet | apply wpOps_wet0 | apply wpDraw_dry); (simp only [evDryF, evWetF, St.new, Nat.reduceAdd, Nat.zero_add, Nat.add_zero, Eo.evF, upd_ap, reduceIte, Nat.reduceEqDiff, Bool.false_eq_true, Bool.not_true, Bool.not_false, flat, binAV, binInt, gint, List.length_map, *]; rfl))
      | ((with_reducible apply wpDraw_load); (simp only [Eo.evF, upd_ap, reduceIte, Nat.reduceEqDiff, Bool.false_eq_true, Bool.not_true, Bool.not_false, flat, binAV, binInt, gint, List.length_map, *]; rfl); rfl; rfl)
      | ((with_reducible first | apply wpOps_undef | apply wpDraw_undef)
         · simp only [upd_ap, reduceIte, Nat.reduceEqDiff]; done)
      | ((with_reducible first | apply wpOps_test | apply wp_test | apply draw_test); (simp only [Eo.evF, upd_ap, reduceIte, Nat.reduceEqDiff, Bool.false_eq_true, Bool.not_true, Bool.not_false, flat, binAV, binInt, gint, List.length_map, *]; rfl))
      | (with_reducible apply testK_mk
         all_goals (intro hb; try simp only [Bool.not_true, Bool.not_false, Bool.not_eq_true', Bool.not_eq_false'] at hb)))
      refine wp_loop (rebase (L := [(1, .ptr 0 0), (25, rows p.fns), (26, K p.fns.length), (27, K (0 : Nat))]) ⟨rfl, rfl, rfl, rfl, trivial⟩ ?_)
      refine hloop _ _ _ (by omega) (by kernel_rfl) (Nat.le_refl 1) (fun ha env s => ?_) (fun ha env s e2 => ?_)
      · rw [List.drop_zero, hz, ← hp] at ha
        clear hloop
        repeat' (first
        | with_reducible refine Red.go ?_
        | with_reducible refine wp_draw ?_
        | ((with_reducible apply blkK_pass); rfl)
        | ((with_reducible first | apply wpOps_dry | apply wpOps_wet | apply wpOps_wet0 | apply wpDraw_dry); (simp only [evDryF, evWetF, St.new, Nat.reduceAdd, Nat.zero_add, Nat.add_zero, Eo.evF, upd_ap, reduceIte, Nat.reduceEqDiff, Bool.false_eq_true, Bool.not_true, Bool.not_false, flat, *]; rfl))
        | ((with_reducible apply wpDraw_load); (simp only [Eo.evF, upd_ap, reduceIte, Nat.reduceEqDiff, Bool.false_eq_true, Bool.not_true, Bool.not_false, flat, *]; rfl); rfl; rfl)
        | ((with_reducible first | apply wpOps_undef | apply wpDraw_undef)
           · simp only [upd_ap, reduceIte, Nat.reduceEqDiff]; done)
        | ((with_reducible first | apply wpOps_test | apply wp_test | apply draw_test); (simp only [Eo.evF, upd_ap, reduceIte, Nat.reduceEqDiff, Bool.false_eq_true, Bool.not_true, Bool.not_false, flat, *]; rfl))
        | (with_reducible apply testK_mk
           all_goals (intro hb; try simp only [Bool.not_true, Bool.not_false, Bool.not_eq_true', Bool.not_eq_false'] at hb)))
        refine fnK_one ?_
        simp [ans, tupled, upd_ap, ha]
      · rw [List.drop_zero, hz, ← hp] at ha
        clear hloop
        repeat' (first
        | with_reducible refine Red.go ?_
        | with_reducible refine wp_draw ?_
        | ((with_reducible apply blkK_pass); rfl)
        | ((with_reducible first | apply wpOps_dry | apply wpOps_wet | apply wpOps_wet0 | apply wpDraw_dry); (simp only [evDryF, evWetF, St.new, Nat.reduceAdd, Nat.zero_add, Nat.add_zero, Eo.evF, upd_ap, reduceIte, Nat.reduceEqDiff, Bool.false_eq_true, Bool.not_true, Bool.not_false, flat, *]; rfl))
        | ((with_reducible apply wpDraw_load); (simp only [Eo.evF, upd_ap, reduceIte, Nat.reduceEqDiff, Bool.false_eq_true, Bool.not_true, Bool.not_false, flat, *]; rfl); rfl; rfl)
        | ((with_reducible first | apply wpOps_undef | apply wpDraw_undef)
           · simp only [upd_ap, reduceIte, Nat.reduceEqDiff]; done)
        | ((with_reducible first | apply wpOps_test | apply wp_test | apply draw_test); (simp only [Eo.evF, upd_ap, reduceIte, Nat.reduceEqDiff, Bool.false_eq_true, Bool.not_true, Bool.not_false, flat, *]; rfl))
        | (with_reducible apply testK_mk
           all_goals (intro hb; try simp only [Bool.not_true, Bool.not_false, Bool.not_eq_true', Bool.not_eq_false'] at hb)))
        refine fnK_one ?_
        simp [ans, tupled, upd_ap, ha, e2]
end Go.Ev.Lc
/- LowerChecks: the law. -/
namespace Go.Ev.Lc
open Go.Ev.Tab
set_option maxRecDepth 100000
set_option linter.all false

def body3 := match e3.body with
  | .seq _ (.seq (.seq _ (.block _ (.loop b))) _) => b
  | _ => .skip
set_option maxHeartbeats 4000000 in
theorem loop3 (E : Env) (h8 : ToldBy E 8 q9) (h9 : ToldBy E 9 q9) (p : Rows) (ho : RowsOk p) (Q : Post) :
    ∀ m k (s : St) (v : Pl), k + m = p.fns.length → rowH s.H 0 = some (rowsCells p, 6, 1) → 1 ≤ s.nx → (∀ s env, env 1 = .ptr 0 0 → rowH s.H 0 = some (rowsCells p, 6, 1) → Q (.exit 0) env s) →
      RunT E 0 (.loop body3) (setAll v [(1, .ptr 0 0), (6, rows p.fns), (7, K p.fns.length), (8, K k)]) s Q := by
  intro m
  induction m with
  | zero =>
    intro k s v hk hrow hnx h1
    have hki := lt_f (l := p.fns) (k := k) (by omega)
    have h1 := fun env e => h1 s env e hrow
    clear hk ho hrow hnx
    refine lp ?_
    simp only [setAll, body3, e3]
    repeat' (first
    | with_reducible refine Red.go ?_
    | with_reducible refine wp_draw ?_
    | ((with_reducible apply blkK_pass); rfl)
    | ((with_reducible first | apply wpOps_dry | apply wpOps_wet | apply wpOps_wet0 | apply wpDraw_dry); (simp only [evDryF, evWetF, St.new, Nat.reduceAdd, Nat.zero_add, Nat.add_zero, Eo.evF, upd_ap, reduceIte, Nat.reduceEqDiff, Bool.false_eq_true, Bool.not_true, Bool.not_false, flat, binAV, binInt, gint, List.length_map, *]; rfl))
    | ((with_reducible apply wpDraw_load); (simp only [Eo.evF, upd_ap, reduceIte, Nat.reduceEqDiff, Bool.false_eq_true, Bool.not_true, Bool.not_false, flat, binAV, binInt, gint, List.length_map, *]; rfl); rfl; rfl)
    | ((with_reducible first | apply wpOps_undef | apply wpDraw_undef)
       · simp only [upd_ap, reduceIte, Nat.reduceEqDiff]; done)
    | ((with_reducible first | apply wpOps_test | apply wp_test | apply draw_test); (simp only [Eo.evF, upd_ap, reduceIte, Nat.reduceEqDiff, Bool.false_eq_true, Bool.not_true, Bool.not_false, flat, binAV, binInt, gint, List.length_map, *]; rfl))
    | (with_reducible apply testK_mk
       all_goals (intro hb; try simp only [Bool.not_true, Bool.not_false, Bool.not_eq_true', Bool.not_eq_false'] at hb)))
    exact h1 _ rfl
  | succ m ih =>
    intro k s v hk hrow hnx h1
    have hkl : k < p.fns.length := by omega
    have hki := lt_t hkl
    obtain ⟨r, hr, _⟩ := get_ex hkl
    have hr' := map_get (f := encRow) hr
    have q := q9_eq ho.env (ho.each r (List.mem_of_getElem? hr))
    have hw := wrap_succ ho.fns hkl
    have n0 : (0 = s.nx) = False := by simp; omega
    have ih := fun s v a b => ih (k + 1) s v (by omega) a b h1
    generalize refCheckB p.env r = b at q
    have hbb : ((b == b)) = true := beq_self_eq_true b
    have hbn : (!(b == b)) = false := by rw [hbb]; rfl
    have hrow2 : ∀ x y, rowH ((s.H.set s.nx x).set s.nx y) 0 = some (rowsCells p, 6, 1) := fun x y => by rw [rowH_ne (by omega), rowH_ne (by omega)]; exact hrow
    clear hr ho hkl hk hnx h1
    refine lp ?_
    simp only [setAll, body3, e3]
    cases hd : decide ((k : Int) < 40) with
    | false =>
      repeat' (first
      | with_reducible refine Red.go ?_
      | with_reducible refine wp_drawR ?_
      | ((with_reducible apply blkK_pass); rfl)
      | ((with_reducible first | apply dr_load | apply dr_wet | apply dr_wet0); (simp only [evDryF, evWetF, St.new, Nat.reduceAdd, Nat.zero_add, Nat.add_zero, Eo.evF, upd_ap, reduceIte, Nat.reduceEqDiff, Bool.false_eq_true, Bool.not_true, Bool.not_false, flat, binAV, binInt, gint, List.length_map, natOf_cast, row_rowH, rowH_set, rowH_ne, ne_eq, not_false_eq_true, *]; rfl); rfl)
      | ((with_reducible first | apply wpOps_dry | apply wpOps_wet | apply wpOps_wet0 | apply dr_dry); (simp only [evDryF, evWetF, St.new, Nat.reduceAdd, Nat.zero_add, Nat.add_zero, Eo.evF, upd_ap, reduceIte, Nat.reduceEqDiff, Bool.false_eq_true, Bool.not_true, Bool.not_false, flat, binAV, binInt, gint, List.length_map, natOf_cast, row_rowH, rowH_set, rowH_ne, ne_eq, not_false_eq_true, *]; rfl))
      | ((with_reducible first | apply wpOps_undef | apply dr_undef)
         · simp only [upd_ap, reduceIte, Nat.reduceEqDiff]; done)
      | ((with_reducible first | apply wpOps_told | apply dr_told); assumption; (simp only [evsF, List.map_cons, List.map_nil, Eo.evF, upd_ap, reduceIte, Nat.reduceEqDiff, Bool.false_eq_true, Bool.not_true, Bool.not_false, flat, binAV, binInt, gint, List.length_map, natOf_cast, row_rowH, rowH_set, rowH_ne, ne_eq, not_false_eq_true, *]; rfl); first | (simp only [q]; rfl) | assumption)
      | ((with_reducible first | apply wpOps_test | apply wp_test | apply dr_test); (simp only [Eo.evF, upd_ap, reduceIte, Nat.reduceEqDiff, Bool.false_eq_true, Bool.not_true, Bool.not_false, flat, binAV, binInt, gint, List.length_map, natOf_cast, row_rowH, rowH_set, rowH_ne, ne_eq, not_false_eq_true, *]; rfl))
      | (with_reducible apply testK_mk
         all_goals (intro hb; try simp only [Bool.not_true, Bool.not_false, Bool.not_eq_true', Bool.not_eq_false'] at hb)))
      refine lpK_nrm ?_
      exact rebase (L := [(1, .ptr 0 0), (6, rows p.fns), (7, K p.fns.length), (8, K (k + 1 : Nat))]) ⟨rfl, rfl, rfl, rfl, trivial⟩ (ih _ _ (hrow2 _ _) (by show 1 ≤ s.nx + 1; omega))
    | true =>
      cases b
      all_goals
        repeat' (first
        | with_reducible refine Red.go ?_
        | with_reducible refine wp_drawR ?_
        | ((with_reducible apply blkK_pass); rfl)
        | ((with_reducible first | apply dr_load | apply dr_wet | apply dr_wet0); (simp only [evDryF, evWetF, St.new, Nat.reduceAdd, Nat.zero_add, Nat.add_zero, Eo.evF, upd_ap, reduceIte, Nat.reduceEqDiff, Bool.false_eq_true, Bool.not_true, Bool.not_false, flat, binAV, binInt, gint, List.length_map, natOf_cast, row_rowH, rowH_set, rowH_ne, ne_eq, not_false_eq_true, *]; rfl); rfl)
        | ((with_reducible first | apply wpOps_dry | apply wpOps_wet | apply wpOps_wet0 | apply dr_dry); (simp only [evDryF, evWetF, St.new, Nat.reduceAdd, Nat.zero_add, Nat.add_zero, Eo.evF, upd_ap, reduceIte, Nat.reduceEqDiff, Bool.false_eq_true, Bool.not_true, Bool.not_false, flat, binAV, binInt, gint, List.length_map, natOf_cast, row_rowH, rowH_set, rowH_ne, ne_eq, not_false_eq_true, *]; rfl))
        | ((with_reducible first | apply wpOps_undef | apply dr_undef)
           · simp only [upd_ap, reduceIte, Nat.reduceEqDiff]; done)
        | ((with_reducible first | apply wpOps_told | apply dr_told); assumption; (simp only [evsF, List.map_cons, List.map_nil, Eo.evF, upd_ap, reduceIte, Nat.reduceEqDiff, Bool.false_eq_true, Bool.not_true, Bool.not_false, flat, binAV, binInt, gint, List.length_map, natOf_cast, row_rowH, rowH_set, rowH_ne, ne_eq, not_false_eq_true, *]; rfl); first | (simp only [q]; rfl) | assumption)
        | ((with_reducible first | apply wpOps_test | apply wp_test | apply dr_test); (simp only [Eo.evF, upd_ap, reduceIte, Nat.reduceEqDiff, Bool.false_eq_true, Bool.not_true, Bool.not_false, flat, binAV, binInt, gint, List.length_map, natOf_cast, row_rowH, rowH_set, rowH_ne, ne_eq, not_false_eq_true, *]; rfl))
        | (with_reducible apply testK_mk
           all_goals (intro hb; try simp only [Bool.not_true, Bool.not_false, Bool.not_eq_true', Bool.not_eq_false'] at hb)))
        refine lpK_nrm ?_
        exact rebase (L := [(1, .ptr 0 0), (6, rows p.fns), (7, K p.fns.length), (8, K (k + 1 : Nat))]) ⟨rfl, rfl, rfl, rfl, trivial⟩ (ih _ _ (hrow2 _ _) (by show 1 ≤ s.nx + 1; omega))
set_option maxHeartbeats 4000000 in
theorem t3 (E : Env) (h : E.fns 3 = some e3) (h8 : ToldBy E 8 q9) (h9 : ToldBy E 9 q9) (h10 : ToldBy E 10 q11) (h11 : ToldBy E 11 q11) (h12 : ToldBy E 12 truth) (p : Rows) (ho : RowsOk p) : AnsK E 0 3 [encRows p] s0 (ans (.bool true)) := by
  refine fn_run h rfl rfl (plOf_args0 ..) ?_
  simp only [argPl, e3]
  have hloop := fun Q => loop3 E h8 h9 p ho Q p.fns.length 0
  have q := q11_eq ho
  have q2 : truth [] = some (.bool true) := rfl
  clear ho
  repeat' (first
  | with_reducible refine Red.go ?_
  | with_reducible refine wp_draw ?_
  | ((with_reducible apply blkK_pass); rfl)
  | ((with_reducible first | apply wpOps_dry | apply wpOps_wet | apply wpOps_wet0 | apply wpDraw_dry); (simp only [evDryF, evWetF, St.new, Nat.reduceAdd, Nat.zero_add, Nat.add_zero, Eo.evF, upd_ap, reduceIte, Nat.reduceEqDiff, Bool.false_eq_true, Bool.not_true, Bool.not_false, flat, binAV, binInt, gint, List.length_map, *]; rfl))
  | ((with_reducible apply wpDraw_load); (simp only [Eo.evF, upd_ap, reduceIte, Nat.reduceEqDiff, Bool.false_eq_true, Bool.not_true, Bool.not_false, flat, binAV, binInt, gint, List.length_map, *]; rfl); rfl; rfl)
  | ((with_reducible first | apply wpOps_undef | apply wpDraw_undef)
     · simp only [upd_ap, reduceIte, Nat.reduceEqDiff]; done)
  | ((with_reducible first | apply wpOps_test | apply wp_test | apply draw_test); (simp only [Eo.evF, upd_ap, reduceIte, Nat.reduceEqDiff, Bool.false_eq_true, Bool.not_true, Bool.not_false, flat, binAV, binInt, gint, List.length_map, *]; rfl))
  | (with_reducible apply testK_mk
     all_goals (intro hb; try simp only [Bool.not_true, Bool.not_false, Bool.not_eq_true', Bool.not_eq_false'] at hb)))
  refine wp_loop (rebase (L := [(1, .ptr 0 0), (6, rows p.fns), (7, K p.fns.length), (8, K (0 : Nat))]) ⟨rfl, rfl, rfl, rfl, trivial⟩ (hloop _ _ _ (by omega) (by kernel_rfl) (Nat.le_refl 1) (fun s env e1 hrow => ?_)))
  clear hloop
  generalize rightB p = b at q
  have hbb : ((b == b)) = true := beq_self_eq_true b
  cases b
  all_goals
    repeat' (first
    | with_reducible refine Red.go ?_
    | with_reducible refine wp_drawR ?_
    | ((with_reducible apply blkK_pass); rfl)
    | ((with_reducible first | apply dr_load | apply dr_wet | apply dr_wet0); (simp only [evDryF, evWetF, St.new, Nat.reduceAdd, Nat.zero_add, Nat.add_zero, Eo.evF, upd_ap, reduceIte, Nat.reduceEqDiff, Bool.false_eq_true, Bool.not_true, Bool.not_false, flat, row_rowH, *]; rfl); rfl)
    | ((with_reducible first | apply wpOps_dry | apply wpOps_wet | apply wpOps_wet0 | apply dr_dry); (simp only [evDryF, evWetF, St.new, Nat.reduceAdd, Nat.zero_add, Nat.add_zero, Eo.evF, upd_ap, reduceIte, Nat.reduceEqDiff, Bool.false_eq_true, Bool.not_true, Bool.not_false, flat, row_rowH, *]; rfl))
    | ((with_reducible first | apply wpOps_undef | apply dr_undef)
       · simp only [upd_ap, reduceIte, Nat.reduceEqDiff]; done)
    | ((with_reducible first | apply wpOps_told | apply dr_told); assumption; (simp only [evsF, List.map_cons, List.map_nil, Eo.evF, upd_ap, reduceIte, Nat.reduceEqDiff, Bool.false_eq_true, Bool.not_true, Bool.not_false, flat, row_rowH, *]; rfl); first | (simp only [q, q2]; rfl) | assumption)
    | ((with_reducible first | apply wpOps_test | apply wp_test | apply dr_test); (simp only [Eo.evF, upd_ap, reduceIte, Nat.reduceEqDiff, Bool.false_eq_true, Bool.not_true, Bool.not_false, flat, row_rowH, *]; rfl))
    | (with_reducible apply testK_mk
       all_goals (intro hb; try simp only [Bool.not_true, Bool.not_false, Bool.not_eq_true', Bool.not_eq_false'] at hb)))
    refine fnK_one ?_
    rfl
end Go.Ev.Lc
/- LowerChecks: what is told of each function, read back. -/
namespace Go.Ev.Lc
open Go.Ev.Tab
set_option maxRecDepth 100000
set_option linter.all false

section
variable {args : List AV} {v : AV}
theorem inv83 (h : q83 args = some v) : ∃ n, args = [K n] ∧ v = .bool (kindB n) := by
  unfold q83 at h
  split at h
  · simp only [Option.some.injEq] at h; exact ⟨_, rfl, h.symm⟩
  · simp at h
theorem inv30 (h : q30 args = some v) : ∃ n, args = [K n] ∧ v = .bool (goesB n) := by
  unfold q30 at h
  split at h
  · simp only [Option.some.injEq] at h; exact ⟨_, rfl, h.symm⟩
  · simp at h
theorem inv91 (h : q91 args = some v) : ∃ t n, args = [K t, .int .u64 n] ∧ v = .bool (fitsB t n) := by
  unfold q91 at h
  split at h
  · simp only [Option.some.injEq] at h; exact ⟨_, _, rfl, h.symm⟩
  · simp at h
theorem inv149 (h : q149 args = some v) : ∃ o a b, args = [K o, K a, K b] ∧ v = .bool (inB o a b) := by
  unfold q149 at h
  split at h
  · simp only [Option.some.injEq] at h; exact ⟨_, _, _, rfl, h.symm⟩
  · simp at h
theorem inv147 (h : q147 args = some v) : ∃ n, args = [K n] ∧ v = K (ofF n) := by
  unfold q147 at h
  split at h
  · simp only [Option.some.injEq] at h; exact ⟨_, rfl, h.symm⟩
  · simp at h
theorem inv148 (h : q148 args = some v) : ∃ n, args = [K n] ∧ v = .bool (unaryB n) := by
  unfold q148 at h
  split at h
  · simp only [Option.some.injEq] at h; exact ⟨_, rfl, h.symm⟩
  · simp at h
theorem inv119 (h : q119 args = some v) : ∃ n, args = [K n] ∧ v = sigV n := by
  unfold q119 at h
  split at h
  · simp only [Option.some.injEq] at h; exact ⟨_, rfl, h.symm⟩
  · simp at h
theorem inv81 (h : q81 args = some v) : ∃ n, args = [K n] ∧ word n ∧ v = sigV n := by
  unfold q81 at h
  split at h
  · split at h
    · rename_i hw
      simp only [Option.some.injEq] at h; exact ⟨_, rfl, hw, h.symm⟩
    · simp at h
  · simp at h
theorem inv120 (h : q120 args = some v) : ∃ n, args = [K n] ∧ v = accV n := by
  unfold q120 at h
  split at h
  · simp only [Option.some.injEq] at h; exact ⟨_, rfl, h.symm⟩
  · simp at h
theorem inv82 (h : q82 args = some v) : ∃ n b, args = [K n, .bool b] ∧ v = memV n b := by
  unfold q82 at h
  split at h
  · simp only [Option.some.injEq] at h; exact ⟨_, _, rfl, h.symm⟩
  · simp at h
theorem inv58 (h : q58 args = some v) : ∃ l n, args = [ints l, K n] ∧ short l = true ∧ v = .bool (kindsB l n) := by
  unfold q58 at h
  split at h
  · split at h
    · rename_i hl
      split at h
      · rename_i hs
        simp only [Option.some.injEq] at h
        exact ⟨_, _, by rw [unInts_some hl], hs, h.symm⟩
      · simp at h
    · simp at h
  · simp at h
theorem inv58x (h : q58x args = some v) : (∃ n, args = [.nils, K n] ∧ v = .bool (kindsB [] n)) ∨ ∃ l n, args = [ints l, K n] ∧ short l = true ∧ v = .bool (kindsB l n) := by
  unfold q58x at h
  split at h
  · simp only [Option.some.injEq] at h; exact .inl ⟨_, rfl, h.symm⟩
  · exact .inr (inv58 h)
theorem inv47 (h : q47 args = some v) : ∃ l n, args = [K n, ints l] ∧ short l = true ∧ v = .bool (kindsB l n) := by
  unfold q47 at h
  split at h
  · split at h
    · rename_i hl
      split at h
      · rename_i hs
        simp only [Option.some.injEq] at h
        exact ⟨_, _, by rw [unInts_some hl], hs, h.symm⟩
      · simp at h
    · simp at h
  · simp at h
theorem inv47x (h : q47x args = some v) : (args = [K 32, .nils] ∧ v = .bool true) ∨ ∃ l n, args = [K n, ints l] ∧ short l = true ∧ v = .bool (kindsB l n) := by
  unfold q47x at h
  split at h
  · simp only [Option.some.injEq] at h; exact .inl ⟨rfl, h.symm⟩
  · exact .inr (inv47 h)
theorem inv20 (h : q20 args = some v) : ∃ n l, args = [K n, ints l] ∧ short l = true ∧ v = .bool (withinB n l) := by
  unfold q20 at h
  split at h
  · split at h
    · rename_i hl
      split at h
      · rename_i hs
        simp only [Option.some.injEq] at h
        exact ⟨_, _, by rw [unInts_some hl], hs, h.symm⟩
      · simp at h
    · simp at h
  · simp at h
theorem inv25 (h : q25 args = some v) : ∃ l x, args = [ints l, K x] ∧ short l = true ∧ v = .bool (l.any (x == ·)) := by
  unfold q25 at h
  split at h
  · split at h
    · rename_i hl
      split at h
      · rename_i hs
        simp only [Option.some.injEq] at h
        exact ⟨_, _, by rw [unInts_some hl], hs, h.symm⟩
      · simp at h
    · simp at h
  · simp at h
theorem inv21 (h : q21 args = some v) : ∃ l, args = [ints l] ∧ short l = true ∧ v = .bool (unlikeB l) := by
  unfold q21 at h
  split at h
  · split at h
    · rename_i hl
      split at h
      · rename_i hs
        simp only [Option.some.injEq] at h
        exact ⟨_, by rw [unInts_some hl], hs, h.symm⟩
      · simp at h
    · simp at h
  · simp at h
theorem inv28 (h : q28 args = some v) : ∃ l n u, args = [ints l, K n, .bool u] ∧ short l = true ∧ v = .bool (placesB l n u) := by
  unfold q28 at h
  split at h
  · split at h
    · rename_i hl
      split at h
      · rename_i hs
        simp only [Option.some.injEq] at h
        exact ⟨_, _, _, by rw [unInts_some hl], hs, h.symm⟩
      · simp at h
    · simp at h
  · simp at h
theorem inv62 (h : q62 args = some v) : ∃ a b, args = [ints a, ints b] ∧ short a = true ∧ v = .bool (decide (a = b)) := by
  unfold q62 at h
  split at h
  · split at h
    · rename_i h1 h2
      split at h
      · rename_i hs
        simp only [Option.some.injEq] at h
        exact ⟨_, _, by rw [unInts_some h1, unInts_some h2], hs, h.symm⟩
      · simp at h
    · simp at h
  · simp at h
theorem inv59 (h : q59 args = some v) : ∃ s, args = [encSig s] ∧ sigShort s = true ∧ v = .bool (sigB s) := by
  unfold q59 at h
  split at h
  · split at h
    · rename_i hl
      split at h
      · rename_i hs
        simp only [Option.some.injEq] at h
        exact ⟨_, by rw [unSig_some _ _ hl], hs, h.symm⟩
      · simp at h
    · simp at h
  · simp at h
theorem inv33 (h : q33 args = some v) : ∃ a b, args = [encSig a, encSig b] ∧ sigShort a = true ∧ v = .bool (sameSigB a b) := by
  unfold q33 at h
  split at h
  · split at h
    · rename_i h1 h2
      split at h
      · rename_i hs
        simp only [Option.some.injEq] at h
        exact ⟨_, _, by rw [unSig_some _ _ h1, unSig_some _ _ h2], hs, h.symm⟩
      · simp at h
    · simp at h
  · simp at h
theorem inv84 (h : q84 args = some v) : ∃ e op n, args = [encEnv e, .agg [K op, .int .u64 (Int.ofNat n), .nils, .nils], K 0] ∧ (envShort e = true ∧ e.muts.length = e.globals.length ∧ n < 18446744073709551616) ∧ v = formV e op n := by
  unfold q84 at h
  split at h
  · split at h
    · rename_i h1
      split at h
      · rename_i hs
        simp only [Option.some.injEq] at h
        exact ⟨_, _, _, by rw [unEnv_some _ _ h1], hs, h.symm⟩
      · simp at h
    · simp at h
  · simp at h
theorem inv60 (h : q60 args = some v) : ∃ e s c, args = [encEnv e, encSig s, encCode c] ∧ (envShort e = true ∧ e.muts.length = e.globals.length ∧ c.n < 18446744073709551616) ∧ v = form60V e s c.op c.n := by
  unfold q60 at h
  split at h
  · split at h
    · rename_i h1 h2 h3
      split at h
      · rename_i hs
        simp only [Option.some.injEq] at h
        exact ⟨_, _, _, by rw [unEnv_some _ _ h1, unSig_some _ _ h2, unCode_some _ _ h3], hs, h.symm⟩
      · simp at h
    · simp at h
  · simp at h
theorem inv54 (h : q54 args = some v) : ∃ e s op n, args = [encEnv e, encSig s, K op, .int .u64 (Int.ofNat n)] ∧ ((envShort e = true ∧ e.muts.length = e.globals.length) ∧ word op) ∧ v = shapeV e s op (n : Nat) := by
  unfold q54 at h
  split at h
  · split at h
    · rename_i h1 h2
      split at h
      · rename_i hs
        simp only [Option.some.injEq] at h
        exact ⟨_, _, _, _, by rw [unEnv_some _ _ h1, unSig_some _ _ h2], hs, h.symm⟩
      · simp at h
    · simp at h
  · simp at h
theorem inv24 (h : q24 args = some v) : ∃ e r c, args = [encEnv e, encRow r, encCode c] ∧ (envShort e = true ∧ e.muts.length = e.globals.length ∧ codeShort c = true ∧ word c.op) ∧ v = .bool (instrB e r c) := by
  unfold q24 at h
  split at h
  · split at h
    · rename_i h1 h2 h3
      split at h
      · rename_i hs
        simp only [Option.some.injEq] at h
        exact ⟨_, _, _, by rw [unEnv_some _ _ h1, unRow_some _ _ h2, unCode_some _ _ h3], hs, h.symm⟩
      · simp at h
    · simp at h
  · simp at h
theorem inv29 (h : q29 args = some v) : ∃ e r i c, args = [encEnv e, encRow r, .int .i64 (Int.ofNat i)] ∧ r.code[i]? = some c ∧ (envShort e = true ∧ e.muts.length = e.globals.length ∧ c.n < 18446744073709551616 ∧ codeShort c = true) ∧ v = .bool (codeB e r c) := by
  unfold q29 at h
  split at h
  · split at h
    · rename_i h1 h2
      split at h
      · rename_i hc
        split at h
        · rename_i hs
          simp only [Option.some.injEq] at h
          exact ⟨_, _, _, _, by rw [unEnv_some _ _ h1, unRow_some _ _ h2], hc, hs, h.symm⟩
        · simp at h
      · simp at h
    · simp at h
  · simp at h
theorem inv61 (h : q61 args = some v) : ∃ r i c, args = [encRow r, .int .i64 (Int.ofNat i)] ∧ r.code[i]? = some c ∧ (short r.code && nextOk c) = true ∧ v = nextV c i := by
  unfold q61 at h
  split at h
  · split at h
    · rename_i h1
      split at h
      · rename_i hc
        split at h
        · rename_i hs
          simp only [Option.some.injEq] at h
          exact ⟨_, _, _, by rw [unRow_some _ _ h1], hc, hs, h.symm⟩
        · simp at h
      · simp at h
    · simp at h
  · simp at h
theorem inv31 (h : q31 args = some v) : ∃ r, args = [encRow r] ∧ (r.code.length ≤ 4096 ∧ Inside r ∧ (∀ (i : Nat) (c : Code'), r.code[i]? = some c → short c.to = true)) ∧ v = .bool (circlesB r) := by
  unfold q31 at h
  split at h
  · split at h
    · rename_i h1
      split at h
      · rename_i hs
        simp only [Option.some.injEq] at h
        exact ⟨_, by rw [unRow_some _ _ h1], hs, h.symm⟩
      · simp at h
    · simp at h
  · simp at h
theorem inv26 (h : q26 args = some v) : ∃ r, args = [encRow r] ∧ (r.code.length ≤ 4096 ∧ Inside r ∧ (∀ (i : Nat) (c : Code'), r.code[i]? = some c → c.to.length ≤ 65)) ∧ v = .bool (circlesB r) := by
  unfold q26 at h
  split at h
  · split at h
    · rename_i h1
      split at h
      · rename_i hs
        simp only [Option.some.injEq] at h
        exact ⟨_, by rw [unRow_some _ _ h1], hs, h.symm⟩
      · simp at h
    · simp at h
  · simp at h
theorem inv9 (h : q9 args = some v) : ∃ e r, args = [encEnv e, encRow r] ∧ (envShort e = true ∧ RowOk r) ∧ v = .bool (refCheckB e r) := by
  unfold q9 at h
  split at h
  · split at h
    · rename_i h1 h2
      split at h
      · rename_i hs
        simp only [Option.some.injEq] at h
        exact ⟨_, _, by rw [unEnv_some _ _ h1, unRow_some _ _ h2], hs, h.symm⟩
      · simp at h
    · simp at h
  · simp at h
theorem inv11 (h : q11 args = some v) : ∃ p, args = [encRows p] ∧ RowsOk p ∧ v = .bool (rightB p) := by
  unfold q11 at h
  split at h
  · split at h
    · rename_i h1
      split at h
      · rename_i hs
        simp only [Option.some.injEq] at h
        exact ⟨_, by rw [unRows_some _ _ h1], hs, h.symm⟩
      · simp at h
    · simp at h
  · simp at h
end

/-! ### what is answered tells of no block -/
theorem shut_niI (a : Option (List Int)) : (niI a).shut = true := by cases a <;> rfl
theorem shut_formV (e : Env') (op n : Int) : (formV e op n).shut = true := by
  obtain ⟨a, b, c, h⟩ := formV_shape e op n
  rw [h]
  simp [AV.shut, AV.shuts, shut_niI]
theorem shut_form60V (e : Env') (s : Sig) (op n : Int) : (form60V e s op n).shut = true := by
  obtain ⟨a, b, c, h⟩ := form60V_shape e s op n
  rw [h]
  simp [AV.shut, AV.shuts, shut_niI]
theorem shut_shapeV (e : Env') (s : Sig) (op n : Int) : (shapeV e s op n).shut = true := by
  obtain ⟨a, b, m, f, t, c, h⟩ := shapeV_shape e s op n
  rw [h]
  simp [AV.shut, AV.shuts, shut_niI]
theorem shut_memV (op : Int) (b : Bool) : (memV op b).shut = true := by
  obtain ⟨a, b, m, f, t, c, h⟩ := memV_shape op b
  rw [h]
  simp [AV.shut, AV.shuts, shut_niI]
theorem shut_sigV (op : Int) : (sigV op).shut = true := by
  unfold sigV
  split
  · rfl
  · split <;> rfl
theorem shut_accV (op : Int) : (accV op).shut = true := by
  unfold accV
  split <;> rfl
theorem shut_nextV (c : Code') (i : Nat) : (nextV c i).shut = true := by
  unfold nextV
  split <;> rfl

/-! ### told out of what a walk shows -/
theorem said_ans {P : Program} {E : Env} (he : EnvOk P E) {f : FuncId} {q : List AV → Option AV} (h : ∀ args v, q args = some v → v.shut = true ∧ AV.shuts args = true ∧ AnsK E 0 f args s0 (ans v)) : OwnOk P E.gl f (.said q) := by
  refine said_of he fun args v hv => ?_
  obtain ⟨h1, h2, n, u, s1, h3, h4⟩ := h args v hv
  have h4 : u = v := h4
  subst h4
  exact ⟨h1, h2, n, s1, h3⟩
theorem toldBy_of {E : Env} {g : FuncId} {q : List AV → Option AV} (h : E.fns g = some { own := some (.said q), body := .skip, res := [], ntmps := 0, pure := false }) : ToldBy E g q := ⟨_, h, rfl⟩
theorem ansK_of {E : Env} {f : FuncId} {a : List AV} {v : AV} {n : Nat} (h : answersV v (callF E n 0 f a s0) = true) : AnsK E 0 f a s0 (ans v) := by
  unfold answersV at h
  split at h
  · rename_i u s' hc
    exact ⟨n, u, s', hc, AV.eqb_eq h⟩
  · simp at h
end Go.Ev.Lc
