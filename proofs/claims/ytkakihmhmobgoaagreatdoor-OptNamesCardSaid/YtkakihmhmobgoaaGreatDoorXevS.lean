/- Places, guards, calls, results: what the run of code is made of. -/
import Derived.Test.YtkakihmhmobgoaaGreatDoorXevR
import Derived.Defers
namespace Go.Ev

/-- Deferred calls. -/
inductive DfR (ι : Emb) (w : World) (Z : Nat → Prop) (nx : Nat) : List (FuncId × List AV) → List Deferred → Prop where
  | nil : DfR ι w Z nx [] []
  | cons (g : FuncId) (xs : List AV) (r : List (FuncId × List AV)) (cap args : Array Value) (ds : List Deferred) (h : VRs ι w Z nx xs (args ++ cap).toList) (t : DfR ι w Z nx r ds) :
      DfR ι w Z nx ((g, xs) :: r) ({ target := .fn (.func g) cap, args } :: ds)

/-- The world and the frame hold what the evaluator says. -/
structure SR (gl : Nat → AV) (N : Nat) (ι : Emb) (w : World) (Z : Nat → Prop) (s : St) (fr : Fr) (a : Act) : Prop where
  rel : Rel ι w Z s.nx s.H.get
  gl : GlR ι w Z gl
  tm : TmR ι w Z s.nx fr.tm a.tmps
  df : DfR ι w Z s.nx fr.df a.defers
  sz : N ≤ a.tmps.size

inductive ExR (ι : Emb) (w : World) (Z : Nat → Prop) (nx : Nat) : Ex → Exit → Prop where
  | nrm : ExR ι w Z nx .nrm .normal
  | exit (id : Nat) : ExR ι w Z nx (.exit id) (.exit id)
  | goto (l : Nat) : ExR ι w Z nx (.goto l) (.goto l)
  | ret : ExR ι w Z nx .ret .ret
  | pan (v : AV) (u : Value) (h : VR ι w Z nx v u) : ExR ι w Z nx (.pan v) (.panic [{ v := u, recovered := false }])
inductive EndR (ι : Emb) (w : World) (Z : Nat → Prop) (nx : Nat) : AOut → Ending → Prop where
  | ret (v : AV) (u : Value) (h : VR ι w Z nx v u) : EndR ι w Z nx (.ret v) (.returned u)
  | pan (v : AV) (u : Value) (h : VR ι w Z nx v u) : EndR ι w Z nx (.pan v) (.panicked [{ v := u, recovered := false }])

/-- What code may leave behind. -/
def PostX (gl : Nat → AV) (N lo : Nat) (ι : Emb) (w : World) (Z : Nat → Prop) (s : St) (e : Ex) (fr' : Fr) (s' : St) : Exit → Act → World → Prop :=
  fun x a' w' => ∃ ι' Z', ExR ι' w' Z' s'.nx e x ∧ SR gl N ι' w' Z' s' fr' a' ∧ Ext ι w Z s.nx lo s.H.get ι' w' Z' s'.nx s'.H.get
/-- What a call may leave behind. -/
def PostC (lo : Nat) (ι : Emb) (w : World) (Z : Nat → Prop) (s : St) (o : AOut) (s' : St) : Ending → World → Prop :=
  fun e w' => ∃ ι' Z', EndR ι' w' Z' s'.nx o e ∧ Rel ι' w' Z' s'.nx s'.H.get ∧ Ext ι w Z s.nx lo s.H.get ι' w' Z' s'.nx s'.H.get

section
variable {ι : Emb} {w : World} {Z : Nat → Prop} {nx lo : Nat} {gl : Nat → AV} {tm : Tr AV} {P : Program} {a : Act} {s s' : St} {N : Nat} {fr : Fr}
  {ι' : Emb} {w' : World} {Z' : Nat → Prop}

theorem GlR.ext {nx' : Nat} {G G' : Nat → Option ABlk} (h : GlR ι w Z gl) (r : Rel ι w Z nx G) (e : Ext ι w Z nx lo G ι' w' Z' nx' G') : GlR ι' w' Z' gl :=
  fun g => (h g).mono (fun i hi => absurd hi (Nat.not_lt_zero i)) (e.zkept r) (Nat.le_refl 0)
theorem TmR.ext {nx' : Nat} {G G' : Nat → Option ABlk} {tmps : Array Value} (h : TmR ι w Z nx tm tmps) (r : Rel ι w Z nx G) (e : Ext ι w Z nx lo G ι' w' Z' nx' G') : TmR ι' w' Z' nx' tm tmps :=
  fun t => (h t).ext e r
theorem DfR.ext {nx' : Nat} {G G' : Nat → Option ABlk} {df : List (FuncId × List AV)} {ds : List Deferred} (r : Rel ι w Z nx G) (e : Ext ι w Z nx lo G ι' w' Z' nx' G') (h : DfR ι w Z nx df ds) : DfR ι' w' Z' nx' df ds := by
  induction h with
  | nil => exact .nil
  | cons g xs rr cap args ds h t ih => exact .cons _ _ _ _ _ _ (h.ext e r) ih
theorem SR.ext (h : SR gl N ι w Z s fr a) (hr : Rel ι' w' Z' s'.nx s'.H.get) (e : Ext ι w Z s.nx lo s.H.get ι' w' Z' s'.nx s'.H.get) : SR gl N ι' w' Z' s' fr a :=
  ⟨hr, h.gl.ext h.rel e, h.tm.ext h.rel e, h.df.ext h.rel e, h.sz⟩

theorem TmR.put {tmps : Array Value} {d : Nat} {v : AV} {u : Value} (h : TmR ι w Z nx tm tmps) (hv : VR ι w Z nx v u) (hd : d < tmps.size) : TmR ι w Z nx (tm.set d v) (tmps.setIfInBounds d u) := by
  intro t
  by_cases e : t = d
  · subst e
    rw [Tr.get_put_self]
    simpa [hd] using hv
  · rw [Tr.get_put_ne _ _ e]
    have := h t
    simpa [Array.getElem?_setIfInBounds_ne (fun h => e h.symm)] using this
theorem undefR : VR ι w Z nx undefA undef := .tup _ _ _ (.nil _)
def dstOk (N : Nat) : Option Nat → Bool
  | none => true
  | some d => Nat.blt d N
theorem blt_lt {a b : Nat} (h : Nat.blt a b = true) : a < b := by simpa using h
theorem SR.put {d : Option Nat} {v : AV} {u : Value} (h : SR gl N ι w Z s fr a) (hv : VR ι w Z s.nx v u) (hd : dstOk N d = true) : SR gl N ι w Z s (fr.put d v) (a.put d u) := by
  cases d with
  | none => exact h
  | some d =>
    have hlt : d < a.tmps.size := Nat.lt_of_lt_of_le (blt_lt hd) h.sz
    exact ⟨h.rel, h.gl, h.tm.put hv hlt, h.df, by simpa [Act.put] using h.sz⟩

/-- The first of a region's operations, and its guard. -/
theorem wanted_sound {ops : Array Oper} {o : Oper} {e : EOper} {b : Bool} (h : TmR ι w Z nx tm a.tmps) (hc : ofOper P ops o = some e) (hw : wanted tm e.guard = some b) :
    Region.wanted o (yielded ops a.tmps) = b := by
  unfold ofOper at hc
  · split at hc
    · rename_i hg
      simp only [Option.some.injEq] at hc; subst hc
      simp only [wanted, Option.some.injEq] at hw; subst hw
      simp [Region.wanted, hg]
    · rename_i j want hg
      split at hc
      · rename_i t ht
        simp only [Option.some.injEq] at hc; subst hc
        simp only [wanted] at hw
        simp only [Region.wanted, hg]
        have hv := h t
        have hy : yielded ops a.tmps j = match a.tmps[t]? with | some (.bool b) => some b | _ => none := by
          unfold yielded
          rw [ht]; rfl
        rw [hy]
        rw [Array.getD_eq_getD_getElem?] at hv
        split at hw
        · rename_i b' he
          rw [he] at hv
          simp only [Option.some.injEq] at hw; subst hw
          generalize hu : a.tmps[t]?.getD undef = u at hv
          cases hv
          cases hq : a.tmps[t]? with
          | none => rw [hq] at hu; simp [undef] at hu
          | some q => rw [hq] at hu; simp at hu; subst hu; cases b' <;> cases want <;> rfl
        · rename_i vs he
          rw [he] at hv
          simp only [Option.some.injEq] at hw; subst hw
          generalize hu : a.tmps[t]?.getD undef = u at hv
          cases hv
          cases hq : a.tmps[t]? with
          | none => simp
          | some q => rw [hq] at hu; simp at hu; subst hu; simp
        · simp at hw
      · simp at hc
theorem ofOper_op' {ops : Array Oper} {o : Oper} {e : EOper} (hc : ofOper P ops o = some e) : e.op = (ofOp P o.op).getD .stuck ∧ e.dst = o.dst := by
  unfold ofOper at hc
  split at hc
  · simp only [Option.some.injEq] at hc; subst hc; exact ⟨rfl, rfl⟩
  · split at hc
    · simp only [Option.some.injEq] at hc; subst hc; exact ⟨rfl, rfl⟩
    · simp at hc
theorem ofOper_op {ops : Array Oper} {o : Oper} {e : EOper} {x : EOp} (hc : ofOper P ops o = some e) (hx : e.op = x) (hs : x ≠ .stuck) : ofOp P o.op = some x := by
  obtain ⟨h, _⟩ := ofOper_op' hc
  rw [hx] at h
  cases ho : ofOp P o.op with
  | none => rw [ho] at h; exact absurd h hs
  | some y => rw [ho] at h; rw [h]; rfl

/-- A call by a function value. -/
theorem call_shape {op : Op} {f : Eo} {args : List Eo} (hc : ofOp P op = some (.call f args)) : ∃ (c : Call) (x : Operand), op = .call c ∧ c.callee = .value x ∧ ofOperand x = some f ∧ ofOperands c.args.toList = some args := by
  cases op with
  | call c =>
    obtain ⟨callee, as, ts⟩ := c
    cases callee with
    | value x =>
      simp only [ofOp, ofCallee] at hc
      split at hc
      · rename_i h1 h2
        simp only [Option.some.injEq, EOp.call.injEq] at hc
        obtain ⟨rfl, rfl⟩ := hc
        exact ⟨_, x, rfl, rfl, h1, h2⟩
      · simp at hc
    | builtin b => exfalso; cases b <;> simp only [ofOp, ofBuiltin] at hc <;> (repeat' (split at hc)) <;> first | (simp at hc; done) | contradiction | (simp_all; done)
    | invoke r m => simp [ofOp] at hc
  | _ => exfalso; simp only [ofOp] at hc <;> (repeat' (split at hc)) <;> first | (simp at hc; done) | contradiction | (simp_all; done)
theorem defer_shape {op : Op} {f : Eo} {args : List Eo} (hc : ofOp P op = some (.defer f args)) : ∃ (c : Call) (x : Operand), op = .defer c ∧ c.callee = .value x ∧ ofOperand x = some f ∧ ofOperands c.args.toList = some args := by
  cases op with
  | defer c =>
    obtain ⟨callee, as, ts⟩ := c
    cases callee with
    | value x =>
      simp only [ofOp] at hc
      split at hc
      · rename_i h1 h2
        simp only [Option.some.injEq, EOp.defer.injEq] at hc
        obtain ⟨rfl, rfl⟩ := hc
        exact ⟨_, x, rfl, rfl, h1, h2⟩
      · simp at hc
    | builtin b => simp [ofOp] at hc
    | invoke r m => simp [ofOp] at hc
  | call c =>
    obtain ⟨callee, as, ts⟩ := c
    cases callee with
    | value x =>
      simp only [ofOp, ofCallee] at hc
      split at hc <;> simp at hc
    | builtin b => exfalso; cases b <;> simp only [ofOp, ofBuiltin] at hc <;> (repeat' (split at hc)) <;> first | (simp at hc; done) | contradiction | (simp_all; done)
    | invoke r m => simp [ofOp] at hc
  | _ => exfalso; simp only [ofOp] at hc <;> (repeat' (split at hc)) <;> first | (simp at hc; done) | contradiction | (simp_all; done)
theorem panic_shape {op : Op} {x : Eo} (hc : ofOp P op = some (.panic x)) : ∃ y, op = .panic y ∧ ofOperand y = some x := by
  cases op with
  | panic y =>
    simp only [ofOp, Option.map_eq_some_iff, EOp.panic.injEq] at hc
    obtain ⟨e, he, rfl⟩ := hc
    exact ⟨y, rfl, he⟩
  | call c =>
    obtain ⟨callee, as, ts⟩ := c
    cases callee with
    | value x =>
      simp only [ofOp, ofCallee] at hc
      split at hc <;> simp at hc
    | builtin b => exfalso; cases b <;> simp only [ofOp, ofBuiltin] at hc <;> (repeat' (split at hc)) <;> first | (simp at hc; done) | contradiction | (simp_all; done)
    | invoke r m => simp [ofOp] at hc
  | _ => exfalso; simp only [ofOp] at hc <;> (repeat' (split at hc)) <;> first | (simp at hc; done) | contradiction | (simp_all; done)

/-- Results. -/
def resSem (tmps : Array Value) : ResultVar → Sem Value
  | .tmp t => pure (tmps.getD t undef)
  | .cell a t => do loadVar t (← asAddr (tmps.getD a undef))
def ResC (P : Program) : ResultVar → ERes → Prop
  | .tmp t, y => y = .tmp t
  | .cell a t, y => ∃ n g, sizeT P t = some n ∧ aggT P t = some g ∧ y = .cell a n g
theorem resOf_sound {tmps : Array Value} {x : ResultVar} {y : ERes} {v : AV} (r : Rel ι w Z s.nx s.H.get) (h : TmR ι w Z s.nx tm tmps)
    (hc : ResC P x y) (he : resOf tm s y = some v) : ∃ u, (resSem tmps x).run P w = .ok u w ∧ VR ι w Z s.nx v u := by
  cases x with
  | tmp t =>
    simp only [ResC] at hc; subst hc
    simp only [resOf, Option.some.injEq] at he; subst he
    exact ⟨_, by simp [resSem], h t⟩
  | cell a t =>
    simp only [ResC] at hc
    obtain ⟨n, g, hn, hg, rfl⟩ := hc
    simp only [resOf] at he
    have hv := h a
    split at he
    · rename_i id off hid
      rw [hid] at hv
      split at he
      · rename_i cs z ex hrow
        split at he
        · rename_i c hcut
          obtain ⟨vs, hvs, hat⟩ := at_row r hrow
          obtain ⟨rfl, hl⟩ := cut_some hcut
          have hsub := (hvs.drop off).take n
          obtain ⟨u', hr', hv'⟩ := run_loadVar_at (P := P) hn hg (at_sub hat off n) (by rw [← hsub.length]; exact hl) hsub he
          generalize hu : tmps.getD a undef = au at hv
          cases hv
          refine ⟨u', ?_, hv'⟩
          simp only [resSem, hu, Sem.run_bind]
          simp [asAddr, hr']
        · simp at he
      · simp at he
    · simp at he
theorem resAll_sound {tmps : Array Value} (r : Rel ι w Z s.nx s.H.get) (h : TmR ι w Z s.nx tm tmps) : ∀ {xs : List ResultVar} {ys : List ERes} {vs : List AV}, ofRes P xs = some ys → resAll tm s ys = some vs →
    ∃ us, (xs.mapM (resSem tmps)).run P w = .ok us w ∧ VRs ι w Z s.nx vs us
  | [], ys, vs, hc, he => by
    simp only [ofRes, Option.some.injEq] at hc; subst hc
    simp only [resAll, Option.some.injEq] at he; subst he
    exact ⟨[], by simp, .nil _⟩
  | x :: xs, ys, vs, hc, he => by
    obtain ⟨y, ys', rfl, hx, hxs⟩ : ∃ y ys', ys = y :: ys' ∧ ResC P x y ∧ ofRes P xs = some ys' := by
      cases x with
      | tmp t =>
        simp only [ofRes, Option.map_eq_some_iff] at hc
        obtain ⟨ys', h1, rfl⟩ := hc
        exact ⟨_, _, rfl, rfl, h1⟩
      | cell a t =>
        simp only [ofRes] at hc
        split at hc
        · rename_i n g ys' h1 h2 h3
          simp only [Option.some.injEq] at hc; subst hc
          exact ⟨_, _, rfl, ⟨n, g, h1, h2, rfl⟩, h3⟩
        · simp at hc
    simp only [resAll] at he
    split at he
    · rename_i v vs' h1 h2
      simp only [Option.some.injEq] at he; subst he
      obtain ⟨u, hu, hv⟩ := resOf_sound (P := P) r h hx h1
      obtain ⟨us, hus, hvs⟩ := resAll_sound r h hxs h2
      exact ⟨u :: us, by simp [hu, hus], .cons _ _ _ _ _ hv hvs⟩
    · simp at he
theorem results_eq (fn : Func) (tmps : Array Value) : results fn tmps = (do let vs ← fn.results.mapM (resSem tmps); pure (if h : vs.size = 1 then vs[0] else .tuple vs)) := by
  unfold results
  congr 1
theorem results_sound {fn : Func} {tmps : Array Value} {ys : List ERes} {vs : List AV} (r : Rel ι w Z s.nx s.H.get) (h : TmR ι w Z s.nx tm tmps) (hc : ofRes P fn.results.toList = some ys) (he : resAll tm s ys = some vs) :
    ∃ u, (results fn tmps).run P w = .ok u w ∧ VR ι w Z s.nx (tupled vs) u := by
  obtain ⟨us, hus, hvs⟩ := resAll_sound (P := P) r h hc he
  refine ⟨if h : us.toArray.size = 1 then us.toArray[0] else .tuple us.toArray, ?_, ?_⟩
  · rw [results_eq, Array.mapM_eq_mapM_toList]
    simp [hus]
  · match vs, us, hvs with
    | [], _, .nil _ => exact .tup _ _ _ (.nil _)
    | [_], _, .cons _ _ _ _ _ hv (.nil _) => exact hv
    | _ :: _ :: _, _, .cons _ _ _ _ _ hv (.cons _ _ _ _ _ hv2 hv3) => exact .tup _ _ _ (.cons _ _ _ _ _ hv (.cons _ _ _ _ _ hv2 hv3))
end
end Go.Ev
