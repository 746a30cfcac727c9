/- The run of a region whose order is open, in the text's order: what was seen of each operation. -/
import Derived.Test.YtkakihmhmobgoaaGreatDoorXevX
namespace Go.Ev

theorem keep_get (H : Tr ABlk) : ∀ (l : List Nat) (i : Nat), (keep H l).get i = if i ∈ l then H.get i else none
  | [], i => by simp [keep]
  | j :: r, i => by
    simp only [keep]
    cases h : H.get j with
    | none =>
      simp only [keep_get H r i, List.mem_cons]
      by_cases hi : i = j
      · subst hi; simp [h]
      · simp [hi]
    | some b =>
      simp only [Tr.get_put, keep_get H r i, List.mem_cons]
      by_cases hi : i = j
      · subst hi; simp [h]
      · simp [hi]
def inF (F : Option (List Nat)) (i : Nat) : Prop := ∀ l, F = some l → i ∈ l
theorem keepF_get {H : Tr ABlk} {F : Option (List Nat)} {i : Nat} {b : ABlk} (h : (keepF H F).get i = some b) : H.get i = some b ∧ inF F i := by
  cases F with
  | none => exact ⟨h, fun l hl => by simp at hl⟩
  | some l =>
    simp only [keepF, keep_get] at h
    split at h
    · rename_i hi; exact ⟨h, fun l' hl => by simp at hl; subst hl; exact hi⟩
    · simp at h

/-- What was seen of an operation: places, numbers and memory ahead of it, from which block on it may write; what it gives and leaves; whether it touches memory; what it looks at and writes. -/
structure Rc where
  tm : Tr AV
  nx : Nat
  M : Tr ABlk
  lo : Nat
  v : AV
  s' : St
  mem : Bool
  F : Option (List Nat)
  W : List Nat

/-- An operation done, whatever else has been. -/
def RcOk (P : Program) (E : Env) (ops : Array Oper) (k : Nat) (o : Oper) (r : Rc) : Prop :=
  ∀ (ι : Emb) (w : World) (Z : Nat → Prop) (a : Act) (K : Act → World → Prop) (Q : Exit → Act → World → Prop), Rel ι w Z r.nx r.M.get → GlR ι w Z E.gl → TmU ι w Z r.nx r.tm (o.looksAt ops) a.tmps →
    (∀ ι' w' Z' u, VR ι' w' Z' r.s'.nx r.v u → Rel ι' w' Z' r.s'.nx r.s'.H.get → Ext ι w Z r.nx r.lo r.M.get ι' w' Z' r.s'.nx r.s'.H.get → K (a.put o.dst u) w') → wpOp P ops Q k K a w

def tmPut (tm : Tr AV) (d : Option Nat) (v : AV) : Tr AV := match d with | some d => tm.set d v | none => tm
theorem put_tm (fr : Fr) (d : Option Nat) (v : AV) : (fr.put d v).tm = tmPut fr.tm d v ∧ (fr.put d v).df = fr.df := by cases d <;> exact ⟨rfl, rfl⟩

structure StepF (P : Program) (E : Env) (lo : Nat) (ops : Array Oper) (k : Nat) (eo : EOper) (bf : Nat) (wr : Bool) (r : Rc) (H : Tr ABlk) (ds : List Did) (H2 : Tr ABlk) (ds2 : List Did) (od od2 : List Did) (tm2 : Tr AV) (nx2 : Nat) : Prop where
  tm2 : tm2 = tmPut r.tm eo.dst r.v
  nx2 : nx2 = r.s'.nx
  nxle : r.nx ≤ r.s'.nx
  sound : ∀ o, ops[k]? = some o → OneOk P ops o eo → RcOk P E ops k o r
  nomem : r.mem = false → H2 = H ∧ ds2 = ds ∧ r.M = .lf ∧ r.s'.nx = r.nx ∧ od2 = od ∧ clearNew bf r.v [] od = true
  mem : r.mem = true → eo.op.wetty = true ∧ od2 = ⟨k, none, [], [], r.nx, r.s'.nx⟩ :: od
  bar : r.mem = true → wr = true → H2 = r.s'.H ∧ ds2 = [] ∧ r.M = layAll H ds ∧ r.lo = lo
  did : r.mem = true → wr = false → r.M = keepF (layIf H bf ds) r.F ∧ clearOf bf r.F r.W ds = true ∧ H2 = H ∧ ds2 = ds ++ [didOf r.s' k r.nx (r.F, r.W)] ∧ r.lo = lowOf r.nx lo r.W ∧
    clearNew bf r.v (didOf r.s' k r.nx (r.F, r.W)).d ds = true ∧ (∀ i ∈ r.W, (r.M.get i).isSome) ∧ (r.W ≠ [] → ∀ i, (r.M.get i).isSome → i ∈ r.W)

section
variable {P : Program} {E : Env} {ops : Array Oper} {k lo n : Nat} {o : Oper} {eo : EOper} {tm : Tr AV} {nx : Nat}

theorem rcOk_skip (hi : ops[k]? = some o) (h : OneOk P ops o eo) (hw : wanted tm eo.guard = some false) : RcOk P E ops k o ⟨tm, nx, .lf, nx, undefA, ⟨.lf, nx⟩, false, some [], []⟩ := by
  intro ι w Z a K Q r hgl ht hK
  unfold wpOp
  simp only [hi, h.wanted ht hw, Bool.false_eq_true, if_false]
  exact hK ι w Z undef undefR r .refl
theorem rcOk_dry {d : Dry} {v : AV} (hi : ops[k]? = some o) (h : OneOk P ops o eo) (hw : wanted tm eo.guard = some true) (hd : eo.op = .dry d) (hev : evDry E.gl tm d = some v) : RcOk P E ops k o ⟨tm, nx, .lf, nx, v, ⟨.lf, nx⟩, false, some [], []⟩ := by
  intro ι w Z a K Q r hgl ht hK
  unfold wpOp
  simp only [hi, h.wanted ht hw, if_true]
  obtain ⟨u, hr, hv⟩ := h.dry (E := E) ht hgl hd hev
  refine .inl ?_
  unfold Oper.wp
  rw [hr, Oper.upon_value]
  exact hK ι w Z u hv r .refl
theorem rcOk_wet {d : Wet} {v : AV} {s' : St} {M : Tr ABlk} {F : Option (List Nat)} {W : List Nat} (hi : ops[k]? = some o) (h : OneOk P ops o eo) (hw : wanted tm eo.guard = some true) (hd : eo.op = .wet d) (hev : evWet E.gl tm lo ⟨M, nx⟩ d = some (v, s')) :
    RcOk P E ops k o ⟨tm, nx, M, lo, v, s', true, F, W⟩ := by
  intro ι w Z a K Q r hgl ht hK
  unfold wpOp
  simp only [hi, h.wanted ht hw, if_true]
  obtain ⟨q, w1, ι1, Z1, hr, hcase, hrel, hext⟩ := h.wet (E := E) (s := ⟨M, nx⟩) r ht hgl hd hev
  refine .inl ?_
  unfold Oper.wp
  rw [hr]
  rcases hcase with ⟨u, rfl, hv⟩ | ⟨rfl, rfl⟩
  · rw [Oper.upon_value]; exact hK ι1 w1 Z1 u hv hrel hext
  · rw [Oper.upon_skip]; exact hK ι1 w1 Z1 undef undefR hrel hext
theorem rcOk_call {f : Eo} {args : List Eo} {g : FuncId} {xs ys : List AV} {v : AV} {s' : St} {M : Tr ABlk} {F : Option (List Nat)} {W : List Nat} (he : EnvOk P E) (ihC : CallS P E n) (hi : ops[k]? = some o) (h : OneOk P ops o eo) (hw : wanted tm eo.guard = some true)
    (hd : eo.op = .call f args) (hf : f.ev E.gl tm = .fn g xs ys) (hev : callF E n lo g (xs ++ evs E.gl tm args ++ ys) ⟨M, nx⟩ = some (.ret v, s')) :
    RcOk P E ops k o ⟨tm, nx, M, lo, v, s', true, F, W⟩ := by
  intro ι w Z a K Q r hgl ht hK
  unfold wpOp
  simp only [hi, h.wanted ht hw, if_true]
  obtain ⟨us, hr, hvs⟩ := h.call (s := ⟨M, nx⟩) he r ht hgl (callF_fns hev) hd hf
  refine .inl ?_
  unfold Oper.wp
  rw [hr, Oper.upon_enter]
  refine (ihC _ _ _ _ _ _ _ _ _ _ hev r hgl hvs).mono ?_
  rintro e1 w1 ⟨ι1, Z1, hend, hrel, hext⟩
  cases hend with
  | ret _ u hv => exact hK ι1 w1 Z1 u hv hrel hext

theorem row_get {s : St} {id : Nat} {x : List AV × Nat × Nat} (h : row s id = some x) : (s.H.get id).isSome := by
  unfold row at h
  cases hg : s.H.get id with
  | none => rw [hg] at h; simp at h
  | some b => rfl
/-- Of a wet instruction's foot. -/
theorem foot_wet {gl : Nat → AV} {d : Wet} {v : AV} {s s' : St} {K : Tr ABlk} (hK : s.H = keepF K (footOf gl tm d).1) (hev : evWet gl tm lo s d = some (v, s')) :
    (∀ i ∈ (footOf gl tm d).2, (s.H.get i).isSome) ∧ ((footOf gl tm d).2 ≠ [] → ∀ i, (s.H.get i).isSome → i ∈ (footOf gl tm d).2) := by
  cases d with
  | store n a x =>
    simp only [footOf] at hK ⊢
    simp only [evWet] at hev
    split at hev
    · rename_i id off hid
      rw [hid] at hK
      simp only at hK ⊢
      split at hev
      · split at hev
        · rename_i hrow
          refine ⟨fun i hi => ?_, fun _ i hi => ?_⟩
          · simp at hi; subst hi; exact row_get hrow
          · rw [hK] at hi
            obtain ⟨b, hb⟩ := Option.isSome_iff_exists.1 hi
            exact (keepF_get hb).2 _ rfl
        · simp at hev
      · simp at hev
    · simp at hev
  | _ => exact ⟨fun i hi => by simp [footOf] at hi, fun h => absurd rfl h⟩
/-- Of a call's foot. -/
theorem foot_call {g : FuncId} {args : List AV} {v : AV} {s' : St} {K : Tr ABlk} (hev : callF E n lo g args ⟨keepF K (footCall E ⟨K, nx⟩ g args).1, nx⟩ = some (.ret v, s')) :
    (∀ i ∈ (footCall E ⟨K, nx⟩ g args).2, ((keepF K (footCall E ⟨K, nx⟩ g args).1).get i).isSome) ∧
    ((footCall E ⟨K, nx⟩ g args).2 ≠ [] → ∀ i, ((keepF K (footCall E ⟨K, nx⟩ g args).1).get i).isSome → i ∈ (footCall E ⟨K, nx⟩ g args).2) := by
  have triv : ∀ {F : Option (List Nat)} (_ : St), (∀ i ∈ ([] : List Nat), ((keepF K F).get i).isSome) ∧ (([] : List Nat) ≠ [] → ∀ i, ((keepF K F).get i).isSome → i ∈ ([] : List Nat)) :=
    fun s' => ⟨fun i hi => by simp at hi, fun h => absurd rfl h⟩
  cases n with
  | zero => simp [callF] at hev
  | succ n =>
  generalize hfc : footCall E ⟨K, nx⟩ g args = fc at hev ⊢
  unfold footCall at hfc
  split at hfc
  · rename_i F hF
    simp only [callF, hF] at hev
    split at hfc
    · -- the copy check
      rename_i id off how
      subst hfc
      rw [how] at hev
      simp only [ownRun] at hev
      have hin : ∀ i, ((keepF K (some [id])).get i).isSome → i = id := by
        intro i hi
        obtain ⟨b, hb⟩ := Option.isSome_iff_exists.1 hi
        simpa using (keepF_get hb).2 _ rfl
      split at hev
      · split at hev
        · rename_i hrow
          exact ⟨fun i hi => by simp at hi; subst hi; exact row_get hrow, fun _ i hi => by simpa using hin i hi⟩
        · simp at hev
      · simp at hev
    · -- String
      rename_i id off how
      rw [how] at hev
      split at hfc
      · rename_i cs z ex hrow
        split at hfc
        · rename_i j o len hcell
          subst hfc
          simp only [ownRun] at hev
          have hrow' : row ⟨keepF K (some [id, j]), nx⟩ id = some (cs, z, ex) := by
            unfold row at hrow ⊢
            simp only [keepF, keep_get]
            simpa using hrow
          rw [hrow'] at hev
          simp only [hcell] at hev
          split at hev
          rotate_left
          · simp at hev
          split at hev
          · split at hev
            · rename_i c hcells
              split at hev
              · simp only [Option.some.injEq, Prod.mk.injEq] at hev
                obtain ⟨_, rfl⟩ := hev
                refine ⟨?_, ?_⟩
                · intro i hi
                  simp only [List.mem_cons, List.not_mem_nil, or_false] at hi
                  rcases hi with rfl | rfl
                  · exact row_get hrow'
                  · simp only [cellsOf] at hcells
                    split at hcells
                    · rename_i hrj; exact row_get hrj
                    · simp at hcells
                · intro _ i hi
                  obtain ⟨b, hb⟩ := Option.isSome_iff_exists.1 hi
                  exact (keepF_get hb).2 _ rfl
              · simp at hev
            · simp at hev
          · simp at hev
        · subst hfc; exact triv s'
      · subst hfc; exact triv s'
    · subst hfc; exact triv s'
    · subst hfc; exact triv s'
  · subst hfc; exact triv s'

theorem clear_undef {bf : Nat} : ∀ {od : List Did}, clearNew bf undefA [] od = true
  | [] => rfl
  | e :: r => by
    simp only [clearNew, clear_undef (od := r), Bool.and_true]
    split
    · rfl
    · simp [undefA, AV.clear, AV.clears, clearBlks]

/-- The whole run. -/
structure Trace (P : Program) (E : Env) (lo : Nat) (ops : Array Oper) (k : Nat) (es : List (EOper × Nat × Bool)) (fr : Fr) (H : Tr ABlk) (ds : List Did) (od : List Did) (nx : Nat) (e : Ex) (fr' : Fr) (s' : St)
    (rc : Nat → Rc) (Hs : Nat → Tr ABlk) (dss ods : Nat → List Did) : Prop where
  tm : (rc k).tm = fr.tm
  nx : (rc k).nx = nx
  H : Hs k = H
  ds : dss k = ds
  od : ods k = od
  step : ∀ j x, es[j]? = some x → StepF P E lo ops (k + j) x.1 x.2.1 x.2.2 (rc (k + j)) (Hs (k + j)) (dss (k + j)) (Hs (k + j + 1)) (dss (k + j + 1)) (ods (k + j)) (ods (k + j + 1)) (rc (k + j + 1)).tm (rc (k + j + 1)).nx
  e : e = .nrm
  fr' : fr' = ⟨(rc (k + es.length)).tm, fr.df⟩
  s' : s' = ⟨layAll (Hs (k + es.length)) (dss (k + es.length)), (rc (k + es.length)).nx⟩

theorem Trace.cons {x : EOper × Nat × Bool} {es : List (EOper × Nat × Bool)} {fr fr' : Fr} {H H2 : Tr ABlk} {ds ds2 od od2 : List Did} {e : Ex} {s' : St} {r : Rc} {nx2 : Nat}
    (hr : r.tm = fr.tm) (hn : r.nx = nx) (hs : StepF P E lo ops k x.1 x.2.1 x.2.2 r H ds H2 ds2 od od2 (tmPut r.tm x.1.dst r.v) nx2)
    (h : ∃ rc Hs dss ods, Trace P E lo ops (k + 1) es (fr.put x.1.dst r.v) H2 ds2 od2 nx2 e fr' s' rc Hs dss ods) : ∃ rc Hs dss ods, Trace P E lo ops k (x :: es) fr H ds od nx e fr' s' rc Hs dss ods := by
  obtain ⟨rc, Hs, dss, ods, ht⟩ := h
  have hne : ∀ j, ¬ k + 1 + j = k := fun j => by omega
  have e0 : ∀ j, k + (j + 1) = k + 1 + j := fun j => by omega
  refine ⟨fun j => if j = k then r else rc j, fun j => if j = k then H else Hs j, fun j => if j = k then ds else dss j, fun j => if j = k then od else ods j, ?_, ?_, ?_, ?_, ?_, ?_, ht.e, ?_, ?_⟩
  · simpa using hr
  · simpa using hn
  · simp
  · simp
  · simp
  · intro j y hy
    cases j with
    | zero =>
      simp only [List.getElem?_cons_zero, Option.some.injEq] at hy; subst hy
      have h1 := hne 0
      simp only [Nat.add_zero, if_true, h1, if_false] at h1 ⊢
      rw [ht.H, ht.ds, ht.od, ht.tm, ht.nx, (put_tm fr x.1.dst r.v).1, ← hr]
      exact hs
    | succ j =>
      have := ht.step j y (by simpa using hy)
      have h1 := hne j
      have h2 : ¬ k + 1 + j + 1 = k := by omega
      rw [e0]
      simp only [h1, h2, if_false]
      exact this
  · have := ht.fr'
    rw [List.length_cons, e0]
    simp only [hne, if_false]
    rw [this, (put_tm fr x.1.dst r.v).2]
  · have := ht.s'
    rw [List.length_cons, e0]
    simp only [hne, if_false]
    exact this

theorem draw_trace (he : EnvOk P E) : ∀ (n k : Nat) (es : List (EOper × Nat × Bool)) (fr : Fr) (H : Tr ABlk) (ds od : List Did) (nx : Nat) (e : Ex) (fr' : Fr) (s' : St),
    (∀ m, m < n → CallS P E m) → execDraw E n lo k es fr H ds od nx = some (e, fr', s') → ∃ rc Hs dss ods, Trace P E lo ops k es fr H ds od nx e fr' s' rc Hs dss ods := by
  intro n
  induction n with
  | zero => intro k es fr H ds od nx e fr' s' _ hev; simp [execDraw] at hev
  | succ n ih =>
    intro k es fr H ds od nx e fr' s' ihC hev
    have ih' := fun k es fr H ds od nx e fr' s' => ih k es fr H ds od nx e fr' s' (fun m hm => ihC m (by omega))
    cases es with
    | nil =>
      simp only [execDraw, Option.some.injEq, Prod.mk.injEq] at hev
      obtain ⟨rfl, rfl, rfl⟩ := hev
      refine ⟨fun _ => ⟨fr.tm, nx, .lf, 0, .bad, ⟨.lf, 0⟩, false, none, []⟩, fun _ => H, fun _ => ds, fun _ => od, rfl, rfl, rfl, rfl, rfl, fun j x h => by simp at h, rfl, rfl, rfl⟩
    | cons x es =>
      obtain ⟨o, bf, wr⟩ := x
      simp only [execDraw] at hev
      split at hev
      · rename_i hw
        refine Trace.cons (r := ⟨fr.tm, nx, .lf, nx, undefA, ⟨.lf, nx⟩, false, some [], []⟩) (nx2 := nx) (H2 := H) (ds2 := ds) rfl rfl ?_ (ih' _ _ _ _ _ _ _ _ _ _ hev)
        exact ⟨rfl, rfl, Nat.le_refl _, fun o' hi h => rcOk_skip hi h hw, fun _ => ⟨rfl, rfl, rfl, rfl, rfl, clear_undef⟩, fun h => by simp at h, fun h => by simp at h, fun h => by simp at h⟩
      · rename_i hw
        split at hev
        · -- dry
          rename_i d hd
          split at hev
          · rename_i v hv
            split at hev
            · rename_i hcn
              refine Trace.cons (r := ⟨fr.tm, nx, .lf, nx, v, ⟨.lf, nx⟩, false, some [], []⟩) (nx2 := nx) (H2 := H) (ds2 := ds) rfl rfl ?_ (ih' _ _ _ _ _ _ _ _ _ _ hev)
              exact ⟨rfl, rfl, Nat.le_refl _, fun o' hi h => rcOk_dry hi h hw hd hv, fun _ => ⟨rfl, rfl, rfl, rfl, rfl, hcn⟩, fun h => by simp at h, fun h => by simp at h, fun h => by simp at h⟩
            · simp at hev
          · simp at hev
        · -- wet
          rename_i d hd
          split at hev
          · split at hev
            · rename_i v s1 hv
              split at hev
              · rename_i hle
                refine Trace.cons (r := ⟨fr.tm, nx, layAll H ds, lo, v, s1, true, none, []⟩) (nx2 := s1.nx) (H2 := s1.H) (ds2 := []) rfl rfl ?_ (ih' _ _ _ _ _ _ _ _ _ _ hev)
                exact ⟨rfl, rfl, Nat.le_of_ble_eq_true hle, fun o' hi h => rcOk_wet hi h hw hd hv, fun h => by simp at h, fun _ => ⟨by rw [hd]; rfl, rfl⟩, fun _ _ => ⟨rfl, rfl, rfl, rfl⟩, fun _ h => by simp at h⟩
              · simp at hev
            · simp at hev
          · split at hev
            · rename_i hcl
              split at hev
              · rename_i v s1 hv
                split at hev
                · rename_i hsane
                  simp only [sane, Bool.and_eq_true] at hsane
                  have hfoot := foot_wet (s := ⟨keepF (layIf H bf ds) (footOf E.gl fr.tm d).1, nx⟩) (K := layIf H bf ds) rfl hv
                  refine Trace.cons (r := ⟨fr.tm, nx, keepF (layIf H bf ds) (footOf E.gl fr.tm d).1, lowOf nx lo (footOf E.gl fr.tm d).2, v, s1, true, (footOf E.gl fr.tm d).1, (footOf E.gl fr.tm d).2⟩) (nx2 := s1.nx) (H2 := H)
                    (ds2 := ds ++ [didOf s1 k nx (footOf E.gl fr.tm d)]) rfl rfl ?_ (ih' _ _ _ _ _ _ _ _ _ _ hev)
                  exact ⟨rfl, rfl, Nat.le_of_ble_eq_true hsane.1, fun o' hi h => rcOk_wet hi h hw hd hv, fun h => by simp at h, fun _ => ⟨by rw [hd]; rfl, rfl⟩, fun _ h => by simp at h, fun _ _ => ⟨rfl, hcl, rfl, rfl, rfl, hsane.2, hfoot.1, hfoot.2⟩⟩
                · simp at hev
              · simp at hev
            · simp at hev
        · -- call
          rename_i f args hd
          split at hev
          · rename_i g xs ys hf
            split at hev
            · split at hev
              · rename_i v s1 hv
                split at hev
                · rename_i hle
                  refine Trace.cons (r := ⟨fr.tm, nx, layAll H ds, lo, v, s1, true, none, []⟩) (nx2 := s1.nx) (H2 := s1.H) (ds2 := []) rfl rfl ?_ (ih' _ _ _ _ _ _ _ _ _ _ hev)
                  exact ⟨rfl, rfl, Nat.le_of_ble_eq_true hle, fun o' hi h => rcOk_call he (ihC n (Nat.lt_succ_self n)) hi h hw hd hf hv, fun h => by simp at h, fun _ => ⟨by rw [hd]; rfl, rfl⟩, fun _ _ => ⟨rfl, rfl, rfl, rfl⟩, fun _ h => by simp at h⟩
                · simp at hev
              · simp at hev
            · split at hev
              · rename_i hcl
                split at hev
                · rename_i v s1 hv
                  split at hev
                  · rename_i hsane
                    simp only [sane, Bool.and_eq_true] at hsane
                    have hfoot := foot_call (K := layIf H bf ds) hv
                    refine Trace.cons (r := ⟨fr.tm, nx, keepF (layIf H bf ds) (footCall E ⟨layIf H bf ds, nx⟩ g (xs ++ evs E.gl fr.tm args ++ ys)).1, lowOf nx lo (footCall E ⟨layIf H bf ds, nx⟩ g (xs ++ evs E.gl fr.tm args ++ ys)).2, v, s1, true,
                      (footCall E ⟨layIf H bf ds, nx⟩ g (xs ++ evs E.gl fr.tm args ++ ys)).1, (footCall E ⟨layIf H bf ds, nx⟩ g (xs ++ evs E.gl fr.tm args ++ ys)).2⟩) (nx2 := s1.nx) (H2 := H)
                      (ds2 := ds ++ [didOf s1 k nx (footCall E ⟨layIf H bf ds, nx⟩ g (xs ++ evs E.gl fr.tm args ++ ys))]) rfl rfl ?_ (ih' _ _ _ _ _ _ _ _ _ _ hev)
                    exact ⟨rfl, rfl, Nat.le_of_ble_eq_true hsane.1, fun o' hi h => rcOk_call he (ihC n (Nat.lt_succ_self n)) hi h hw hd hf hv, fun h => by simp at h, fun _ => ⟨by rw [hd]; rfl, rfl⟩, fun _ h => by simp at h,
                      fun _ _ => ⟨rfl, hcl, rfl, rfl, rfl, hsane.2, hfoot.1, hfoot.2⟩⟩
                  · simp at hev
                · simp at hev
              · simp at hev
          · simp at hev
        · simp at hev
      · simp at hev
end
end Go.Ev
