/- The run of code: regions in their order, calls, loops, jumps. -/
import Derived.Test.YtkakihmhmobgoaaGreatDoorXevS
import Derived.Scope
namespace Go.Ev

def EOper.dok (N : Nat) (o : EOper) : Bool := dstOk N o.dst
def ECode.ok (N : Nat) : ECode → Bool
  | .reg ops => ops.all (EOper.dok N)
  | .draw ops => ops.all fun o => EOper.dok N o.1
  | .seq a b | .cond _ a b => a.ok N && b.ok N
  | .block _ b | .loop b | .scope b => b.ok N
  | _ => true

/-- The evaluator's functions are the program's. -/
structure EnvOk (P : Program) (E : Env) : Prop where
  fns : ∀ f F, E.fns f = some F → ∃ fn, P.funcs[f]? = some fn ∧ (fn.name == "runtime.NumGoroutine") = false ∧ fn.body.isNone = false ∧
    (F.own = none → ∃ cc, fn.body = some cc ∧ ofCode P cc = some F.body ∧ ofRes P fn.results.toList = some F.res ∧ F.body.ok fn.ntmps = true)
  own : ∀ f F o, E.fns f = some F → F.own = some o → ∀ (lo : Nat) (args : List AV) (s : St) (out : AOut) (s' : St) (us : List Value) (ι : Emb) (w : World) (Z : Nat → Prop),
    ownRun lo s o args = some (out, s') → Rel ι w Z s.nx s.H.get → GlR ι w Z E.gl → VRs ι w Z s.nx args us → Calls P f us.toArray w (PostC lo ι w Z s out s')
  mixed : P.follows .mixedOrders = true

section
variable (P : Program) (E : Env)
def CallS (n : Nat) : Prop := ∀ (lo : Nat) (f : FuncId) (args : List AV) (s : St) (o : AOut) (s' : St) (us : List Value) (ι : Emb) (w : World) (Z : Nat → Prop),
  callF E n lo f args s = some (o, s') → Rel ι w Z s.nx s.H.get → GlR ι w Z E.gl → VRs ι w Z s.nx args us → Calls P f us.toArray w (PostC lo ι w Z s o s')
def OpsS (n : Nat) : Prop := ∀ (lo : Nat) (es : List EOper) (fr : Fr) (s : St) (e : Ex) (fr' : Fr) (s' : St) (ops : Array Oper) (rs : List Oper) (l : List Nat) (N : Nat) (ι : Emb) (w : World) (Z : Nat → Prop) (a : Act)
  (Q : Exit → Act → World → Prop), execOps E n lo es fr s = some (e, fr', s') → l.map (ops[·]?) = rs.map some → ofOpers P ops rs = some es → es.all (EOper.dok N) = true → SR E.gl N ι w Z s fr a →
  (∀ x a' w', PostX E.gl N lo ι w Z s e fr' s' x a' w' → Q x a' w') → wpOps P ops Q l a w
def ExecS (n : Nat) : Prop := ∀ (lo : Nat) (c : ECode) (fr : Fr) (s : St) (e : Ex) (fr' : Fr) (s' : St) (cc : Code) (N : Nat) (ι : Emb) (w : World) (Z : Nat → Prop) (a : Act)
  (Q : Exit → Act → World → Prop), exec E n lo c fr s = some (e, fr', s') → ofCode P cc = some c → c.ok N = true → SR E.gl N ι w Z s fr a →
  (∀ x a' w', PostX E.gl N lo ι w Z s e fr' s' x a' w' → Q x a' w') → cc.wp P Q a w
def DrawS (n : Nat) : Prop := ∀ (lo : Nat) (fr : Fr) (s : St) (e : Ex) (fr' : Fr) (s' : St) (id : Nat) (ops : Array Oper) (es : List (EOper × Nat × Bool)) (N : Nat) (ι : Emb) (w : World) (Z : Nat → Prop) (a : Act)
  (Q : Exit → Act → World → Prop), execDraw E n lo 0 es fr s.H [] [] s.nx = some (e, fr', s') → ofCode P (.region id ops true) = some (.draw es) → (ECode.draw es).ok N = true → SR E.gl N ι w Z s fr a →
  (∀ x a' w', PostX E.gl N lo ι w Z s e fr' s' x a' w' → Q x a' w') → (Code.region id ops true).wp P Q a w
/-- Code within a scope. -/
def InScope (body : Code) (Q : Exit → Act → World → Prop) (c : Code) (a : Act) (w : World) : Prop :=
  ∀ (b : Frame) (k : List Item) (cs : List Frame), ∃ e a' w', Q e a' w' ∧ Arrives P (lone (b.at a (.code c :: .inScope body :: k)) cs w) b k cs e a' w'
def ScopeS (n : Nat) : Prop := ∀ (lo : Nat) (b c : ECode) (fr : Fr) (s : St) (e : Ex) (fr' : Fr) (s' : St) (body cc : Code) (N : Nat) (ι : Emb) (w : World) (Z : Nat → Prop) (a : Act)
  (Q : Exit → Act → World → Prop), scopeRun E n lo b c fr s = some (e, fr', s') → ofCode P body = some b → b.ok N = true → ofCode P cc = some c → c.ok N = true → SR E.gl N ι w Z s fr a →
  (∀ x a' w', PostX E.gl N lo ι w Z s e fr' s' x a' w' → Q x a' w') → InScope P body Q cc a w
end

section
variable {P : Program} {E : Env} {ι : Emb} {w : World} {Z : Nat → Prop} {lo N : Nat} {a : Act} {s s' : St} {fr fr' : Fr} {e : Ex}
  {ι1 : Emb} {w1 : World} {Z1 : Nat → Prop} {s1 : St}

theorem PostX.trans {gl : Nat → AV} {x : Exit} {a' : Act} {w' : World} (h : Ext ι w Z s.nx lo s.H.get ι1 w1 Z1 s1.nx s1.H.get) (p : PostX gl N lo ι1 w1 Z1 s1 e fr' s' x a' w') : PostX gl N lo ι w Z s e fr' s' x a' w' := by
  obtain ⟨ι', Z', h1, h2, h3⟩ := p
  exact ⟨ι', Z', h1, h2, h.trans h3⟩

theorem run_callFunc_enter {f : FuncId} {F : EFunc} (h : EnvOk P E) (hf : E.fns f = some F) (args : Array Value) : (callFunc f args).run P w = .ok (.enter f args) w := by
  obtain ⟨fn, h1, h2, h3, _⟩ := h.fns f F hf
  simp only [callFunc, Sem.run_bind, program, Sem.run, Result.andThen_ok, h1]
  simp [h2, h3]
theorem callF_fns {n : Nat} {f : FuncId} {args : List AV} {r : AOut × St} (h : callF E n lo f args s = some r) : ∃ F, E.fns f = some F := by
  cases n with
  | zero => simp [callF] at h
  | succ n =>
    simp only [callF] at h
    split at h
    · simp at h
    · exact ⟨_, by assumption⟩
/-- The model's step of a call by a function value. -/
theorem run_call {op : Op} {f : Eo} {args : List Eo} {g : FuncId} {xs ys : List AV} {o : Oper} (he : EnvOk P E) (hF : ∃ F, E.fns g = some F) (hsr : SR E.gl N ι w Z s fr a) (ho : o.op = op) (hc : ofOp P op = some (.call f args))
    (hf : f.ev E.gl fr.tm = .fn g xs ys) : ∃ us : List Value, (execOp a.eval o).run P w = .ok (.enter g us.toArray) w ∧ VRs ι w Z s.nx (xs ++ evs E.gl fr.tm args ++ ys) us := by
  obtain ⟨c, x, rfl, hcal, hx, has⟩ := call_shape hc
  have hvf := eo_sound (a := a) hsr.gl hsr.tm hx
  have hvs := eos_sound (a := a) hsr.gl hsr.tm has
  rw [hf] at hvf
  generalize hxv : a.eval x = xv at hvf
  obtain ⟨F, hF⟩ := hF
  cases hvf with
  | fn _ _ _ _ us vs h1 h2 =>
    refine ⟨us.toList ++ c.args.toList.map a.eval ++ vs.toList, ?_, (h1.append hvs).append h2⟩
    have e1 : us ++ c.args.map a.eval ++ vs = (us.toList ++ c.args.toList.map a.eval ++ vs.toList).toArray := by apply Array.ext'; simp
    rw [← e1]
    simp [execOp, ho, resolve, hcal, hxv, Deferred.ofValue, invoke, run_callFunc_enter he hF]

theorem VR.iface_of {v : AV} {u : Value} {t : TypeId} {nx : Nat} (h : VR ι w Z nx (.ifc t v) u) : ∃ x, u = .iface t x := by cases h; exact ⟨_, rfl⟩

theorem ops_step {n : Nat} (he : EnvOk P E) (ihO : OpsS P E n) (ihC : CallS P E n) : OpsS P E (n + 1) := by
  intro lo es fr s e fr' s' ops rs l N ι w Z a Q hev hl hc hd hsr hq
  cases es with
  | nil =>
    simp only [execOps, Option.some.injEq, Prod.mk.injEq] at hev
    obtain ⟨rfl, rfl, rfl⟩ := hev
    cases rs with
    | nil =>
      simp only [List.map_nil, List.map_eq_nil_iff] at hl; subst hl
      exact hq _ _ _ ⟨ι, Z, .nrm, hsr, .refl⟩
    | cons o rs =>
      simp only [ofOpers] at hc
      split at hc <;> simp at hc
  | cons eo es =>
    cases rs with
    | nil => simp [ofOpers] at hc
    | cons o rs =>
      obtain ⟨i, l, rfl⟩ : ∃ i l', l = i :: l' := by cases l with | nil => simp at hl | cons i l => exact ⟨i, l, rfl⟩
      simp only [List.map_cons, List.cons.injEq] at hl
      obtain ⟨hi, hl⟩ := hl
      simp only [ofOpers] at hc
      split at hc
      · rename_i eo' es' hco hcs
        simp only [Option.some.injEq, List.cons.injEq] at hc
        obtain ⟨rfl, rfl⟩ := hc
        simp only [List.all_cons, Bool.and_eq_true] at hd
        obtain ⟨hd1, hd2⟩ := hd
        obtain ⟨_, hdst⟩ := ofOper_op' hco
        have hdo : dstOk N o.dst = true := by rw [← hdst]; exact hd1
        simp only [wpOps, hi]
        simp only [execOps] at hev
        split at hev
        · rename_i hw
          rw [wanted_sound hsr.tm hco hw]
          simp only [Bool.false_eq_true, if_false]
          rw [hdst] at hev
          exact ihO _ _ _ _ _ _ _ _ _ _ _ _ _ _ _ Q hev hl hcs hd2 (hsr.put undefR hdo) hq
        · rename_i hw
          rw [wanted_sound hsr.tm hco hw]
          simp only [if_true]
          refine .inl ?_
          unfold Oper.wp
          split at hev
          · -- dry
            rename_i d hed
            have hop := ofOper_op hco hed (by simp)
            split at hev
            · rename_i v hv
              obtain ⟨u, hr, hvr⟩ := dry_sound hsr.gl hsr.tm hop hv
              rw [hr, Oper.upon_value]
              rw [hdst] at hev
              exact ihO _ _ _ _ _ _ _ _ _ _ _ _ _ _ _ Q hev hl hcs hd2 (hsr.put hvr hdo) hq
            · simp at hev
          · -- wet
            rename_i d hed
            have hop := ofOper_op hco hed (by simp)
            split at hev
            · rename_i v s1 hv
              obtain ⟨nx, w1, ι1, Z1, hr, hcase, hrel, hext⟩ := wet_sound hsr.rel hsr.gl hsr.tm hop hv
              rw [hr]
              rw [hdst] at hev
              have hsr1 := hsr.ext hrel hext
              rcases hcase with ⟨u, rfl, hvr⟩ | ⟨rfl, rfl⟩
              · rw [Oper.upon_value]
                exact ihO _ _ _ _ _ _ _ _ _ _ _ _ _ _ _ Q hev hl hcs hd2 (hsr1.put hvr hdo) fun x a' w' p => hq x a' w' (p.trans hext)
              · rw [Oper.upon_skip]
                exact ihO _ _ _ _ _ _ _ _ _ _ _ _ _ _ _ Q hev hl hcs hd2 (hsr1.put undefR hdo) fun x a' w' p => hq x a' w' (p.trans hext)
            · simp at hev
          · -- call
            rename_i f args hed
            have hop := ofOper_op hco hed (by simp)
            split at hev
            · rename_i g xs ys hfe
              split at hev
              · rename_i v s1 hcall
                obtain ⟨us, hr, hvs⟩ := run_call he (callF_fns hcall) hsr rfl hop hfe
                rw [hr, Oper.upon_enter]
                refine (ihC _ _ _ _ _ _ _ _ _ _ hcall hsr.rel hsr.gl hvs).mono ?_
                rintro e1 w1 ⟨ι1, Z1, hend, hrel, hext⟩
                cases hend with
                | ret _ u hvr =>
                  rw [hdst] at hev
                  exact ihO _ _ _ _ _ _ _ _ _ _ _ _ _ _ _ Q hev hl hcs hd2 ((hsr.ext hrel hext).put hvr hdo) fun x a' w' p => hq x a' w' (p.trans hext)
              · rename_i v s1 hcall
                simp only [Option.some.injEq, Prod.mk.injEq] at hev
                obtain ⟨rfl, rfl, rfl⟩ := hev
                obtain ⟨us, hr, hvs⟩ := run_call he (callF_fns hcall) hsr rfl hop hfe
                rw [hr, Oper.upon_enter]
                refine (ihC _ _ _ _ _ _ _ _ _ _ hcall hsr.rel hsr.gl hvs).mono ?_
                rintro e1 w1 ⟨ι1, Z1, hend, hrel, hext⟩
                cases hend with
                | pan _ u hvr => exact hq _ _ _ ⟨ι1, Z1, .pan _ _ hvr, hsr.ext hrel hext, hext⟩
              · simp at hev
            · simp at hev
          · -- defer
            rename_i f args hed
            have hop := ofOper_op hco hed (by simp)
            split at hev
            · rename_i g xs ys hfe
              obtain ⟨c, x, hoc, hcal, hx, has⟩ := defer_shape hop
              have hvf := eo_sound (a := a) hsr.gl hsr.tm hx
              have hvs := eos_sound (a := a) hsr.gl hsr.tm has
              rw [hfe] at hvf
              generalize hxv : a.eval x = xv at hvf
              cases hvf with
              | fn _ _ _ _ us vs h1 h2 =>
                have hr : (execOp a.eval o).run P w = .ok (.defer { target := .fn (.func g) vs, args := us ++ c.args.map a.eval }) w := by
                  simp [execOp, hoc, resolve, hcal, hxv, Deferred.ofValue]
                rw [hr, Oper.upon_defer]
                rw [hdst] at hev
                refine ihO _ _ _ _ _ _ _ _ _ _ _ _ _ _ _ Q hev hl hcs hd2 (SR.put ⟨hsr.rel, hsr.gl, hsr.tm, .cons _ _ _ _ _ _ ?_ hsr.df, hsr.sz⟩ undefR hdo) hq
                have := (h1.append hvs).append h2
                simpa using this
            · simp at hev
          · -- panic
            rename_i x hed
            have hop := ofOper_op hco hed (by simp)
            obtain ⟨y, hoy, hy⟩ := panic_shape hop
            have hv := eo_sound (a := a) hsr.gl hsr.tm hy
            split at hev
            · rename_i t v hxe
              simp only [Option.some.injEq, Prod.mk.injEq] at hev
              obtain ⟨rfl, rfl, rfl⟩ := hev
              rw [hxe] at hv
              obtain ⟨q, hq'⟩ := hv.iface_of
              have hr : (execOp a.eval o).run P w = .halt (.panic (a.eval y)) w := by
                simp [execOp, hoy, Instr.panic, hq', goPanic, Sem.run]
              rw [hr, Oper.upon_panic]
              exact hq _ _ _ ⟨ι, Z, .pan _ _ hv, hsr, .refl⟩
            · simp at hev
          · simp at hev
          · simp at hev
        · simp at hev
      · simp at hc
end
end Go.Ev
