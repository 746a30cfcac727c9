/- Calls: the frame, the deferred calls, the results. -/
import Derived.Test.YtkakihmhmobgoaaGreatDoorXevV
import Derived.Recover
import Derived.Orders
namespace Go.Ev

section
variable {P : Program} {E : Env} {ι : Emb} {w : World} {Z : Nat → Prop} {lo nx : Nat} {s s' : St} {ι1 : Emb} {w1 : World} {Z1 : Nat → Prop} {s1 : St}

theorem args0_get : ∀ (args : List AV) (i : Nat) (t : Tr AV) (k : Nat), (args0 i args t).get k = if i ≤ k ∧ k < i + args.length then args[k - i]? else t.get k
  | [], i, t, k => by simp [args0]; intro h1 h2; omega
  | a :: r, i, t, k => by
    simp only [args0]
    rw [args0_get r (i + 1) (t.set i a) k]
    by_cases h1 : i + 1 ≤ k ∧ k < i + 1 + r.length
    · rw [if_pos h1, if_pos (by simp; omega)]
      rw [show k - i = (k - (i + 1)) + 1 by omega]
      simp
    · rw [if_neg h1, Tr.get_put]
      by_cases h2 : k = i
      · subst h2; simp
      · rw [if_neg h2, if_neg (by simp; omega)]
theorem tm_enter {args : List AV} {us : List Value} (h : VRs ι w Z nx args us) (n : Nat) : TmR ι w Z nx (args0 0 args .lf) (us.toArray ++ Array.replicate n undef) := by
  intro t
  rw [args0_get]
  have hl := h.length
  by_cases ht : t < args.length
  · rw [if_pos (by omega)]
    have hg : args[t]? = some args[t] := List.getElem?_eq_getElem ht
    obtain ⟨x, hx, hv⟩ := h.get hg
    have : (us.toArray ++ Array.replicate n undef).getD t undef = x := by
      have hlt : t < us.length := by omega
      rw [List.getElem?_eq_getElem hlt] at hx
      simp [Array.getD_eq_getD_getElem?, Array.getElem?_append, hlt]
      exact Option.some.inj hx
    rw [this, Nat.sub_zero, hg]
    exact hv
  · rw [if_neg (by omega)]
    have : (us.toArray ++ Array.replicate n undef).getD t undef = undef := by
      have hlt : ¬ t < us.length := by omega
      simp only [Array.getD_eq_getD_getElem?, Array.getElem?_append]
      simp [hlt, Array.getElem?_replicate]
      split <;> rfl
    rw [this]
    exact undefR
theorem sr_enter {args : List AV} {us : List Value} (N : Nat) (r : Rel ι w Z s.nx s.H.get) (g : GlR ι w Z E.gl) (h : VRs ι w Z s.nx args us) :
    SR E.gl N ι w Z s ⟨args0 0 args .lf, []⟩ { tmps := us.toArray ++ Array.replicate (N - us.toArray.size) undef, defers := [] } :=
  ⟨r, g, tm_enter h _, .nil, by simp; omega⟩

/-- How a frame is left: whether it panics, with what. -/
inductive ModeR (ι : Emb) (w : World) (Z : Nat → Prop) (nx : Nat) : Option AV → FrameMode → Prop where
  | ret : ModeR ι w Z nx none .returning
  | pan (v : AV) (u : Value) (h : VR ι w Z nx v u) : ModeR ι w Z nx (some v) (.panicking [{ v := u, recovered := false }])
/-- The mode behind a deferred call. -/
def modeThen (b : Bool) : FrameMode → FrameMode
  | .panicking [x] => .panicking [{ x with recovered := b }]
  | m => m
theorem ModeR.ext {nx' : Nat} {G G' : Nat → Option ABlk} {p : Option AV} {m : FrameMode} (r : Rel ι w Z nx G) (e : Ext ι w Z nx lo G ι1 w1 Z1 nx' G') (h : ModeR ι w Z nx p m) : ModeR ι1 w1 Z1 nx' p m := by
  cases h with
  | ret => exact .ret
  | pan v u h => exact .pan v u (h.ext e r)

variable (P E) in
def CallDS (n : Nat) : Prop := ∀ (lo : Nat) (f : FuncId) (args : List AV) (p : Option AV) (s : St) (b : Bool) (s' : St) (us : List Value) (m : FrameMode) (ι : Emb) (w : World) (Z : Nat → Prop),
  callD E n lo f args p s = some (b, s') → Rel ι w Z s.nx s.H.get → GlR ι w Z E.gl → VRs ι w Z s.nx args us → ModeR ι w Z s.nx p m →
  CallsD P f us.toArray m w fun e m' w' => (∃ v, e = .returned v) ∧ m' = modeThen b m ∧ ∃ ι' Z', Rel ι' w' Z' s'.nx s'.H.get ∧ Ext ι w Z s.nx lo s.H.get ι' w' Z' s'.nx s'.H.get
variable (P E) in
def LeaveS (n : Nat) : Prop := ∀ (lo : Nat) (F : EFunc) (fn : Func) (tm : Tr AV) (df : List (FuncId × List AV)) (p : Option AV) (s : St) (o : AOut) (s' : St) (tmps : Array Value) (ds : List Deferred) (m : FrameMode) (ι : Emb) (w : World) (Z : Nat → Prop)
  (R : Ending → World → Prop),
  leave E n lo F tm df p s = some (o, s') → ofRes P fn.results.toList = some F.res → Rel ι w Z s.nx s.H.get → GlR ι w Z E.gl → TmR ι w Z s.nx tm tmps → DfR ι w Z s.nx df ds → ModeR ι w Z s.nx p m →
  (∀ e w', PostC lo ι w Z s o s' e w' → R e w') → Leaves P fn tmps R ds m w

theorem callD_fns {n : Nat} {f : FuncId} {args : List AV} {p : Option AV} {r : Bool × St} (h : callD E n lo f args p s = some r) : ∃ F, E.fns f = some F := by
  cases n with
  | zero => simp [callD] at h
  | succ n =>
    simp only [callD] at h
    split at h
    · simp at h
    · exact ⟨_, by assumption⟩

theorem leave_step {n : Nat} (he : EnvOk P E) (ihD : CallDS P E n) (ihL : LeaveS P E n) : LeaveS P E (n + 1) := by
  intro lo F fn tm df p s o s' tmps ds m ι w Z R hev hres r hgl htm hdf hm hR
  cases hdf with
  | nil =>
    cases hm with
    | ret =>
      simp only [leave] at hev
      split at hev
      · rename_i vs hvs
        simp only [Option.some.injEq, Prod.mk.injEq] at hev; obtain ⟨rfl, rfl⟩ := hev
        obtain ⟨u, hu, hv⟩ := results_sound (P := P) r htm hres hvs
        exact ⟨u, hu, hR _ _ ⟨ι, Z, .ret _ _ hv, r, .refl⟩⟩
      · simp at hev
    | pan v u hv =>
      simp only [leave, Option.some.injEq, Prod.mk.injEq] at hev; obtain ⟨rfl, rfl⟩ := hev
      exact hR _ _ ⟨ι, Z, .pan _ _ hv, r, .refl⟩
  | cons g xs rr cap args ds hargs hds =>
    simp only [leave] at hev
    have hmr : m ≠ .run := by cases hm <;> simp
    have main : ∀ (b : Bool) (s1 : St) (p' : Option AV), callD E n lo g xs p s = some (b, s1) → leave E n lo F tm rr p' s1 = some (o, s') → (p' = if b then none else p) →
        Leaves P fn tmps R ({ target := .fn (.func g) cap, args } :: ds) m w := by
      intro b s1 p' hcall hlv hp
      obtain ⟨G, hG⟩ := callD_fns hcall
      refine leaves_cons (f := g) (args := args ++ cap) hmr (by simp [invoke, run_callFunc_enter he hG]) ?_
      have := ihD _ _ _ _ _ _ _ (args ++ cap).toList m _ _ _ hcall r hgl hargs hm
      rw [Array.toArray_toList] at this
      refine this.mono ?_
      rintro e m' w' ⟨⟨v, rfl⟩, rfl, ι', Z', r', hext⟩
      refine ihL _ _ _ _ _ _ _ _ _ _ _ _ _ _ _ _ hlv hres r' (hgl.ext r hext) (htm.ext r hext) (hds.ext r hext) ?_ ?_
      · cases hm with
        | ret =>
          have : p' = none := by rw [hp]; split <;> rfl
          rw [this]
          exact .ret
        | pan v u hv =>
          cases b with
          | true =>
            simp only [if_true] at hp; subst hp
            exact .ret
          | false =>
            simp only [Bool.false_eq_true, if_false] at hp; subst hp
            exact .pan _ _ (hv.ext hext r)
      · rintro e w'' ⟨ι2, Z2, h1, h2, h3⟩
        exact hR _ _ ⟨ι2, Z2, h1, h2, hext.trans h3⟩
    split at hev
    · rename_i s1 hc; exact main true s1 none hc hev rfl
    · rename_i s1 hc; exact main false s1 p hc hev rfl
    · simp at hev

theorem left_some {b b' : Bool} {F : EFunc} {r : Option (Ex × Fr × St)} (h : left b F r = some (b', s')) : b' = b ∧ ∃ e fr vs, r = some (e, fr, s') ∧ (e = .nrm ∨ e = .ret) ∧ fr.df = [] ∧ resAll fr.tm s' F.res = some vs := by
  unfold left at h
  split at h
  · split at h
    · rename_i vs h1 h2
      simp only [Option.some.injEq, Prod.mk.injEq] at h; obtain ⟨rfl, rfl⟩ := h
      exact ⟨rfl, _, _, vs, rfl, .inl rfl, h1, h2⟩
    · simp at h
  · split at h
    · rename_i vs h1 h2
      simp only [Option.some.injEq, Prod.mk.injEq] at h; obtain ⟨rfl, rfl⟩ := h
      exact ⟨rfl, _, _, vs, rfl, .inr rfl, h1, h2⟩
    · simp at h
  · simp at h

theorem modeThen_false {p : Option AV} {m : FrameMode} (h : ModeR ι w Z nx p m) : modeThen false m = m := by cases h <;> rfl

/-- A region that recovers first. -/
theorem recover_shape {op : Op} (hc : ofOp P op = some .recover) : ∃ (args : Array Operand) (ts : Array TypeId), op = .call ⟨.builtin .recover, args, ts⟩ := by
  cases op with
  | call c =>
    obtain ⟨callee, as, ts⟩ := c
    cases callee with
    | value x =>
      simp only [ofOp, ofCallee] at hc
      split at hc <;> simp at hc
    | builtin b =>
      cases b with
      | recover => exact ⟨as, ts, rfl⟩
      | _ => exfalso; simp only [ofOp, ofBuiltin] at hc <;> (repeat' (split at hc)) <;> first | (simp at hc; done) | contradiction | (simp_all; done)
    | invoke r m => simp [ofOp] at hc
  | _ => exfalso; simp only [ofOp] at hc <;> (repeat' (split at hc)) <;> first | (simp at hc; done) | contradiction | (simp_all; done)

/-- In a deferred call what follows is as elsewhere, if it doesn't recover. -/
theorem wpOpsS_of {ops : Array Oper} {Q : Exit → Act → List Frame → World → Prop} {cs : List Frame} (hq : ∀ a w, ¬ Q .outgrown a cs w) :
    ∀ (l : List Nat) (a : Act) (w : World), wpOps P ops (fun e a w => Q e a cs w) l a w → wpOpsS P ops Q l a cs w
  | [], a, w, h => h
  | i :: rest, a, w, h => by
    simp only [wpOps] at h
    simp only [wpOpsS]
    cases ho : ops[i]? with
    | none => rw [ho] at h; exact wpOpsS_of hq rest a w h
    | some o =>
      rw [ho] at h
      simp only at h ⊢
      split
      · rename_i hw
        rw [if_pos hw] at h
        rcases h with h | ⟨_, a0, w0, h⟩
        · split
          · rename_i w' hr
            unfold Oper.wp at h
            rw [hr] at h
            exact h.elim
          · exact Oper.wp_mono (o := o) (Q := fun e a w => Q e a cs w) (fun a w h => wpOpsS_of hq rest a w h) h
        · exact absurd h (hq a0 w0)
      · rename_i hw
        rw [if_neg hw] at h
        exact wpOpsS_of hq rest _ w h

theorem range_map (ops : Array Oper) : (List.range ops.size).map (ops[·]?) = ops.toList.map some := by
  apply List.ext_getElem?
  intro i
  simp only [List.getElem?_map]
  by_cases hi : i < ops.size
  · simp [List.getElem?_range hi, hi]
  · simp [hi, List.getElem?_eq_none (show (List.range ops.size).length ≤ i by simpa using hi)]

theorem seq_shape {cc : Code} {a b : ECode} (h : ofCode P cc = some (.seq a b)) : ∃ x y, cc = .seq x y ∧ ofCode P x = some a ∧ ofCode P y = some b := by
  cases cc with
  | seq x y =>
    simp only [ofCode] at h
    split at h
    · rename_i h1 h2
      simp only [Option.some.injEq, ECode.seq.injEq] at h
      obtain ⟨rfl, rfl⟩ := h
      exact ⟨x, y, rfl, h1, h2⟩
    · simp at h
  | region id ops draw =>
    simp only [ofCode] at h
    split at h
    · simp at h
    · split at h
      · simp at h
      · split at h <;> simp at h
  | cond c x y =>
    simp only [ofCode] at h
    split at h <;> simp at h
  | _ => simp [ofCode] at h
theorem reg_shape {cc : Code} {es : List EOper} (h : ofCode P cc = some (.reg es)) : ∃ id ops, cc = .region id ops false ∧ ofOpers P ops ops.toList = some es := by
  cases cc with
  | region id ops draw =>
    simp only [ofCode] at h
    split at h
    · simp at h
    · rename_i h1
      split at h
      · simp only [Option.some.injEq, ECode.reg.injEq] at h; subst h
        exact ⟨id, ops, rfl, h1⟩
      · split at h <;> simp at h
  | seq x y =>
    simp only [ofCode] at h
    split at h <;> simp at h
  | cond c x y =>
    simp only [ofCode] at h
    split at h <;> simp at h
  | _ => simp [ofCode] at h

theorem callD_step {n : Nat} (he : EnvOk P E) (ihO : OpsS P E n) (ihE : ExecS P E n) : CallDS P E (n + 1) := by
  intro lo f args p s b s' us m ι w Z hev r hgl hargs hm
  simp only [callD] at hev
  split at hev
  · simp at hev
  · rename_i F hF
    obtain ⟨fn, hfn, _, _, hcomp⟩ := he.fns f F hF
    split at hev
    · rename_i hown hpure
      obtain ⟨cc, hbody, hcc, hres, hok⟩ := hcomp hown
      have hsr0 := sr_enter (E := E) fn.ntmps r hgl hargs
      split at hev
      · rename_i d ops rest hF'
        rw [hF'] at hcc hok
        obtain ⟨x, y, rfl, hx, hy⟩ := seq_shape hcc
        obtain ⟨id, ops', rfl, hops⟩ := reg_shape hx
        simp only [ECode.ok, Bool.and_eq_true, List.all_cons] at hok
        obtain ⟨⟨hok1, hok2⟩, hok3⟩ := hok
        split at hev
        · rename_i fr1 s1 hex1
          obtain ⟨rfl, e2, fr2, vs, hex2, he2, hdf2, hvs⟩ := left_some hev
          refine callsD_of_wpS hfn hbody ?_
          intro c₀ cs hc0
          apply wpS_seq
          apply wpS_region
          obtain ⟨o0, rs, hrs⟩ : ∃ o0 rs, ops'.toList = o0 :: rs := by
            cases h : ops'.toList with
            | nil => rw [h] at hops; simp [ofOpers] at hops
            | cons o0 rs => exact ⟨o0, rs, rfl⟩
          have hrange := range_map ops'
          rw [hrs] at hrange
          obtain ⟨i0, l, hl⟩ : ∃ i0 l, List.range ops'.size = i0 :: l := by
            cases h : List.range ops'.size with
            | nil => rw [h] at hrange; simp at hrange
            | cons i l => exact ⟨i, l, rfl⟩
          rw [hl] at hrange ⊢
          simp only [List.map_cons, List.cons.injEq] at hrange
          obtain ⟨hi0, hlr⟩ := hrange
          rw [hrs] at hops
          simp only [ofOpers] at hops
          split at hops
          · rename_i eo es hco hcs
            simp only [Option.some.injEq, List.cons.injEq] at hops
            obtain ⟨rfl, rfl⟩ := hops
            have hdst := (ofOper_op' hco).2
            have hop := ofOper_op hco rfl (by simp)
            simp only at hop hdst
            subst hdst
            obtain ⟨as, ts, hoo⟩ := recover_shape hop
            simp only [wpOpsS, hi0]
            have hw := wanted_sound (b := true) hsr0.tm hco rfl
            rw [if_pos hw]
            have hrun : ∀ a : Act, (execOp a.eval o0).run P w = .ok .recover w := fun a => by simp [execOp, hoo, resolve, invoke, builtin]
            rw [hrun]
            simp only
            have fin : ∀ (m' : FrameMode) (u : Value), m' = modeThen true m → VR ι w Z s.nx (p.getD .nili) u →
                wpOpsS P ops' (Exit.thenS (y.wpS P (bodyPostS P fn c₀ cs fun e m' w' => (∃ v, e = .returned v) ∧ m' = modeThen true m ∧ ∃ ι' Z', Rel ι' w' Z' s'.nx s'.H.get ∧ Ext ι w Z s.nx lo s.H.get ι' w' Z' s'.nx s'.H.get))
                  (bodyPostS P fn c₀ cs fun e m' w' => (∃ v, e = .returned v) ∧ m' = modeThen true m ∧ ∃ ι' Z', Rel ι' w' Z' s'.nx s'.H.get ∧ Ext ι w Z s.nx lo s.H.get ι' w' Z' s'.nx s'.H.get)) l
                  (Act.put { tmps := us.toArray ++ Array.replicate (fn.ntmps - us.toArray.size) undef, defers := [] } o0.dst u) ({ c₀ with mode := m' } :: cs) w := by
              intro m' u hm' hu
              apply wpOpsS_of
              · rintro a w ⟨u', ⟨v, hv⟩, _⟩
                cases hv
              · refine ihO _ _ _ _ _ _ _ _ _ _ _ _ _ _ _ _ hex1 hlr hcs hok2 (hsr0.put hu hok1) ?_
                rintro x a1 w1 ⟨ι1, Z1, hx1, hsr1, hext1⟩
                cases hx1
                simp only [Exit.thenS]
                apply wpS_of_wp
                refine ihE _ _ _ _ _ _ _ _ _ _ _ _ _ _ hex2 hy hok3 hsr1 ?_
                rintro x a2 w2 ⟨ι2, Z2, hx2, hsr2, hext2⟩
                obtain ⟨v, hv, _⟩ := results_sound (P := P) hsr2.rel hsr2.tm hres hvs
                have hd : a2.defers = [] := by
                  have := hsr2.df
                  rw [hdf2] at this
                  generalize a2.defers = dd at this
                  cases this; rfl
                have hfin : (∃ v', Ending.returned v = .returned v') ∧ m' = modeThen true m ∧ ∃ ι' Z', Rel ι' w2 Z' s'.nx s'.H.get ∧ Ext ι w Z s.nx lo s.H.get ι' w2 Z' s'.nx s'.H.get :=
                  ⟨⟨v, rfl⟩, hm', ι2, Z2, hsr2.rel, hext1.trans hext2⟩
                rcases he2 with rfl | rfl <;> cases hx2 <;> exact ⟨hd, m', rfl, v, hv, hfin⟩
            cases hm with
            | ret =>
              have hrd : recoverD (c₀ :: cs) = none := by simp [recoverD, hc0]
              rw [hrd]
              have := fin .returning .nilIface rfl (.nili _)
              have e0 : ({ c₀ with mode := .returning } : Frame) = c₀ := by rw [← hc0]
              rw [e0] at this
              exact this
            | pan v u hv =>
              have hrd : recoverD (c₀ :: cs) = some (u, { c₀ with mode := .panicking [{ v := u, recovered := true }] } :: cs) := by simp [recoverD, hc0]
              rw [hrd]
              exact fin _ u rfl hv
          · simp at hops
        · simp at hev
      · obtain ⟨rfl, e2, fr2, vs, hex2, he2, hdf2, hvs⟩ := left_some hev
        refine (callsD_of_wp (R := fun e w' => (∃ v, e = .returned v) ∧ ∃ ι' Z', Rel ι' w' Z' s'.nx s'.H.get ∧ Ext ι w Z s.nx lo s.H.get ι' w' Z' s'.nx s'.H.get) hfn hbody ?_).mono ?_
        · refine ihE _ _ _ _ _ _ _ _ _ _ _ _ _ _ hex2 hcc hok hsr0 ?_
          rintro x a2 w2 ⟨ι2, Z2, hx2, hsr2, hext2⟩
          obtain ⟨v, hv, _⟩ := results_sound (P := P) hsr2.rel hsr2.tm hres hvs
          have hd : a2.defers = [] := by
            have := hsr2.df
            rw [hdf2] at this
            generalize a2.defers = dd at this
            cases this; rfl
          rcases he2 with rfl | rfl <;> cases hx2 <;> exact ⟨hd, v, hv, ⟨v, rfl⟩, ι2, Z2, hsr2.rel, hext2⟩
        · rintro e m' w' ⟨rfl, h1, h2⟩
          exact ⟨h1, (modeThen_false hm).symm, h2⟩
    · simp at hev

def leaveEx (E : Env) (n lo : Nat) (F : EFunc) (fr : Fr) (s : St) : Ex → Option (AOut × St)
  | .nrm | .ret => leave E n lo F fr.tm fr.df none s
  | .pan v => leave E n lo F fr.tm fr.df (some v) s
  | _ => none
theorem call_step {n : Nat} (he : EnvOk P E) (ihE : ExecS P E n) (ihL : LeaveS P E n) : CallS P E (n + 1) := by
  intro lo f args s o s' us ι w Z hev r hgl hargs
  simp only [callF] at hev
  split at hev
  · simp at hev
  · rename_i F hF
    split at hev
    · rename_i ow how
      exact he.own f F ow hF how lo args s o s' us ι w Z hev r hgl hargs
    · rename_i hown
      obtain ⟨fn, hfn, _, _, hcomp⟩ := he.fns f F hF
      obtain ⟨cc, hbody, hcc, hres, hok⟩ := hcomp hown
      have hsr0 := sr_enter (E := E) fn.ntmps r hgl hargs
      split at hev
      · rename_i e fr s1 hex
        -- behind the body
        have main : ∀ (lo' : Nat) (o1 : AOut) (s2 : St) (R : Ending → World → Prop), exec E n lo' F.body ⟨args0 0 args .lf, []⟩ s = some (e, fr, s1) →
            leaveEx E n lo' F fr s1 e = some (o1, s2) →
            (∀ e w', PostC lo' ι w Z s o1 s2 e w' → R e w') → Calls P f us.toArray w R := by
          intro lo' o1 s2 R hex hlv hR
          refine calls_of_wp_defers hfn hbody ?_
          refine ihE _ _ _ _ _ _ _ _ _ _ _ _ _ _ hex hcc hok hsr0 ?_
          rintro x a1 w1 ⟨ι1, Z1, hx, hsr1, hext⟩
          have hR' : ∀ e w', PostC lo' ι1 w1 Z1 s1 o1 s2 e w' → R e w' := by
            rintro e w' ⟨ι2, Z2, h1, h2, h3⟩
            exact hR _ _ ⟨ι2, Z2, h1, h2, hext.trans h3⟩
          cases hx with
          | nrm => exact ihL _ _ _ _ _ _ _ _ _ _ _ _ _ _ _ _ hlv hres hsr1.rel hsr1.gl hsr1.tm hsr1.df .ret hR'
          | ret => exact ihL _ _ _ _ _ _ _ _ _ _ _ _ _ _ _ _ hlv hres hsr1.rel hsr1.gl hsr1.tm hsr1.df .ret hR'
          | pan v u hv => exact ihL _ _ _ _ _ _ _ _ _ _ _ _ _ _ _ _ hlv hres hsr1.rel hsr1.gl hsr1.tm hsr1.df (.pan v u hv) hR'
          | exit id => simp [leaveEx] at hlv
          | goto l => simp [leaveEx] at hlv
        cases hp : F.pure with
        | false =>
          rw [hp] at hex hev
          simp only [Bool.false_eq_true, if_false] at hex hev
          refine main lo o s' _ hex ?_ (fun _ _ h => h)
          split at hev
          · rename_i v s2 h; simp only [Option.some.injEq, Prod.mk.injEq] at hev; obtain ⟨rfl, rfl⟩ := hev; cases e <;> exact h
          · rename_i v s2 h; simp only [Option.some.injEq, Prod.mk.injEq] at hev; obtain ⟨rfl, rfl⟩ := hev; cases e <;> exact h
          · simp at hev
        | true =>
          rw [hp] at hex hev
          simp only [if_true] at hex hev
          split at hev
          · rename_i v s2 h
            split at hev
            · rename_i v' hfz
              simp only [Option.some.injEq, Prod.mk.injEq] at hev; obtain ⟨rfl, rfl⟩ := hev
              have h' : leaveEx E n s.nx F fr s1 e = some (_, s2) := (by cases e <;> exact h)
              refine main s.nx _ _ _ hex h' ?_
              rintro e w' ⟨ι2, Z2, h1, h2, h3⟩
              cases h1 with
              | ret _ u hv =>
                obtain ⟨Z3, h4, h5, h6⟩ := pure_sound (lo := lo) r h2 h3 hv hfz
                exact ⟨ι2, Z3, .ret _ _ h4, h5, h6⟩
            · simp at hev
          · rename_i v s2 h
            split at hev
            · rename_i v' hfz
              simp only [Option.some.injEq, Prod.mk.injEq] at hev; obtain ⟨rfl, rfl⟩ := hev
              have h' : leaveEx E n s.nx F fr s1 e = some (_, s2) := (by cases e <;> exact h)
              refine main s.nx _ _ _ hex h' ?_
              rintro e w' ⟨ι2, Z2, h1, h2, h3⟩
              cases h1 with
              | pan _ u hv =>
                obtain ⟨Z3, h4, h5, h6⟩ := pure_sound (lo := lo) r h2 h3 hv hfz
                exact ⟨ι2, Z3, .pan _ _ h4, h5, h6⟩
            · simp at hev
          · simp at hev
      · simp at hev
end
end Go.Ev
