/- Each instruction that only looks at its operands does in the model what the evaluator says: comparisons. -/
import Derived.Test.YtkakihmhmobgoaaGreatDoorXevF
import Derived.Laws.StructEq
namespace Go.Ev

section
variable {ι : Emb} {w : World} {Z : Nat → Prop} {nx : Nat} {gl : Nat → AV} {tm : Tr AV} {P : Program} {a : Act}

theorem primT_cases {t : TypeId} {k : PK} (h : primT P t = some k) : (P.underlying t = some .bool ∧ k = .b) ∨ (∃ j, P.underlying t = some (.int j) ∧ k = .i) ∨ (P.underlying t = some .string ∧ k = .s) := by
  unfold primT at h
  split at h
  · exact .inl ⟨by assumption, by simpa using h.symm⟩
  · exact .inr (.inl ⟨_, by assumption, by simpa using h.symm⟩)
  · exact .inr (.inr ⟨by assumption, by simpa using h.symm⟩)
  · simp at h

theorem eqPrim_sound {x y : AV} {u s : Value} {b : Bool} {t : TypeId} {k : PK} (d : Nat) (hk : primT P t = some k)
    (h : eqPrim k x y = some b) (hx : VR ι w Z nx x u) (hy : VR ι w Z nx y s) : (Op.equalIn (d + 1) t u s).run P w = .ok b w := by
  rcases primT_cases hk with ⟨hu, rfl⟩ | ⟨j, hu, rfl⟩ | ⟨hu, rfl⟩ <;> cases x <;> cases y <;> simp only [eqPrim, reduceCtorEq] at h
  · cases hx; cases hy
    simp only [Option.some.injEq] at h; subst h
    exact run_equalIn_bool w d t _ _ hu
  · cases hx; cases hy
    split at h
    · rename_i hkk
      subst hkk
      simp only [Option.some.injEq] at h; subst h
      exact run_equalIn_int w d t _ _ _ _ hu
    · simp at h
  · cases hx; cases hy
    rename_i p q
    simp only [Option.some.injEq] at h; subst h
    rw [run_equalIn_string w d t p q hu]
    congr 1
    exact (natsEq_bytes p q).symm

theorem eqPrims_sound {xs ys : Array Value} {X Y : List AV} {d : Nat} (hx : VRs ι w Z nx X xs.toList) (hy : VRs ι w Z nx Y ys.toList) :
    ∀ {fs : List Field} {i : Nat} {ks : List PK} {b : Bool}, primFs P fs i = some ks → eqPrims ks (X.drop i) (Y.drop i) = some b →
      (Op.eqFields (d + 1) xs ys fs).run P w = .ok b w := by
  intro fs
  induction fs with
  | nil =>
    intro i ks b h he
    simp [primFs] at h; subst h
    cases hX : X.drop i <;> cases hY : Y.drop i <;> rw [hX, hY] at he <;> simp [eqPrims] at he
    subst he; simp [Op.eqFields]
  | cons f r ih =>
    intro i ks b h he
    simp only [primFs] at h
    split at h
    · simp at h
    · rename_i hn
      simp only [not_or, Decidable.not_not] at hn
      obtain ⟨hname, hoff, hsz, hagg⟩ := hn
      cases hp : primT P f.type with
      | none => simp [hp] at h
      | some k =>
        cases hr : primFs P r (i + 1) with
        | none => simp [hp, hr] at h
        | some ks' =>
          simp [hp, hr] at h
          subst h
          cases hX : X.drop i with
          | nil => rw [hX] at he; simp [eqPrims] at he
          | cons p X' =>
            cases hY : Y.drop i with
            | nil => rw [hX, hY] at he; simp [eqPrims] at he
            | cons q Y' =>
              rw [hX, hY] at he
              simp only [eqPrims] at he
              cases h1 : eqPrim k p q with
              | none => simp [h1] at he
              | some b1 =>
                cases h2 : eqPrims ks' X' Y' with
                | none => simp [h1, h2] at he
                | some b2 =>
                  simp [h1, h2] at he
                  subst he
                  have hXi : X[i]? = some p := by have := congrArg (fun l => l[0]?) hX; simpa using this
                  have hYi : Y[i]? = some q := by have := congrArg (fun l => l[0]?) hY; simpa using this
                  have hX' : X.drop (i + 1) = X' := by have := congrArg List.tail hX; simpa using this
                  have hY' : Y.drop (i + 1) = Y' := by have := congrArg List.tail hY; simpa using this
                  obtain ⟨u, hu, hvu⟩ := hx.get hXi
                  obtain ⟨s, hs, hvs⟩ := hy.get hYi
                  have hpu : (part f.type xs f.offset).run P w = .ok u w := by
                    simp only [part, Sem.run_bind, run_aggT hagg, Result.andThen_ok, Bool.false_eq_true, if_false, hoff]
                    have : xs[i]? = some u := by simpa using hu
                    simp [this]
                  have hps : (part f.type ys f.offset).run P w = .ok s w := by
                    simp only [part, Sem.run_bind, run_aggT hagg, Result.andThen_ok, Bool.false_eq_true, if_false, hoff]
                    have : ys[i]? = some s := by simpa using hs
                    simp [this]
                  simp only [Op.eqFields, ne_eq, hname, not_false_eq_true, if_true, Sem.run_bind, hpu, hps, Result.andThen_ok, eqPrim_sound d hp h1 hvu hvs]
                  cases b1
                  · simp
                  · simp only [Bool.not_true, Bool.false_eq_true, if_false, Bool.true_and]
                    exact ih hr (by rw [hX', hY']; exact h2)

theorem eqRef_sound {x y : AV} {u s : Value} {b : Bool} {t : TypeId} {d : Nat} {k : RK} (hk : eqKind P t = some (.ref k)) (h : eqRef k x y = some b) (hx : VR ι w Z nx x u) (hy : VR ι w Z nx y s) :
    (Op.equalIn (d + 1) t u s).run P w = .ok b w := by
  have hu : (k = .p ∧ ∃ e, P.underlying t = some (.pointer e)) ∨ (k = .s ∧ ∃ e, P.underlying t = some (.slice e)) ∨ (k = .m ∧ ∃ e f, P.underlying t = some (.map e f)) ∨
      (k = .f ∧ ∃ p r v, P.underlying t = some (.func p r v)) := by
    unfold eqKind at hk
    split at hk <;> (try simp only [Option.some.injEq, EqK.ref.injEq, reduceCtorEq] at hk)
    · exact .inl ⟨hk.symm, _, by assumption⟩
    · exact .inr (.inl ⟨hk.symm, _, by assumption⟩)
    · exact .inr (.inr (.inl ⟨hk.symm, _, _, by assumption⟩))
    · exact .inr (.inr (.inr ⟨hk.symm, _, _, _, by assumption⟩))
    · split at hk
      · simp at hk
      · simp only [Option.map_eq_some_iff, reduceCtorEq, and_false, exists_const] at hk
  rcases hu with ⟨rfl, e, hu⟩ | ⟨rfl, e, hu⟩ | ⟨rfl, e, f, hu⟩ | ⟨rfl, p, r, v, hu⟩ <;> unfold eqRef at h <;> split at h <;>
    simp only [reduceCtorEq, Option.some.injEq, forall_const, imp_self, implies_true] at * <;> subst h <;> cases hx <;> cases hy <;> simp [Op.equalIn, run_underlying hu]

theorem eqAV_sound {op : BinOp} {k : EqK} {xo yo : Operand} {x y : AV} {u s : Value} {b : Bool} {t : TypeId} (hk : eqKind P t = some k) (h : eqAV k x y = some b) (hx : VR ι w Z nx x u) (hy : VR ι w Z nx y s)
    (hc : k = .ifc → (∃ v, xo = .const v) ∨ ∃ v, yo = .const v) (hop : op = .eql ∨ op = .neq) :
    (do eqGuard op t xo yo u s; binOp op t u s : Sem Value).run P w = .ok (.bool (if op = .neq then !b else b)) w := by
  cases k with
  | prim p =>
    simp only [eqAV] at h
    have hp : primT P t = some p := by
      unfold eqKind at hk
      unfold primT
      split at hk <;> (try simp only [Option.some.injEq, EqK.prim.injEq, reduceCtorEq] at hk)
      · rw [← hk]; simp [*]
      · rw [← hk]; simp [*]
      · rw [← hk]; simp [*]
      · split at hk
        · simp at hk
        · simp only [Option.map_eq_some_iff, reduceCtorEq, and_false, exists_const] at hk
    have he := eqPrim_sound 0 hp h hx hy
    rcases primT_cases hp with ⟨hu, rfl⟩ | ⟨j, hu, rfl⟩ | ⟨hu, rfl⟩ <;> cases x <;> cases y <;> simp only [eqPrim, reduceCtorEq] at h <;> cases hx <;> cases hy
    · rename_i p q
      have he' : (Op.equal t (.bool p) (.bool q)).run P w = .ok b w := by
        simp only [Option.some.injEq] at h; subst h
        exact run_equalIn_bool w 9999 t _ _ hu
      rcases hop with rfl | rfl
      · simp [eqGuard, binOp, he']
      · simp [eqGuard, binOp, he']
    · split at h
      · rename_i hkk
        subst hkk
        simp only [Option.some.injEq] at h; subst h
        rcases hop with rfl | rfl
        · simp [eqGuard, binOp, Op.intCmp]
        · simp [eqGuard, binOp, Op.intCmp]; rfl
      · simp at h
    · rename_i p q
      simp only [Option.some.injEq] at h; subst h
      have := natsEq_bytes p q
      unfold bytes at this
      rcases hop with rfl | rfl
      · simp [eqGuard, binOp, Op.stringOp, this]
      · simp [eqGuard, binOp, Op.stringOp, this]
  | ref rk =>
    simp only [eqAV] at h
    have he := eqRef_sound (d := 9999) hk h hx hy
    have he' : (Op.equal t u s).run P w = .ok b w := he
    have hg : (eqGuard op t xo yo u s).run P w = .ok () w := by
      unfold eqRef at h
      split at h <;> simp only [reduceCtorEq, forall_const, imp_self, implies_true] at * <;> cases hx <;> cases hy <;> rcases hop with rfl | rfl <;> simp [eqGuard]
    have hb : ∀ op', (op' = .eql ∨ op' = .neq) → (binOp op' t u s).run P w = .ok (.bool (if op' = .neq then !b else b)) w := by
      intro op' ho
      unfold eqRef at h
      split at h <;> simp only [reduceCtorEq, forall_const, imp_self, implies_true] at * <;> cases hx <;> cases hy <;> rcases ho with rfl | rfl <;> simp only [binOp, Sem.run_bind, he', Result.andThen_ok, Sem.run_pure, reduceCtorEq, if_false, if_true]
    simp only [Sem.run_bind, hg, Result.andThen_ok]
    exact hb op hop
  | ifc =>
    have hu : ∃ ms, P.underlying t = some (.interface ms) := by
      unfold eqKind at hk
      split at hk <;> (try simp only [Option.some.injEq, reduceCtorEq] at hk)
      · exact ⟨_, by assumption⟩
      · split at hk
        · simp at hk
        · simp only [Option.map_eq_some_iff, reduceCtorEq, and_false, exists_const] at hk
    obtain ⟨ms, hu⟩ := hu
    have hc' := hc rfl
    have key : ∀ {u s : Value} {b : Bool}, (Op.equalIn (9999 + 1) t u s).run P w = .ok b w → ((∃ v : TypeId × Value, u = .nilIface ∧ s = .iface v.1 v.2) ∨ (∃ v : TypeId × Value, s = .nilIface ∧ u = .iface v.1 v.2) ∨ (u = .nilIface ∧ s = .nilIface)) →
        (do eqGuard op t xo yo u s; binOp op t u s : Sem Value).run P w = .ok (.bool (if op = .neq then !b else b)) w := by
      intro u s b he hs
      have he' : (Op.equal t u s).run P w = .ok b w := he
      have hg : (eqGuard op t xo yo u s).run P w = .ok () w := by
        rcases hs with ⟨v, rfl, rfl⟩ | ⟨v, rfl, rfl⟩ | ⟨rfl, rfl⟩ <;> rcases hop with rfl | rfl <;> rcases hc' with ⟨c, rfl⟩ | ⟨c, rfl⟩ <;> simp [eqGuard]
      simp only [Sem.run_bind, hg, Result.andThen_ok]
      rcases hs with ⟨v, rfl, rfl⟩ | ⟨v, rfl, rfl⟩ | ⟨rfl, rfl⟩ <;> rcases hop with rfl | rfl <;> simp only [binOp, Sem.run_bind, he', Result.andThen_ok, Sem.run_pure, reduceCtorEq, if_false, if_true]
    have e1 : ∀ d, (Op.equalIn (d + 1) t .nilIface .nilIface).run P w = .ok true w := fun d => by simp only [Op.equalIn, Sem.run_bind, run_underlying hu, Result.andThen_ok, Sem.run_pure]
    have e2 : ∀ d i v, (Op.equalIn (d + 1) t .nilIface (.iface i v)).run P w = .ok false w := fun d i v => by simp only [Op.equalIn, Sem.run_bind, run_underlying hu, Result.andThen_ok, Sem.run_pure]
    have e3 : ∀ d i v, (Op.equalIn (d + 1) t (.iface i v) .nilIface).run P w = .ok false w := fun d i v => by simp only [Op.equalIn, Sem.run_bind, run_underlying hu, Result.andThen_ok, Sem.run_pure]
    cases x <;> cases y <;> simp only [eqAV, reduceCtorEq, Option.some.injEq] at h <;> subst h <;> cases hx <;> cases hy
    · exact key (e1 _) (.inr (.inr ⟨rfl, rfl⟩))
    · exact key (e2 _ _ _) (.inl ⟨(_, _), rfl, rfl⟩)
    · exact key (e3 _ _ _) (.inr (.inl ⟨(_, _), rfl, rfl⟩))
  | agg ks =>
    have hu : ∃ fs, P.underlying t = some (.struct fs) ∧ P.eqGuardType P.depth t = false ∧ P.stoodInHeld t = false ∧ primFs P fs.toList 0 = some ks := by
      unfold eqKind at hk
      split at hk <;> (try simp only [Option.some.injEq, reduceCtorEq] at hk)
      split at hk
      · simp at hk
      · rename_i hn
        simp only [Option.map_eq_some_iff, EqK.agg.injEq, exists_eq_right] at hk
        simp only [Bool.or_eq_true, not_or, Bool.not_eq_true] at hn
        exact ⟨_, by assumption, hn.1, hn.2, hk⟩
    obtain ⟨fs, hu, hg, hst, hf⟩ := hu
    have hfo : P.fieldsOf t = fs := by simp [Program.fieldsOf, hu]
    cases x <;> cases y <;> simp only [eqAV, reduceCtorEq] at h
    cases hx with | agg _ _ us hx => cases hy with | agg _ _ ss hy =>
    have hf' : primFs P (P.fieldsOf t).toList 0 = some ks := by rw [hfo]; exact hf
    have he : (Op.equalIn 10000 t (.agg us) (.agg ss)).run P w = .ok b w := by
      rw [run_equalIn_agg w 9999 t us ss (by rw [hfo]; exact hu) hst]
      exact eqPrims_sound (d := 9998) hx hy hf' (by simpa using h)
    have hgd := run_eqGuard_agg (P := P) w op t xo yo us ss hg
    simp only [Sem.run_bind, hgd, Result.andThen_ok]
    rcases hop with rfl | rfl
    · rw [run_eql_struct, he]; rfl
    · rw [run_neq_struct, he]; rfl

theorem mm2_sound {mx : Bool} {x y v : AV} {u s : Value} (h : mm2 mx x y = some v) (hx : VR ι w Z nx x u) (hy : VR ι w Z nx y s) :
    ∃ r, ((if mx then Builtin.max2 else Builtin.min2) u s).run P w = .ok r w ∧ VR ι w Z nx v r := by
  cases x <;> cases y <;> simp only [mm2, reduceCtorEq] at h
  cases hx; cases hy
  split at h
  · simp only [Option.some.injEq] at h
    subst h
    cases mx
    · exact ⟨_, by simp [Builtin.min2], .int _ _ _⟩
    · exact ⟨_, by simp [Builtin.max2], .int _ _ _⟩
  · simp at h
theorem mmAll_sound {mx : Bool} : ∀ {ys : List AV} {x v : AV} {u : Value} {ss : List Value}, mmAll mx x ys = some v → VR ι w Z nx x u → VRs ι w Z nx ys ss →
    ∃ r, (ss.foldlM (if mx then Builtin.max2 else Builtin.min2) u).run P w = .ok r w ∧ VR ι w Z nx v r
  | [], x, v, u, ss, h, hx, hy => by
    cases hy
    simp [mmAll] at h; subst h
    exact ⟨u, by simp, hx⟩
  | y :: ys, x, v, u, ss, h, hx, hy => by
    cases hy with
    | cons _ _ s _ ss h1 h2 =>
      simp only [mmAll] at h
      cases hm : mm2 mx x y with
      | none => simp [hm] at h
      | some c =>
        simp [hm] at h
        obtain ⟨r, hr, hv⟩ := mm2_sound (P := P) hm hx h1
        obtain ⟨r', hr', hv'⟩ := mmAll_sound h hv h2
        exact ⟨r', by simp only [List.foldlM_cons, Sem.run_bind, hr, Result.andThen_ok]; exact hr', hv'⟩
end
end Go.Ev
