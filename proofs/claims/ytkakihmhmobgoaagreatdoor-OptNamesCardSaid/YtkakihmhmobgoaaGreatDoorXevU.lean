/- The run of code: sequences, branches, loops, scopes. -/
import Derived.Test.YtkakihmhmobgoaaGreatDoorXevT
namespace Go.Ev

section
variable {P : Program} {E : Env} {Q : Exit → Act → World → Prop}
/-- Code within a loop. -/
def InLoop (P : Program) (body : Code) (Q : Exit → Act → World → Prop) (a : Act) (w : World) : Prop :=
  ∀ (b : Frame) (k : List Item) (cs : List Frame), ∃ e a' w', Q e a' w' ∧ Arrives P (lone (b.at a (.code body :: .inLoop body :: k)) cs w) b k cs e a' w'
theorem inLoop_of {body : Code} {a : Act} {w : World} (h : body.wp P (Exit.then (InLoop P body Q) Q) a w) : InLoop P body Q a w := by
  intro b k cs
  obtain ⟨e, a₁, w₁, hq, harr⟩ := h b (.inLoop body :: k) cs
  cases e with
  | normal =>
    obtain ⟨e₂, a₂, w₂, hq₂, harr₂⟩ := hq b k cs
    exact ⟨e₂, a₂, w₂, hq₂, .of_steps (Steps.trans harr (.one step_inLoop)) harr₂⟩
  | exit id => exact ⟨_, a₁, w₁, hq, .pass (x := .inLoop body) rfl (fun _ _ => .inl (by simp)) harr⟩
  | goto l => exact ⟨_, a₁, w₁, hq, .pass (x := .inLoop body) rfl (fun _ _ => .inl (by simp)) harr⟩
  | ret => exact ⟨_, a₁, w₁, hq, .pass (x := .inLoop body) rfl (fun _ _ => .inl (by simp)) harr⟩
  | panic ch => exact ⟨_, a₁, w₁, hq, .pass (x := .inLoop body) rfl (fun _ _ => .inl (by simp)) harr⟩
  | outgrown => exact ⟨_, a₁, w₁, hq, .pass (x := .inLoop body) rfl (fun _ _ => .inl (by simp)) harr⟩
theorem wp_of_inLoop {body : Code} {a : Act} {w : World} (h : InLoop P body Q a w) : (Code.loop body).wp P Q a w :=
  fun b k cs => let ⟨e, a', w', q, r⟩ := h b k cs; ⟨e, a', w', q, .of_steps (.one step_loop) r⟩
/-- What a jump to a label does within a scope. -/
def scopeQ (P : Program) (body : Code) (Q : Exit → Act → World → Prop) : Exit → Act → World → Prop
  | .goto l, a, w => match Go.findLabel body l with | some rest => InScope P body Q rest a w | none => Q (.goto l) a w
  | e, a, w => Q e a w
theorem inScope_of {body c : Code} {a : Act} {w : World} (h : c.wp P (scopeQ P body Q) a w) : InScope P body Q c a w := by
  intro b k cs
  obtain ⟨e, a₁, w₁, hq, harr⟩ := h b (.inScope body :: k) cs
  cases e with
  | normal => exact ⟨.normal, a₁, w₁, hq, Steps.trans harr (.one step_inScope)⟩
  | exit id => exact ⟨.exit id, a₁, w₁, hq, fun k' hk => harr k' (by simp [exitTo, hk])⟩
  | goto l =>
    simp only [scopeQ] at hq
    cases hl : Go.findLabel body l with
    | some rest =>
      rw [hl] at hq
      obtain ⟨e₂, a₂, w₂, hq₂, harr₂⟩ := hq b k cs
      exact ⟨e₂, a₂, w₂, hq₂, .of_steps (harr _ (by simp [gotoIn, hl])) harr₂⟩
    | none =>
      rw [hl] at hq
      exact ⟨.goto l, a₁, w₁, hq, fun k' hk => harr k' (by simp [gotoIn, hl, hk])⟩
  | ret => exact ⟨_, a₁, w₁, hq, harr⟩
  | panic ch => exact ⟨_, a₁, w₁, hq, harr⟩
  | outgrown => exact ⟨_, a₁, w₁, hq, harr⟩
theorem wp_of_inScope {body : Code} {a : Act} {w : World} (h : InScope P body Q body a w) : (Code.scope body).wp P Q a w :=
  fun b k cs => let ⟨e, a', w', q, r⟩ := h b k cs; ⟨e, a', w', q, .of_steps (.one step_scope) r⟩

theorem findLabel_sound {N : Nat} : ∀ {c : Code} {e : ECode} (l : Nat), ofCode P c = some e → e.ok N = true →
    match findLabel e l with
    | some r => ∃ rc, Go.findLabel c l = some rc ∧ ofCode P rc = some r ∧ r.ok N = true
    | none => Go.findLabel c l = none := by
  intro c
  induction c with
  | seq a b iha ihb =>
    intro e l h hok
    simp only [ofCode] at h
    split at h
    · rename_i ea eb ha hb
      simp only [Option.some.injEq] at h; subst h
      simp only [ECode.ok, Bool.and_eq_true] at hok
      have h1 := iha l ha hok.1
      have h2 := ihb l hb hok.2
      simp only [findLabel, Go.findLabel]
      cases hfa : findLabel ea l with
      | some r =>
        rw [hfa] at h1
        obtain ⟨rc, e1, e2, e3⟩ := h1
        exact ⟨.seq rc b, by rw [e1], by simp [ofCode, e2, hb], by simp [ECode.ok, e3, hok.2]⟩
      | none =>
        rw [hfa] at h1
        simp only [h1]
        exact h2
    · simp at h
  | label l' =>
    intro e l h hok
    simp only [ofCode, Option.some.injEq] at h; subst h
    simp only [findLabel, Go.findLabel]
    by_cases hl : l' = l
    · simp [hl, ofCode, ECode.ok]
    · simp [hl]
  | region id ops draw =>
    intro e l h hok
    simp only [ofCode] at h
    split at h
    · simp at h
    · split at h
      · simp only [Option.some.injEq] at h; subst h; rfl
      · split at h
        · simp only [Option.some.injEq] at h; subst h; rfl
        · simp only [Option.some.injEq] at h; subst h; rfl
  | cond c a b iha ihb =>
    intro e l h hok
    simp only [ofCode] at h
    split at h
    · simp only [Option.some.injEq] at h; subst h; rfl
    · simp at h
  | block id b ih =>
    intro e l h hok
    simp only [ofCode, Option.map_eq_some_iff] at h
    obtain ⟨x, _, rfl⟩ := h; rfl
  | loop b ih =>
    intro e l h hok
    simp only [ofCode, Option.map_eq_some_iff] at h
    obtain ⟨x, _, rfl⟩ := h; rfl
  | scope b ih =>
    intro e l h hok
    simp only [ofCode, Option.map_eq_some_iff] at h
    obtain ⟨x, _, rfl⟩ := h; rfl
  | _ => intro e l h hok; simp only [ofCode, Option.some.injEq] at h; subst h; rfl

def LoopS (P : Program) (E : Env) (n : Nat) : Prop := ∀ (lo : Nat) (b : ECode) (fr : Fr) (s : St) (e : Ex) (fr' : Fr) (s' : St) (body : Code) (N : Nat) (ι : Emb) (w : World) (Z : Nat → Prop) (a : Act)
  (Q : Exit → Act → World → Prop), exec E n lo (.loop b) fr s = some (e, fr', s') → ofCode P body = some b → b.ok N = true → SR E.gl N ι w Z s fr a →
  (∀ x a' w', PostX E.gl N lo ι w Z s e fr' s' x a' w' → Q x a' w') → InLoop P body Q a w

theorem loop_step {n : Nat} (ihE : ExecS P E n) (ihL : LoopS P E n) : LoopS P E (n + 1) := by
  intro lo b fr s e fr' s' body N ι w Z a Q hev hb hok hsr hq
  simp only [exec] at hev
  apply inLoop_of
  cases hx : exec E n lo b fr s with
  | none => rw [hx] at hev; simp at hev
  | some r =>
    obtain ⟨e1, fr1, s1⟩ := r
    refine ihE _ _ _ _ _ _ _ _ _ _ _ _ _ _ hx hb hok hsr ?_
    rintro x a' w' ⟨ι1, Z1, hex, hsr1, hext⟩
    rw [hx] at hev
    cases hex with
    | nrm => exact ihL _ _ _ _ _ _ _ _ _ _ _ _ _ _ hev hb hok hsr1 fun x a' w' p => hq x a' w' (p.trans hext)
    | exit id => simp only [Option.some.injEq, Prod.mk.injEq] at hev; obtain ⟨rfl, rfl, rfl⟩ := hev; exact hq _ _ _ ⟨ι1, Z1, .exit id, hsr1, hext⟩
    | goto l => simp only [Option.some.injEq, Prod.mk.injEq] at hev; obtain ⟨rfl, rfl, rfl⟩ := hev; exact hq _ _ _ ⟨ι1, Z1, .goto l, hsr1, hext⟩
    | ret => simp only [Option.some.injEq, Prod.mk.injEq] at hev; obtain ⟨rfl, rfl, rfl⟩ := hev; exact hq _ _ _ ⟨ι1, Z1, .ret, hsr1, hext⟩
    | pan v u h => simp only [Option.some.injEq, Prod.mk.injEq] at hev; obtain ⟨rfl, rfl, rfl⟩ := hev; exact hq _ _ _ ⟨ι1, Z1, .pan v u h, hsr1, hext⟩

theorem scope_rest {n : Nat} (ihS : ScopeS P E n) {lo : Nat} {b : ECode} {body : Code} {N : Nat} {ι ι1 : Emb} {w w1 : World} {Z Z1 : Nat → Prop} {s s1 s' : St} {e1 e : Ex} {fr1 fr' : Fr} {x : Exit} {a1 : Act}
    (hev : (match (some (e1, fr1, s1) : Option (Ex × Fr × St)) with
      | some (.goto l, fr, s) => match findLabel b l with | some c => scopeRun E n lo b c fr s | none => some (.goto l, fr, s)
      | r => r) = some (e, fr', s')) (hb : ofCode P body = some b) (hok : b.ok N = true) (hex : ExR ι1 w1 Z1 s1.nx e1 x) (hsr1 : SR E.gl N ι1 w1 Z1 s1 fr1 a1) (hext : Ext ι w Z s.nx lo s.H.get ι1 w1 Z1 s1.nx s1.H.get)
    (hq : ∀ x a' w', PostX E.gl N lo ι w Z s e fr' s' x a' w' → Q x a' w') : scopeQ P body Q x a1 w1 := by
  cases hex with
  | goto l =>
    simp only [scopeQ]
    have hfl := findLabel_sound (N := N) l hb hok
    simp only at hev
    cases hl : findLabel b l with
    | some c =>
      rw [hl] at hfl hev
      obtain ⟨rc, h1, h2, h3⟩ := hfl
      rw [h1]
      exact ihS _ _ _ _ _ _ _ _ _ _ _ _ _ _ _ _ hev hb hok h2 h3 hsr1 fun x a' w' p => hq x a' w' (p.trans hext)
    | none =>
      rw [hl] at hfl hev
      rw [hfl]
      simp only [Option.some.injEq, Prod.mk.injEq] at hev; obtain ⟨rfl, rfl, rfl⟩ := hev
      exact hq _ _ _ ⟨ι1, Z1, .goto l, hsr1, hext⟩
  | nrm => simp only [Option.some.injEq, Prod.mk.injEq] at hev; obtain ⟨rfl, rfl, rfl⟩ := hev; exact hq _ _ _ ⟨ι1, Z1, .nrm, hsr1, hext⟩
  | exit id => simp only [Option.some.injEq, Prod.mk.injEq] at hev; obtain ⟨rfl, rfl, rfl⟩ := hev; exact hq _ _ _ ⟨ι1, Z1, .exit id, hsr1, hext⟩
  | ret => simp only [Option.some.injEq, Prod.mk.injEq] at hev; obtain ⟨rfl, rfl, rfl⟩ := hev; exact hq _ _ _ ⟨ι1, Z1, .ret, hsr1, hext⟩
  | pan v u h => simp only [Option.some.injEq, Prod.mk.injEq] at hev; obtain ⟨rfl, rfl, rfl⟩ := hev; exact hq _ _ _ ⟨ι1, Z1, .pan v u h, hsr1, hext⟩

theorem scope_step {n : Nat} (ihE : ExecS P E n) (ihS : ScopeS P E n) : ScopeS P E (n + 1) := by
  intro lo b c fr s e fr' s' body cc N ι w Z a Q hev hb hbok hc hcok hsr hq
  simp only [scopeRun] at hev
  apply inScope_of
  cases hx : exec E n lo c fr s with
  | none => rw [hx] at hev; simp at hev
  | some r =>
    obtain ⟨e1, fr1, s1⟩ := r
    rw [hx] at hev
    refine ihE _ _ _ _ _ _ _ _ _ _ _ _ _ _ hx hc hcok hsr ?_
    rintro x a' w' ⟨ι1, Z1, hex, hsr1, hext⟩
    exact scope_rest ihS hev hb hbok hex hsr1 hext hq

theorem exec_step {n : Nat} (ihE : ExecS P E n) (ihO : OpsS P E n) (ihS : ScopeS P E n) (ihD : DrawS P E n) (ihL : LoopS P E (n + 1)) : ExecS P E (n + 1) := by
  intro lo c fr s e fr' s' cc N ι w Z a Q hev hc hok hsr hq
  cases cc with
  | skip =>
    simp only [ofCode, Option.some.injEq] at hc; subst hc
    simp only [exec, Option.some.injEq, Prod.mk.injEq] at hev; obtain ⟨rfl, rfl, rfl⟩ := hev
    exact wp_skip (hq _ _ _ ⟨ι, Z, .nrm, hsr, .refl⟩)
  | label l =>
    simp only [ofCode, Option.some.injEq] at hc; subst hc
    simp only [exec, Option.some.injEq, Prod.mk.injEq] at hev; obtain ⟨rfl, rfl, rfl⟩ := hev
    exact wp_label (hq _ _ _ ⟨ι, Z, .nrm, hsr, .refl⟩)
  | exit id =>
    simp only [ofCode, Option.some.injEq] at hc; subst hc
    simp only [exec, Option.some.injEq, Prod.mk.injEq] at hev; obtain ⟨rfl, rfl, rfl⟩ := hev
    exact wp_exit (hq _ _ _ ⟨ι, Z, .exit id, hsr, .refl⟩)
  | goto l =>
    simp only [ofCode, Option.some.injEq] at hc; subst hc
    simp only [exec, Option.some.injEq, Prod.mk.injEq] at hev; obtain ⟨rfl, rfl, rfl⟩ := hev
    exact wp_goto (hq _ _ _ ⟨ι, Z, .goto l, hsr, .refl⟩)
  | ret =>
    simp only [ofCode, Option.some.injEq] at hc; subst hc
    simp only [exec, Option.some.injEq, Prod.mk.injEq] at hev; obtain ⟨rfl, rfl, rfl⟩ := hev
    exact wp_ret (hq _ _ _ ⟨ι, Z, .ret, hsr, .refl⟩)
  | rangeFunc _ _ _ _ => simp only [ofCode, Option.some.injEq] at hc; subst hc; simp [exec] at hev
  | refuse _ => simp only [ofCode, Option.some.injEq] at hc; subst hc; simp [exec] at hev
  | region id ops draw =>
    have hc0 := hc
    simp only [ofCode] at hc
    split at hc
    · simp at hc
    · rename_i es hes
      split at hc
      · simp only [Option.some.injEq] at hc; subst hc
        simp only [exec] at hev
        refine wp_region (ihO _ _ _ _ _ _ _ _ ops.toList _ N ι w Z a Q hev ?_ hes hok hsr hq)
        apply List.ext_getElem?
        intro i
        simp only [List.getElem?_map]
        by_cases hi : i < ops.size
        · simp [List.getElem?_range hi, hi]
        · simp [hi, List.getElem?_eq_none (show (List.range ops.size).length ≤ i by simpa using hi)]
      · split at hc
        · simp only [Option.some.injEq] at hc; subst hc
          simp only [exec] at hev
          exact ihD _ _ _ _ _ _ _ _ _ _ _ _ _ _ _ hev hc0 hok hsr hq
        · simp only [Option.some.injEq] at hc; subst hc; simp [exec] at hev
  | seq x y =>
    simp only [ofCode] at hc
    split at hc
    · rename_i ex ey hx hy
      simp only [Option.some.injEq] at hc; subst hc
      simp only [ECode.ok, Bool.and_eq_true] at hok
      simp only [exec] at hev
      apply wp_seq
      cases h1 : exec E n lo ex fr s with
      | none => rw [h1] at hev; simp at hev
      | some r =>
        obtain ⟨e1, fr1, s1⟩ := r
        rw [h1] at hev
        refine ihE _ _ _ _ _ _ _ _ _ _ _ _ _ _ h1 hx hok.1 hsr ?_
        rintro x' a' w' ⟨ι1, Z1, hex, hsr1, hext⟩
        cases hex with
        | nrm => exact ihE _ _ _ _ _ _ _ _ _ _ _ _ _ _ hev hy hok.2 hsr1 fun x a' w' p => hq x a' w' (p.trans hext)
        | exit id => simp only [Option.some.injEq, Prod.mk.injEq] at hev; obtain ⟨rfl, rfl, rfl⟩ := hev; exact hq _ _ _ ⟨ι1, Z1, .exit id, hsr1, hext⟩
        | goto l => simp only [Option.some.injEq, Prod.mk.injEq] at hev; obtain ⟨rfl, rfl, rfl⟩ := hev; exact hq _ _ _ ⟨ι1, Z1, .goto l, hsr1, hext⟩
        | ret => simp only [Option.some.injEq, Prod.mk.injEq] at hev; obtain ⟨rfl, rfl, rfl⟩ := hev; exact hq _ _ _ ⟨ι1, Z1, .ret, hsr1, hext⟩
        | pan v u h => simp only [Option.some.injEq, Prod.mk.injEq] at hev; obtain ⟨rfl, rfl, rfl⟩ := hev; exact hq _ _ _ ⟨ι1, Z1, .pan v u h, hsr1, hext⟩
    · simp at hc
  | cond c x y =>
    simp only [ofCode] at hc
    split at hc
    · rename_i ec ex ey hcc hx hy
      simp only [Option.some.injEq] at hc; subst hc
      simp only [ECode.ok, Bool.and_eq_true] at hok
      simp only [exec] at hev
      have hv := eo_sound (a := a) hsr.gl hsr.tm hcc
      generalize hcv : a.eval c = cv at hv
      split at hev
      · rename_i hb
        rw [hb] at hv
        cases hv
        exact wp_cond_true hcv (ihE _ _ _ _ _ _ _ _ _ _ _ _ _ _ hev hx hok.1 hsr hq)
      · rename_i hb
        rw [hb] at hv
        cases hv
        exact wp_cond_false hcv (ihE _ _ _ _ _ _ _ _ _ _ _ _ _ _ hev hy hok.2 hsr hq)
      · simp at hev
    · simp at hc
  | block id b =>
    simp only [ofCode, Option.map_eq_some_iff] at hc
    obtain ⟨eb, hb, rfl⟩ := hc
    simp only [exec] at hev
    apply wp_block
    cases h1 : exec E n lo eb fr s with
    | none => rw [h1] at hev; simp at hev
    | some r =>
      obtain ⟨e1, fr1, s1⟩ := r
      rw [h1] at hev
      refine ihE _ _ _ _ _ _ _ _ _ _ _ _ _ _ h1 hb hok hsr ?_
      rintro x' a' w' ⟨ι1, Z1, hex, hsr1, hext⟩
      cases hex with
      | exit i =>
        simp only [Option.some.injEq, Prod.mk.injEq] at hev; obtain ⟨rfl, rfl, rfl⟩ := hev
        simp only [Exit.inBlock]
        split
        · rename_i hid; rw [if_pos hid] at hq; exact hq _ _ _ ⟨ι1, Z1, .nrm, hsr1, hext⟩
        · rename_i hid; rw [if_neg hid] at hq; exact hq _ _ _ ⟨ι1, Z1, .exit i, hsr1, hext⟩
      | nrm => simp only [Option.some.injEq, Prod.mk.injEq] at hev; obtain ⟨rfl, rfl, rfl⟩ := hev; exact hq _ _ _ ⟨ι1, Z1, .nrm, hsr1, hext⟩
      | goto l => simp only [Option.some.injEq, Prod.mk.injEq] at hev; obtain ⟨rfl, rfl, rfl⟩ := hev; exact hq _ _ _ ⟨ι1, Z1, .goto l, hsr1, hext⟩
      | ret => simp only [Option.some.injEq, Prod.mk.injEq] at hev; obtain ⟨rfl, rfl, rfl⟩ := hev; exact hq _ _ _ ⟨ι1, Z1, .ret, hsr1, hext⟩
      | pan v u h => simp only [Option.some.injEq, Prod.mk.injEq] at hev; obtain ⟨rfl, rfl, rfl⟩ := hev; exact hq _ _ _ ⟨ι1, Z1, .pan v u h, hsr1, hext⟩
  | loop b =>
    simp only [ofCode, Option.map_eq_some_iff] at hc
    obtain ⟨eb, hb, rfl⟩ := hc
    exact wp_of_inLoop (ihL _ _ _ _ _ _ _ _ _ _ _ _ _ _ hev hb hok hsr hq)
  | scope b =>
    simp only [ofCode, Option.map_eq_some_iff] at hc
    obtain ⟨eb, hb, rfl⟩ := hc
    simp only [exec] at hev
    apply wp_of_inScope
    apply inScope_of
    cases h1 : exec E n lo eb fr s with
    | none => rw [h1] at hev; simp at hev
    | some r =>
      obtain ⟨e1, fr1, s1⟩ := r
      rw [h1] at hev
      refine ihE _ _ _ _ _ _ _ _ _ _ _ _ _ _ h1 hb hok hsr ?_
      rintro x a' w' ⟨ι1, Z1, hex, hsr1, hext⟩
      exact scope_rest ihS hev hb hok hex hsr1 hext hq
end
end Go.Ev
