/- A call that looks at none of the evaluator's memory, told by what it answers. -/
import Derived.Test.YtkakihmhmobgoaaGreatDoorXevZi
namespace Go.Ev

mutual
/-- It tells of no block of the evaluator's. -/
def AV.shut : AV → Bool
  | .ptr _ _ | .sl _ _ _ | .mp _ => false
  | .agg cs | .tup cs => AV.shuts cs
  | .ifc _ v => AV.shut v
  | .fn _ x y => AV.shuts x && AV.shuts y
  | _ => true
def AV.shuts : List AV → Bool
  | [] => true
  | v :: r => AV.shut v && AV.shuts r
end

mutual
theorem VR.shut {ι ι' : Emb} {w : World} {Z : Nat → Prop} {nx nx' : Nat} {v : AV} {u : Value} (h : VR ι w Z nx v u) (hs : v.shut = true) : VR ι' w Z nx' v u :=
  match h with
  | .bad _ v => .bad _ _
  | .bool _ b => .bool _ _
  | .int _ k n => .int _ _ _
  | .str _ s => .str _ _
  | .nilp _ => .nilp _
  | .ptr _ id off h => by simp [AV.shut] at hs
  | .cptr _ v b o vs h1 h2 h3 => .cptr _ _ _ _ vs h1 h2 (h3.mono (fun i hi => absurd hi (Nat.not_lt_zero i)) (fun _ h => ⟨h, rfl⟩) (Nat.le_refl 0))
  | .nils _ => .nils _
  | .sl _ id off len cap h hl hc => by simp [AV.shut] at hs
  | .sl0 _ id off a h => by simp [AV.shut] at hs
  | .lst0 _ a cap => .lst0 _ _ _
  | .lst _ es b o cap sz vs hl h1 h2 hs h3 => .lst _ es b o cap sz vs hl h1 h2 hs (h3.mono (fun i hi => absurd hi (Nat.not_lt_zero i)) (fun _ h => ⟨h, rfl⟩) (Nat.le_refl 0))
  | .nilm _ => .nilm _
  | .mp _ id h => by simp [AV.shut] at hs
  | .nilf _ => .nilf _
  | .fn _ f xs ys us vs hx hy => .fn _ f xs ys us vs (hx.shut (by simp [AV.shut] at hs; exact hs.1)) (hy.shut (by simp [AV.shut] at hs; exact hs.2))
  | .nili _ => .nili _
  | .ifc _ t v u h => .ifc _ t v u (h.shut (by simpa [AV.shut] using hs))
  | .agg _ cs vs h => .agg _ cs vs (h.shut (by simpa [AV.shut] using hs))
  | .tup _ cs vs h => .tup _ cs vs (h.shut (by simpa [AV.shut] using hs))
  | .any _ u h => .any _ u h
  | .mint _ k b m n h => .mint _ k b m n h
theorem VRs.shut {ι ι' : Emb} {w : World} {Z : Nat → Prop} {nx nx' : Nat} {v : List AV} {u : List Value} (h : VRs ι w Z nx v u) (hs : AV.shuts v = true) : VRs ι' w Z nx' v u :=
  match h with
  | .nil _ => .nil _
  | .cons _ v u vs us h t => .cons _ v u vs us (h.shut (by simp [AV.shuts] at hs; exact hs.1)) (t.shut (by simp [AV.shuts] at hs; exact hs.2))
end

section
variable {P : Program} {E : Env}
theorem said_of (he : EnvOk P E) {f : FuncId} {r : List AV → Option AV} (h : ∀ args v, r args = some v → v.shut = true ∧ AV.shuts args = true ∧ ∃ n s', callF E n 0 f args ⟨.lf, 0⟩ = some (.ret v, s')) :
    OwnOk P E.gl f (.said r) := by
  intro lo args s out s' us ι w Z hev hr hgl hv
  simp only [ownRun] at hev
  split at hev
  · rename_i v hrv
    simp only [Option.some.injEq, Prod.mk.injEq] at hev
    obtain ⟨rfl, rfl⟩ := hev
    obtain ⟨hs, has, n, s1, hcall⟩ := h args v hrv
    refine Calls.mono (callF_sound he hcall (rel_start hr.zlt) hgl (hv.shut has)) ?_
    rintro e w' ⟨ι', Z', h1, h2, h3⟩
    have hkept : ∀ b, b < w.heap.size → w'.heap[b]? = w.heap[b]? := fun b hb => h3.kept b hb fun id _ hs => by simp at hs
    have hz : ∀ b, Z b → Z' b ∧ w'.heap[b]? = w.heap[b]? := fun b hb => ⟨h3.zmono b hb, hkept b (hr.zlt b hb)⟩
    have hznew : ∀ b, b < w.heap.size → Z' b → Z b := by
      intro b hb hb'
      rcases h3.znew b hb' with h | h | ⟨id, _, h, _⟩
      · exact h
      · omega
      · simp at h
    refine ⟨ι, Z', ?_, ⟨?_, fun i j b c hb hc hne => hr.inj i j b c hb hc hne, fun b hb => h2.zlt b hb⟩, ⟨.refl _ _, Nat.le_refl _, h3.zmono, ?_, fun b hb _ => hkept b hb, h3.size, fun id hid => .inr ⟨id, hid, rfl, .inr rfl⟩, h3.os, h3.tape, h3.output⟩⟩
    · cases h1 with
      | ret _ u hu => exact .ret _ _ (hu.shut hs)
    · intro id b hb
      obtain ⟨q1, q2, q3, q4⟩ := hr.blk id b hb
      exact ⟨q1, Nat.lt_of_lt_of_le q2 h3.size, fun hz' => q3 (hznew _ q2 hz'), q4.mono (.refl _ _) q1 hz (Nat.le_refl _) (hkept _ q2)⟩
    · intro b hb
      rcases h3.znew b hb with h | h | ⟨id, _, h, _⟩
      · exact .inl h
      · exact .inr (.inl h)
      · simp at h
  · simp at hev

/-- The table's functions, some of them told. -/
def tell (E : Env) (L : List (Nat × (List AV → Option AV))) : Env where
  gl := E.gl
  fns := fun k => match L.find? (fun p => Nat.beq p.1 k) with | some p => some { own := some (.said p.2), body := .skip, res := [], ntmps := 0, pure := false } | none => E.fns k

theorem envOk_tell (he : EnvOk P E) {L : List (Nat × (List AV → Option AV))} (hL : ∀ p ∈ L, (E.fns p.1).isSome = true ∧ OwnOk P E.gl p.1 (.said p.2)) : EnvOk P (tell E L) := by
  refine ⟨?_, ?_, he.mixed⟩
  · intro f F hF
    simp only [tell] at hF
    split at hF
    · rename_i p hp
      have hk := List.find?_some hp
      have hf : p.1 = f := Nat.eq_of_beq_eq_true hk
      obtain ⟨h1, _⟩ := hL p (List.mem_of_find?_eq_some hp)
      obtain ⟨F0, hF0⟩ := Option.isSome_iff_exists.1 h1
      rw [hf] at hF0
      obtain ⟨fn, a, b, c, _⟩ := he.fns f F0 hF0
      simp only [Option.some.injEq] at hF
      subst hF
      exact ⟨fn, a, b, c, fun h => by simp at h⟩
    · exact he.fns f F hF
  · intro f F o hF ho
    simp only [tell] at hF
    split at hF
    · rename_i p hp
      have hk := List.find?_some hp
      have hf : p.1 = f := Nat.eq_of_beq_eq_true hk
      obtain ⟨_, h2⟩ := hL p (List.mem_of_find?_eq_some hp)
      simp only [Option.some.injEq] at hF
      subst hF
      simp only [Option.some.injEq] at ho
      subst ho
      rw [← hf]
      exact h2
    · exact he.own f F o hF ho

/-- A call without arguments that answers a plain truth, told. -/
def truth : List AV → Option AV
  | [] => some (.bool true)
  | _ => none
theorem said_truth (he : EnvOk P E) {f : FuncId} {n : Nat} (h : answers true (callF E n 0 f [] ⟨.lf, 0⟩) = true) : OwnOk P E.gl f (.said truth) := by
  refine said_of he ?_
  intro args v hv
  obtain ⟨s', hs⟩ := answers_some h
  cases args with
  | nil => simp only [truth, Option.some.injEq] at hv; subst hv; exact ⟨rfl, rfl, n, s', hs⟩
  | cons => simp [truth] at hv

/-- The same functions, some of them taken as ones that write nothing that was there. -/
def pures (E : Env) (L : List Nat) : Env where
  gl := E.gl
  fns := fun k => match E.fns k with | some F => (match L.any (Nat.beq k) with | true => some { F with pure := true } | false => some F) | none => none
theorem envOk_pures (he : EnvOk P E) {L : List Nat} : EnvOk P (pures E L) := by
  have key : ∀ f F, (pures E L).fns f = some F → ∃ F0, E.fns f = some F0 ∧ F0.own = F.own ∧ F0.body = F.body ∧ F0.res = F.res ∧ F0.ntmps = F.ntmps := by
    intro f F hF
    simp only [pures] at hF
    split at hF
    · rename_i F0 hF0
      split at hF <;> (simp only [Option.some.injEq] at hF; subst hF; exact ⟨F0, hF0, rfl, rfl, rfl, rfl⟩)
    · simp at hF
  refine ⟨?_, ?_, he.mixed⟩
  · intro f F hF
    obtain ⟨F0, h0, h1, h2, h3, _⟩ := key f F hF
    have := he.fns f F0 h0
    rw [h1, h2, h3] at this
    exact this
  · intro f F o hF ho
    obtain ⟨F0, h0, h1, _⟩ := key f F hF
    exact he.own f F0 o h0 (h1.trans ho)

mutual
def AV.eqb : AV → AV → Bool
  | .bad, .bad | .nilp, .nilp | .nils, .nils | .nilm, .nilm | .nilf, .nilf | .nili, .nili => true
  | .bool a, .bool b => a == b
  | .int k a, .int k' b => decide (k = k') && decide (a = b)
  | .str a, .str b => natsEq a b
  | .cptr a, .cptr b => AV.eqb a b
  | .lst a, .lst b => AV.eqbs a b
  | .fn f x y, .fn g x' y' => Nat.beq f g && AV.eqbs x x' && AV.eqbs y y'
  | .ifc t v, .ifc u w => Nat.beq t u && AV.eqb v w
  | .agg a, .agg b => AV.eqbs a b
  | .tup a, .tup b => AV.eqbs a b
  | _, _ => false
def AV.eqbs : List AV → List AV → Bool
  | [], [] => true
  | a :: x, b :: y => AV.eqb a b && AV.eqbs x y
  | _, _ => false
end
theorem natsEq_eq : ∀ {a b : List Nat}, natsEq a b = true → a = b
  | [], [], _ => rfl
  | a :: x, b :: y, h => by
    simp only [natsEq, Bool.and_eq_true] at h
    rw [Nat.eq_of_beq_eq_true h.1, natsEq_eq h.2]
  | [], _ :: _, h => by simp [natsEq] at h
  | _ :: _, [], h => by simp [natsEq] at h
mutual
theorem AV.eqb_eq : ∀ {a b : AV}, AV.eqb a b = true → a = b
  | .bad, b, h => by cases b <;> simp [AV.eqb] at h; rfl
  | .nilp, b, h => by cases b <;> simp [AV.eqb] at h; rfl
  | .nils, b, h => by cases b <;> simp [AV.eqb] at h; rfl
  | .nilm, b, h => by cases b <;> simp [AV.eqb] at h; rfl
  | .nilf, b, h => by cases b <;> simp [AV.eqb] at h; rfl
  | .nili, b, h => by cases b <;> simp [AV.eqb] at h; rfl
  | .bool a, b, h => by cases b <;> simp [AV.eqb] at h; subst h; rfl
  | .int k a, b, h => by cases b <;> simp [AV.eqb] at h; obtain ⟨rfl, rfl⟩ := h; rfl
  | .str a, b, h => by cases b <;> simp [AV.eqb] at h; rw [natsEq_eq h]
  | .cptr a, b, h => by cases b <;> simp [AV.eqb] at h; rw [AV.eqb_eq h]
  | .lst a, b, h => by cases b <;> simp [AV.eqb] at h; rw [AV.eqbs_eq h]
  | .fn f x y, b, h => by cases b <;> simp [AV.eqb] at h; rw [h.1.1, AV.eqbs_eq h.1.2, AV.eqbs_eq h.2]
  | .ifc t v, b, h => by cases b <;> simp [AV.eqb] at h; rw [h.1, AV.eqb_eq h.2]
  | .agg a, b, h => by cases b <;> simp [AV.eqb] at h; rw [AV.eqbs_eq h]
  | .tup a, b, h => by cases b <;> simp [AV.eqb] at h; rw [AV.eqbs_eq h]
  | .ptr _ _, b, h => by cases b <;> simp [AV.eqb] at h
  | .sl _ _ _, b, h => by cases b <;> simp [AV.eqb] at h
  | .mp _, b, h => by cases b <;> simp [AV.eqb] at h
  | .any, b, h => by cases b <;> simp [AV.eqb] at h
  | .mint _ _ _, b, h => by cases b <;> simp [AV.eqb] at h
theorem AV.eqbs_eq : ∀ {a b : List AV}, AV.eqbs a b = true → a = b
  | [], [], _ => rfl
  | a :: x, b :: y, h => by
    simp only [AV.eqbs, Bool.and_eq_true] at h
    rw [AV.eqb_eq h.1, AV.eqbs_eq h.2]
  | [], _ :: _, h => by simp [AV.eqbs] at h
  | _ :: _, [], h => by simp [AV.eqbs] at h
end

/-- What calls with just these arguments answer. -/
def saidL : List (List AV × AV) → List AV → Option AV
  | [], _ => none
  | (a, v) :: r, args => match AV.eqbs args a with | true => some v | false => saidL r args
def answersV (v : AV) : Option (AOut × St) → Bool
  | some (.ret u, _) => AV.eqb u v
  | _ => false
/-- Such a call, run. -/
structure ToldAs (E : Env) (f : FuncId) (p : List AV × AV) : Prop where
  shutV : p.2.shut = true
  shutA : AV.shuts p.1 = true
  run : ∃ n s', callF E n 0 f p.1 ⟨.lf, 0⟩ = some (.ret p.2, s')
theorem told_of {f : FuncId} {a : List AV} {v : AV} {n : Nat} (h : (v.shut && AV.shuts a && answersV v (callF E n 0 f a ⟨.lf, 0⟩)) = true) : ToldAs E f (a, v) := by
  simp only [Bool.and_eq_true] at h
  refine ⟨h.1.1, h.1.2, n, ?_⟩
  have h2 := h.2
  unfold answersV at h2
  split at h2
  · rename_i u s' hc
    have := AV.eqb_eq h2
    subst this
    exact ⟨s', hc⟩
  · simp at h2
theorem said_list (he : EnvOk P E) {f : FuncId} {l : List (List AV × AV)} (h : ∀ p ∈ l, ToldAs E f p) : OwnOk P E.gl f (.said (saidL l)) := by
  refine said_of he ?_
  intro args v hv
  induction l with
  | nil => simp [saidL] at hv
  | cons p r ih =>
    obtain ⟨a, u⟩ := p
    simp only [saidL] at hv
    split at hv
    · rename_i hb
      simp only [Option.some.injEq] at hv
      subst hv
      have := AV.eqbs_eq hb
      subst this
      have ht := h _ (List.mem_cons_self ..)
      obtain ⟨n, s', hc⟩ := ht.run
      exact ⟨ht.shutV, ht.shutA, n, s', hc⟩
    · exact ih (fun p hp => h p (List.mem_cons_of_mem _ hp)) hv
end
end Go.Ev
