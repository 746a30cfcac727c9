/- Each instruction that only looks at its operands does in the model what the evaluator says: the rest, and all together. -/
import Derived.Test.YtkakihmhmobgoaaGreatDoorXevH
namespace Go.Ev

section
variable {ι : Emb} {w : World} {Z : Nat → Prop} {nx : Nat} {gl : Nat → AV} {tm : Tr AV} {P : Program} {a : Act}

theorem zeroT_some {t : TypeId} {z : AV} (h : zeroT P t = some z) : ∃ u, (P.info? t).bind (·.zero) = some u ∧ ofValue u = some z := by
  unfold zeroT at h
  cases hz : (P.info? t).bind (·.zero) with
  | none => rw [hz] at h; simp at h
  | some u => rw [hz] at h; exact ⟨u, rfl, h⟩

theorem fieldPlaces {fs : Array Field} {i o n : Nat} (h : ((fieldAt P fs i).map fun (o, n, _) => (o, n)) = some (o, n)) : ∃ f, fs[i]? = some f ∧ f.offset = o ∧ sizeT P f.type = some n := by
  cases hf : fieldAt P fs i with
  | none => rw [hf] at h; simp at h
  | some p =>
    obtain ⟨o', n', g⟩ := p
    rw [hf] at h
    simp only [Option.map_some, Option.some.injEq, Prod.mk.injEq] at h
    obtain ⟨rfl, rfl⟩ := h
    obtain ⟨f, h1, h2, h3, _⟩ := fieldAt_sound hf
    exact ⟨f, h1, h2, h3⟩

theorem fill_congr {p q : Nat → Option (Nat × Nat)} : ∀ {ps : List (Nat × Value)} {cs : Array Value}, (∀ x ∈ ps, p x.1 = q x.1) → Instr.fill p cs ps = Instr.fill q cs ps
  | [], _, _ => rfl
  | (i, v) :: r, cs, h => by
    simp only [Instr.fill]
    rw [h (i, v) (by simp)]
    cases q i with
    | none => rfl
    | some on =>
      obtain ⟨off, n⟩ := on
      simp only
      split
      · rfl
      · exact fill_congr fun x hx => h x (by simp [hx])
theorem ofParts_place {place : Nat → Option (Nat × Nat)} : ∀ {ps : List (Nat × Operand)} {qs : List (Nat × Nat × Eo)}, ofParts place ps = some qs → ∀ p ∈ ps, ∃ on, place p.1 = some on
  | [], _, _, p, hp => by simp at hp
  | (i, x) :: r, qs, h, p, hp => by
    simp only [ofParts] at h
    cases h1 : place i with
    | none => simp [h1] at h
    | some on =>
      cases h2 : ofOperand x with
      | none => simp [h1, h2] at h
      | some e =>
        cases h3 : ofParts place r with
        | none => simp [h1, h2, h3] at h
        | some qs' =>
          rcases List.mem_cons.1 hp with rfl | hp
          · exact ⟨on, h1⟩
          · exact ofParts_place h3 p hp

/-- The places of a struct's fields, as the model finds them. -/
theorem run_places (fs : Array Field) (hs : ∀ f ∈ fs.toList, (sizeT P f.type).isSome) :
    (fs.mapM (fun f => do pure (f.offset, ← sizeOf f.type) : Field → Sem (Nat × Nat))).run P w = .ok (fs.map fun f => (f.offset, (sizeT P f.type).getD 0)) w := by
  have key : ∀ (l : List Field), (∀ f ∈ l, (sizeT P f.type).isSome) → (l.mapM (fun f => do pure (f.offset, ← sizeOf f.type) : Field → Sem (Nat × Nat))).run P w = .ok (l.map fun f => (f.offset, (sizeT P f.type).getD 0)) w := by
    intro l
    induction l with
    | nil => intro _; simp
    | cons f r ih =>
      intro h
      obtain ⟨n, hn⟩ := Option.isSome_iff_exists.1 (h f (by simp))
      simp only [List.mapM_cons, Sem.run_bind, run_sizeT hn, Result.andThen_ok, Sem.run_pure, ih (fun g hg => h g (by simp [hg])), List.map_cons, hn, Option.getD_some]
  have h1 := key fs.toList hs
  rw [Array.mapM_eq_mapM_toList]
  simp only [Sem.run_map, h1, Result.andThen_ok]
  congr 1
  apply Array.ext'
  simp

theorem dry_build {t : TypeId} {parts : Array (Nat × Operand)} {d : Dry} {v : AV} {dst ty pos after guard} (hgl : GlR ι w Z gl) (htm : TmR ι w Z nx tm a.tmps)
    (hc : ofOp P (.build t parts) = some (.dry d)) (hev : evDry gl tm d = some v) : Yes ι w Z nx P a ⟨dst, .build t parts, ty, pos, after, guard⟩ v := by
  simp only [ofOp] at hc
  split at hc
  · rename_i fs z hu hz
    split at hc
    rotate_left
    · simp at hc
    rename_i hall
    have hall : ∀ f ∈ fs.toList, (sizeT P f.type).isSome := fun f hf => List.all_eq_true.1 hall f hf
    split at hc
    · rename_i ps hps
      simp only [Option.some.injEq, EOp.dry.injEq] at hc
      subst hc
      simp only [evDry] at hev
      split at hev
      · rename_i cs hf
        simp only [Option.some.injEq] at hev; subst hev
        obtain ⟨zu, hzu, hoz⟩ := zeroT_some hz
        have hzr := ofValue_sound (ι := ι) (w := w) (Z := Z) (nx := nx) zu z hoz
        obtain ⟨us, hfill, hv⟩ := fills_sound (a := a) hgl htm hps hf hzr.flat
        refine ⟨.agg us, ?_, .agg _ _ _ hv⟩
        have hp : ∀ x ∈ (parts.toList.map fun p => (p.1, a.eval p.2)), ((fs.map fun f => (f.offset, (sizeT P f.type).getD 0))[x.1]?) = ((fieldAt P fs x.1).map fun (o, n, _) => (o, n)) := by
          intro x hx
          simp only [List.mem_map] at hx
          obtain ⟨p, hp, rfl⟩ := hx
          obtain ⟨on, hon⟩ := ofParts_place hps p hp
          obtain ⟨o, n⟩ := on
          obtain ⟨f, h1, h2, h3⟩ := fieldPlaces hon
          rw [hon]
          simp [h1, h2, h3]
        have hfc := fill_congr (p := fun i => (fs.map fun f => (f.offset, (sizeT P f.type).getD 0))[i]?) (q := fun i => (fieldAt P fs i).map fun (o, n, _) => (o, n)) (cs := zu.cells) hp
        have e1 : (parts.map fun (i, x) => (i, a.eval x)).toList = parts.toList.map fun p => (p.1, a.eval p.2) := by simp
        simp only [execOp, Instr.build, Sem.run_bind, run_zeroT hzu, Result.andThen_ok, run_underlying hu, run_places fs hall, e1, hfc, hfill, Sem.run_pure]
      · simp at hev
    · simp at hc
  · rename_i n el z hu hz
    split at hc
    · rename_i sz hs
      split at hc
      · rename_i ps hps
        simp only [Option.some.injEq, EOp.dry.injEq] at hc
        subst hc
        simp only [evDry] at hev
        split at hev
        · rename_i cs hf
          simp only [Option.some.injEq] at hev; subst hev
          obtain ⟨zu, hzu, hoz⟩ := zeroT_some hz
          have hzr := ofValue_sound (ι := ι) (w := w) (Z := Z) (nx := nx) zu z hoz
          obtain ⟨us, hfill, hv⟩ := fills_sound (a := a) hgl htm hps hf hzr.flat
          refine ⟨.agg us, ?_, .agg _ _ _ hv⟩
          have e1 : (parts.map fun (i, x) => (i, a.eval x)).toList = parts.toList.map fun p => (p.1, a.eval p.2) := by simp
          simp only [execOp, Instr.build, Sem.run_bind, run_zeroT hzu, Result.andThen_ok, run_underlying hu, run_sizeT hs, e1, hfill, Sem.run_pure]
        · simp at hev
      · simp at hc
    · simp at hc
  · simp at hc
end
end Go.Ev
