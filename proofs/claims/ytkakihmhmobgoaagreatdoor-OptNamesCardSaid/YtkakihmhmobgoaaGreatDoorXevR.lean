/- Every instruction that looks at memory, or makes some, does in the model what the evaluator says. -/
import Derived.Test.YtkakihmhmobgoaaGreatDoorXevQ
namespace Go.Ev

section
variable {ι : Emb} {w : World} {Z : Nat → Prop} {lo : Nat} {gl : Nat → AV} {tm : Tr AV} {P : Program} {a : Act} {s s' : St}

theorem wet_newMap {res : Result Next} (r : Rel ι w Z s.nx s.H.get) (h : res = .ok (.value (.map (some w.heap.size))) (w.alloc (.map #[] 0))) : WOut ι w Z lo s res (.mp s.nx) (s.new (.map [])) := by
  have hh : (w.alloc (.map #[] 0)).heap = w.heap.push (.map #[] 0) := rfl
  have hw : ∀ k, k < w.heap.size → (w.alloc (.map #[] 0)).heap[k]? = w.heap[k]? := fun k hk => by rw [hh, Array.getElem?_push, if_neg (by omega)]
  obtain ⟨h1, h2⟩ := rel_put (lo := lo) (ι' := ι.set s.nx w.heap.size 0 0 0) (id := s.nx) (B := w.heap.size) (b := .map []) (G' := (s.H.set s.nx (.map [])).get) (w' := w.alloc (.map #[] 0)) (nx' := s.nx + 1) r (Emb.set_agree ι _ _ _ _ _ _ (Nat.le_refl _)) (Nat.le_succ _)
    (fun k hk _ => hw k hk) (by rw [hh]; simp)
    (fun i x hi hx => by
      rw [Tr.get_put_ne _ _ hi] at hx
      refine ⟨hx, ?_⟩
      have := (r.blk i x hx).2.1
      omega)
    (Tr.get_put_self _ _ _) (Nat.lt_succ_self _) (by simp [Emb.set]) (by rw [hh]; simp) (fun hz => Nat.lt_irrefl _ (r.zlt _ hz))
    ⟨⟨⟨.b, fun p hp => absurd hp (by simp)⟩, .nil⟩, #[], 0, by rw [hh]; simp [Emb.set], [], .nil _, .nil _, by simp⟩ (.inl (Nat.le_refl _)) rfl rfl rfl
  refine ⟨_, _, _, _, h, .inl ⟨_, rfl, ?_⟩, h1, h2⟩
  have := VR.mp (ι := ι.set s.nx w.heap.size 0 0 0) (w := w.alloc (.map #[] 0)) (Z := Z) (s.nx + 1) s.nx (Nat.lt_succ_self _)
  simpa [Emb.set, St.new] using this

theorem run_newMap : (newObj (.map #[] 0)).run P w = .ok w.heap.size (w.alloc (.map #[] 0)) := by simp [newObj, Sem.run]

theorem wet_makeMap {t : TypeId} {x : Option Operand} {d : Wet} {v : AV} {dst ty pos after guard} (r : Rel ι w Z s.nx s.H.get)
    (hc : ofOp P (.makeMap t x) = some (.wet d)) (hev : evWet gl tm lo s d = some (v, s')) : WOut ι w Z lo s ((execOp a.eval ⟨dst, .makeMap t x, ty, pos, after, guard⟩).run P w) v s' := by
  cases x with
  | none =>
    simp only [ofOp, Option.some.injEq, EOp.wet.injEq] at hc; subst hc
    simp only [evWet, Option.some.injEq, Prod.mk.injEq] at hev
    obtain ⟨rfl, rfl⟩ := hev
    exact wet_newMap r (by simp [execOp, Instr.makeMap, run_newMap])
  | some x =>
    cases x with
    | const v =>
      cases v with
      | int k n =>
        simp only [ofOp] at hc
        split at hc
        · rename_i kt et hu
          simp only [Option.some.injEq, EOp.wet.injEq] at hc; subst hc
          simp only [evWet, Option.some.injEq, Prod.mk.injEq] at hev
          obtain ⟨rfl, rfl⟩ := hev
          exact wet_newMap r (by simp [execOp, Instr.makeMap, run_newMap, run_underlying hu, Act.eval, asInt, asIntOf])
        · simp at hc
      | _ => simp [ofOp] at hc
    | _ => simp [ofOp] at hc

theorem wet_mlen {args : Array Operand} {ts : Array TypeId} {d : Wet} {v : AV} {dst ty pos after guard} (r : Rel ι w Z s.nx s.H.get) (hgl : GlR ι w Z gl) (htm : TmR ι w Z s.nx tm a.tmps)
    (hc : ofOp P (.call ⟨.builtin .len, args, ts⟩) = some (.wet d)) (hev : evWet gl tm lo s d = some (v, s')) : WOut ι w Z lo s ((execOp a.eval ⟨dst, .call ⟨.builtin .len, args, ts⟩, ty, pos, after, guard⟩).run P w) v s' := by
  simp only [ofOp] at hc
  unfold ofBuiltin at hc
  split at hc <;> (try contradiction)
  · rename_i t x _ hts has
    have hts' : ts = #[t] := Array.ext' hts
    have has' : args = #[x] := Array.ext' has
    subst hts' has'
    split at hc
    · rename_i kt et e hu hx
      simp only [Option.some.injEq, EOp.wet.injEq] at hc; subst hc
      simp only [evWet] at hev
      have hv := eo_sound (a := a) hgl htm hx
      generalize hv' : a.eval x = xv at hv
      split at hev
      · rename_i he
        rw [he] at hv
        simp only [Option.some.injEq, Prod.mk.injEq] at hev
        obtain ⟨rfl, rfl⟩ := hev
        cases hv
        exact WOut.same (u := goInt 0) r (by simp [execOp, resolve, invoke, builtin, Builtin.len_, run_underlying hu, hv']) (.int _ _ _)
      · rename_i id he
        rw [he] at hv
        split at hev
        · rename_i es hg
          simp only [Option.some.injEq, Prod.mk.injEq] at hev
          obtain ⟨rfl, rfl⟩ := hev
          obtain ⟨hidlt, hblt, hnz, _, ents, clock, hb, l, h1, h2, h3⟩ := r.blk id _ hg
          cases hv
          have hl : es.length = ents.size := by
            have e1 := h1.length
            have e2 := h3.length_eq
            simp at e1 e2
            omega
          have hgo : (getObj (ι.blk id)).run P w = .ok (.map ents clock) w := by simp [getObj, Sem.run, hb]
          exact WOut.same (u := goInt ents.size) r (by simp [execOp, resolve, invoke, builtin, Builtin.len_, run_underlying hu, hv', hgo]) (by rw [hl]; exact .int _ _ _)
        · simp at hev
      · simp at hev
    all_goals simp at hc
  all_goals simp at hc

theorem wet_sound {o : Oper} {d : Wet} {v : AV} (r : Rel ι w Z s.nx s.H.get) (hgl : GlR ι w Z gl) (htm : TmR ι w Z s.nx tm a.tmps)
    (hc : ofOp P o.op = some (.wet d)) (hev : evWet gl tm lo s d = some (v, s')) : WOut ι w Z lo s ((execOp a.eval o).run P w) v s' := by
  obtain ⟨dst, op, ty, pos, after, guard⟩ := o
  simp only at hc
  cases op with
  | alloc t => exact wet_alloc r hc hev
  | box t x => exact wet_box r hgl htm hc hev
  | buildSlice t n ps => exact wet_buildSlice r hgl htm hc hev
  | load t x => exact wet_load r hgl htm hc hev
  | store t x y => exact wet_store r hgl htm hc hev
  | makeMap t x => exact wet_makeMap r hc hev
  | makeSlice t l c => exact wet_makeSlice r hgl htm hc hev
  | slice t x l h m =>
    cases m with
    | none => exact wet_slice r hgl htm hc hev
    | some m => simp [ofOp] at hc
  | lookup t m k ok => exact wet_lookup r hgl htm hc hev
  | mapUpdate t m k x => exact wet_mapset r hgl htm (.inl rfl) hc hev
  | insert t m k x => exact wet_mapset r hgl htm (.inr rfl) hc hev
  | convert src dst' x => exact wet_b2s r hgl htm hc hev
  | call c =>
    obtain ⟨callee, args, ts⟩ := c
    cases callee with
    | builtin b =>
      cases b with
      | len => exact wet_mlen r hgl htm hc hev
      | append => exact wet_append r hgl htm hc hev
      | copy => exact wet_copy r hgl htm hc hev
      | clear => exact wet_clear r hgl htm hc hev
      | _ => exfalso; simp only [ofOp, ofBuiltin] at hc <;> (repeat' (split at hc)) <;> first | (simp at hc; done) | contradiction | (simp_all; done)
    | value f =>
      simp only [ofOp, ofCallee] at hc
      split at hc <;> simp at hc
    | invoke r m => simp [ofOp] at hc
  | _ => exfalso; simp only [ofOp] at hc <;> (repeat' (split at hc)) <;> first | (simp at hc; done) | contradiction | (simp_all; done)
end
end Go.Ev
