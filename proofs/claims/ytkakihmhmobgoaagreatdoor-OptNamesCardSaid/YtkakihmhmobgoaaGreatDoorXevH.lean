/- Each instruction that only looks at its operands does in the model what the evaluator says: all of them. -/
import Derived.Test.YtkakihmhmobgoaaGreatDoorXevG
namespace Go.Ev

section
variable {ι : Emb} {w : World} {Z : Nat → Prop} {nx : Nat} {gl : Nat → AV} {tm : Tr AV} {P : Program} {a : Act}

theorem evo_sound {x : Option Operand} {e : Option Eo} {d n : Nat} (hgl : GlR ι w Z gl) (htm : TmR ι w Z nx tm a.tmps) (h : ofOpt x = some e) (he : evo gl tm e d = some n) :
    (x = none ∧ n = d) ∨ ∃ y k, x = some y ∧ a.eval y = .int k n := by
  cases x with
  | none => simp [ofOpt] at h; subst h; simp [evo] at he; exact .inl ⟨rfl, he.symm⟩
  | some y =>
    simp only [ofOpt, Option.map_eq_some_iff] at h
    obtain ⟨q, hq, rfl⟩ := h
    simp only [evo] at he
    obtain ⟨k, hk⟩ := natOf_sound he (eo_sound (a := a) hgl htm hq)
    exact .inr ⟨y, k, rfl, hk⟩

/-- The bounds of a slice expression. -/
theorem sliceBounds_sound {isS : Bool} {lo hi : Option Operand} {el eh : Option Eo} {len cap l h : Nat} (hgl : GlR ι w Z gl) (htm : TmR ι w Z nx tm a.tmps) (h1 : ofOpt lo = some el) (h2 : ofOpt hi = some eh)
    (hl : evo gl tm el 0 = some l) (hh : evo gl tm eh len = some h) (hlh : l ≤ h) (hc : h ≤ cap) :
    (Instr.sliceBounds isS len cap (lo.map a.eval) (hi.map a.eval) none).run P w = .ok (l, h, cap) w := by
  rcases evo_sound (a := a) hgl htm h1 hl with ⟨rfl, rfl⟩ | ⟨y, k, rfl, hy⟩ <;> rcases evo_sound (a := a) hgl htm h2 hh with ⟨rfl, rfl⟩ | ⟨z, k', rfl, hz⟩
  · simp [Instr.sliceBounds]
  · simp [Instr.sliceBounds, Instr.sliceBound, hz, asIntOf, hc]
  · simp [Instr.sliceBounds, Instr.sliceBound, hy, asIntOf, hlh]
  · simp [Instr.sliceBounds, Instr.sliceBound, hy, hz, asIntOf, hlh, hc]

/-- What a 'dry' instruction promises. -/
def Yes (ι : Emb) (w : World) (Z : Nat → Prop) (nx : Nat) (P : Program) (a : Act) (o : Oper) (v : AV) : Prop := ∃ u, (execOp a.eval o).run P w = .ok (.value u) w ∧ VR ι w Z nx v u

theorem fieldAt_sound {fs : Array Field} {i o n : Nat} {g : Bool} (h : fieldAt P fs i = some (o, n, g)) : ∃ f, fs[i]? = some f ∧ f.offset = o ∧ sizeT P f.type = some n ∧ aggT P f.type = some g := by
  unfold fieldAt at h
  split at h
  · rename_i f hf
    split at h
    · rename_i hn hg
      simp only [Option.some.injEq, Prod.mk.injEq] at h
      obtain ⟨rfl, rfl, rfl⟩ := h
      exact ⟨f, hf, rfl, hn, hg⟩
    · simp at h
  · simp at h

theorem dry_field {t : TypeId} {x : Operand} {f : Nat} {d : Dry} {v : AV} {dst ty pos after guard} (hgl : GlR ι w Z gl) (htm : TmR ι w Z nx tm a.tmps)
    (hc : ofOp P (.field t x f) = some (.dry d)) (hev : evDry gl tm d = some v) : Yes ι w Z nx P a ⟨dst, .field t x f, ty, pos, after, guard⟩ v := by
  simp only [ofOp] at hc
  split at hc
  · rename_i fs e hu hx
    split at hc
    · rename_i o n g hf
      simp only [Option.some.injEq, EOp.dry.injEq] at hc
      subst hc
      obtain ⟨fl, hfl, rfl, hs, hg⟩ := fieldAt_sound hf
      simp only [evDry] at hev
      have hv := eo_sound (a := a) hgl htm hx
      cases he : e.ev gl tm <;> rw [he] at hev <;> simp only [reduceCtorEq] at hev
      rw [he] at hv
      cases hv' : a.eval x <;> rw [hv'] at hv <;> cases hv
      rename_i cs us hv
      split at hev
      · rename_i c hcut
        obtain ⟨u, hr, hu'⟩ := run_part (P := P) hs hg hv hcut hev
        exact ⟨u, by simp [execOp, Instr.field, run_underlying hu, hfl, hv', asAgg, hr], hu'⟩
      · simp at hev
    · simp at hc
  · simp at hc

theorem dry_fieldAddr {t : TypeId} {x : Operand} {f : Nat} {d : Dry} {v : AV} {dst ty pos after guard} (hgl : GlR ι w Z gl) (htm : TmR ι w Z nx tm a.tmps)
    (hc : ofOp P (.fieldAddr t x f) = some (.dry d)) (hev : evDry gl tm d = some v) : Yes ι w Z nx P a ⟨dst, .fieldAddr t x f, ty, pos, after, guard⟩ v := by
  simp only [ofOp] at hc
  split at hc
  · rename_i fs e hu hx
    split at hc
    · rename_i o n g hf
      simp only [Option.some.injEq, EOp.dry.injEq] at hc
      subst hc
      obtain ⟨fl, hfl, rfl, hs, hg⟩ := fieldAt_sound hf
      simp only [evDry] at hev
      have hv := eo_sound (a := a) hgl htm hx
      have hplace : ∀ b o, (fieldPlace ⟨b, o, none⟩ fl).run P w = .ok ⟨b, o + fl.offset, none⟩ w := by
        intro b o
        simp only [fieldPlace, Sem.run_bind, run_sizeT hs, Result.andThen_ok]
        rw [if_neg (by omega)]
        simp only [Sem.run_pure, Addr.add]
        split
        · rename_i h0; simp [h0]
        · rfl
      cases he : e.ev gl tm <;> rw [he] at hev <;> simp only [reduceCtorEq] at hev
      · rename_i id off
        simp only [Option.some.injEq] at hev
        subst hev
        rw [he] at hv
        cases hv' : a.eval x <;> rw [hv'] at hv <;> cases hv
        rename_i hid
        refine ⟨_, by simp [execOp, Instr.fieldAt, run_underlying hu, hfl, hv', Instr.sureAddr, hplace]; rfl, ?_⟩
        have := VR.ptr (ι := ι) (w := w) (Z := Z) nx id (off + fl.offset) hid
        rw [← Nat.add_assoc] at this
        exact this
      · rename_i cv
        split at hev
        · rename_i c hcut
          split at hev
          · rename_i u hun
            simp only [Option.some.injEq] at hev
            subst hev
            rw [he] at hv
            cases hv' : a.eval x <;> rw [hv'] at hv <;> cases hv
            rename_i b o vs hz ha hvs
            refine ⟨_, by simp [execOp, Instr.fieldAt, run_underlying hu, hfl, hv', Instr.sureAddr, hplace]; rfl, ?_⟩
            obtain ⟨rfl, hl⟩ := cut_some hcut
            have hsub := (hvs.drop fl.offset).take (n + 1)
            have hat : At w b (o + fl.offset) ((vs.drop fl.offset).take (n + 1)) := by
              intro i y hi
              have : vs[fl.offset + i]? = some y := by
                rw [List.getElem?_take] at hi
                split at hi
                · simpa using hi
                · simp at hi
              have := ha _ _ this
              rwa [← Nat.add_assoc] at this
            exact .cptr _ _ _ _ _ hz hat (by rw [flat_unflat hun]; exact hsub)
          · simp at hev
        · simp at hev
    · simp at hc
  · simp at hc

theorem at_sub {w : World} {b o : Nat} {vs : List Value} (ha : At w b o vs) (k n : Nat) : At w b (o + k) ((vs.drop k).take n) := by
  intro i y hi
  have : vs[k + i]? = some y := by
    rw [List.getElem?_take] at hi
    split at hi
    · simpa using hi
    · simp at hi
  have := ha _ _ this
  rwa [← Nat.add_assoc] at this
theorem add_plain (b o n : Nat) : (⟨b, o, none⟩ : Addr).add n = ⟨b, o + n, none⟩ := by
  unfold Addr.add
  split
  · rename_i h; simp [h]
  · rfl
theorem flatMap_seg {sz : Nat} : ∀ {es : List AV} {k : Nat} {e : AV}, (∀ e ∈ es, (flat e).length = sz) → es[k]? = some e → ((es.flatMap flat).drop (k * sz)).take sz = flat e
  | [], k, e, _, h => by simp at h
  | x :: r, 0, e, hs, h => by
    simp only [List.getElem?_cons_zero, Option.some.injEq] at h
    subst h
    have := hs x (by simp)
    simp [List.flatMap_cons, ← this]
  | x :: r, k + 1, e, hs, h => by
    have hx := hs x (by simp)
    have ih := flatMap_seg (sz := sz) (es := r) (k := k) (e := e) (fun y hy => hs y (by simp [hy])) (by simpa using h)
    rw [← ih, List.flatMap_cons]
    congr 1
    rw [Nat.succ_mul, Nat.add_comm (k * sz) sz, ← hx, ← List.drop_drop]
    simp

theorem dry_indexAddr {t : TypeId} {x i : Operand} {d : Dry} {v : AV} {dst ty pos after guard} (hgl : GlR ι w Z gl) (htm : TmR ι w Z nx tm a.tmps)
    (hc : ofOp P (.indexAddr t x i) = some (.dry d)) (hev : evDry gl tm d = some v) : Yes ι w Z nx P a ⟨dst, .indexAddr t x i, ty, pos, after, guard⟩ v := by
  simp only [ofOp] at hc
  split at hc
  · rename_i el e ei hu hx hi
    split at hc
    · rename_i sz hs
      simp only [Option.some.injEq, EOp.dry.injEq] at hc
      subst hc
      simp only [evDry] at hev
      have hv := eo_sound (a := a) hgl htm hx
      have hvi := eo_sound (a := a) hgl htm hi
      split at hev
      · rename_i id off len k he hk
        rw [he] at hv
        obtain ⟨kk, hki⟩ := natOf_sound hk hvi
        split at hev
        · rename_i hlt
          simp only [Option.some.injEq] at hev; subst hev
          cases hv' : a.eval x <;> rw [hv'] at hv <;> cases hv
          · rename_i cap hid hl hcp
            refine ⟨_, by simp [execOp, Instr.indexAt, run_underlying hu, hv', hki, asIntOf, hlt, run_sizeT hs, add_plain]; rfl, ?_⟩
            have := VR.ptr (ι := ι) (w := w) (Z := Z) nx id (off + k * sz) hid
            rw [← Nat.add_assoc] at this
            exact this
          · omega
        · simp at hev
      · rename_i es k he hk
        rw [he] at hv
        obtain ⟨kk, hki⟩ := natOf_sound hk hvi
        split at hev
        · rename_i q hq
          split at hev
          · rename_i hb
            simp only [Option.some.injEq] at hev; subst hev
            have hlt : k < es.length := by
              rcases Nat.lt_or_ge k es.length with h | h
              · exact h
              · rw [List.getElem?_eq_none h] at hq; simp at hq
            generalize hv' : a.eval x = xv at hv
            cases hv with
            | lst0 => simp at hq
            | lst _ _ b o cap sz' vs hl hz ha hsz hvs =>
              have hsz2 : sz' = sz := by
                have h1 := hsz q (List.mem_of_getElem? hq)
                have h2 := Nat.eq_of_beq_eq_true hb
                omega
              subst hsz2
              refine ⟨_, by simp [execOp, Instr.indexAt, run_underlying hu, hv', hki, asIntOf, hlt, run_sizeT hs, add_plain]; rfl, ?_⟩
              have hsub := (hvs.drop (k * sz')).take sz'
              rw [flatMap_seg hsz hq] at hsub
              exact .cptr _ _ _ _ _ hz (at_sub ha _ _) hsub
          · simp at hev
        · simp at hev
      · simp at hev
    · simp at hc
  · rename_i n el e ei hu hx hi
    split at hc
    · rename_i sz g hs hg
      simp only [Option.some.injEq, EOp.dry.injEq] at hc
      subst hc
      simp only [evDry] at hev
      have hv := eo_sound (a := a) hgl htm hx
      have hvi := eo_sound (a := a) hgl htm hi
      split at hev
      · rename_i id off k he hk
        rw [he] at hv
        obtain ⟨kk, hki⟩ := natOf_sound hk hvi
        split at hev
        · rename_i hlt
          simp only [Option.some.injEq] at hev; subst hev
          cases hv' : a.eval x <;> rw [hv'] at hv <;> cases hv
          rename_i hid
          refine ⟨_, by simp [execOp, Instr.indexAt, run_underlying hu, hv', hki, asIntOf, hlt, run_sizeT hs, add_plain, Instr.sureAddr]; rfl, ?_⟩
          have := VR.ptr (ι := ι) (w := w) (Z := Z) nx id (off + k * sz) hid
          rw [← Nat.add_assoc] at this
          exact this
        · simp at hev
      · rename_i cv k he hk
        rw [he] at hv
        obtain ⟨kk, hki⟩ := natOf_sound hk hvi
        split at hev
        · rename_i hlt
          split at hev
          · rename_i c hcut
            split at hev
            · rename_i u hun
              simp only [Option.some.injEq] at hev; subst hev
              obtain ⟨rfl, hl⟩ := cut_some hcut
              cases hv' : a.eval x <;> rw [hv'] at hv <;> cases hv
              rename_i b o vs hz ha hvs
              refine ⟨_, by simp [execOp, Instr.indexAt, run_underlying hu, hv', hki, asIntOf, hlt, run_sizeT hs, add_plain, Instr.sureAddr]; rfl, ?_⟩
              exact .cptr _ _ _ _ _ hz (at_sub ha _ _) (by rw [flat_unflat hun]; exact (hvs.drop _).take _)
            · simp at hev
          · simp at hev
        · simp at hev
      · simp at hev
    · simp at hc
  · simp at hc
end
end Go.Ev
