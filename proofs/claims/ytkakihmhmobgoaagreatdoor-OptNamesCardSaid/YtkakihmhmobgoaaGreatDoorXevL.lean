/- Each instruction that looks at memory, or makes some, does in the model what the evaluator says: new rows, loads, stores. -/
import Derived.Test.YtkakihmhmobgoaaGreatDoorXevK
namespace Go.Ev

/-- What a 'wet' instruction promises. -/
def WOut (ι : Emb) (w : World) (Z : Nat → Prop) (lo : Nat) (s : St) (res : Result Next) (v : AV) (s' : St) : Prop :=
  ∃ n w' ι' Z', res = .ok n w' ∧ ((∃ u, n = .value u ∧ VR ι' w' Z' s'.nx v u) ∨ (n = .skip ∧ v = undefA)) ∧ Rel ι' w' Z' s'.nx s'.H.get ∧ Ext ι w Z s.nx lo s.H.get ι' w' Z' s'.nx s'.H.get

section
variable {ι : Emb} {w : World} {Z : Nat → Prop} {lo : Nat} {gl : Nat → AV} {tm : Tr AV} {P : Program} {a : Act} {s s' : St}

theorem WOut.same {res : Result Next} {v : AV} {u : Value} (r : Rel ι w Z s.nx s.H.get) (h : res = .ok (.value u) w) (hv : VR ι w Z s.nx v u) : WOut ι w Z lo s res v s :=
  ⟨_, w, ι, Z, h, .inl ⟨u, rfl, hv⟩, r, .refl⟩

theorem run_newRow (c : Array Value) (el : TypeId) : (newRow el c).run P w = .ok ⟨w.heap.size, 0, none⟩ (w.alloc (.cells c el (0, 0))) := by
  simp [newRow, newObj, Sem.run]

theorem exT_el {t : TypeId} (h : 2 ≤ exT P t) : exT P t / 2 = t + 1 := by
  unfold exT at h ⊢
  split at h <;> omega
/-- A value in a row of its own. -/
theorem wet_newVar {cs : List AV} {c : Array Value} {el : TypeId} {sz ex : Nat} {res : Result Next} (hel : 2 ≤ ex → ex / 2 = el + 1) (r : Rel ι w Z s.nx s.H.get) (hv : VRs ι w Z s.nx cs c.toList)
    (h : res = .ok (.value (.pointer (some ⟨w.heap.size, 0, none⟩))) (w.alloc (.cells c el (0, 0)))) : WOut ι w Z lo s res (.ptr s.nx 0) (s.new (.cells cs sz ex)) := by
  have hl : cs.length = c.size := by simpa using hv.length
  obtain ⟨h1, h2⟩ := rel_new (lo := lo) (w' := w.alloc (.cells c el (0, 0))) (sz := sz) (ex := ex) (el := el) r rfl hv (fun i v hi => by simpa using hi) (Nat.le_of_eq hl) (fun _ => hl) hel rfl rfl rfl
  refine ⟨_, _, _, _, h, .inl ⟨_, rfl, ?_⟩, h1, h2⟩
  have := VR.ptr (ι := ι.set s.nx w.heap.size 0 c.size sz) (w := w.alloc (.cells c el (0, 0))) (Z := Z) (s.nx + 1) s.nx 0 (Nat.lt_succ_self _)
  simpa [Emb.set, St.new] using this

theorem wet_alloc {t : TypeId} {d : Wet} {v : AV} {dst ty pos after guard} (r : Rel ι w Z s.nx s.H.get)
    (hc : ofOp P (.alloc t) = some (.wet d)) (hev : evWet gl tm lo s d = some (v, s')) : WOut ι w Z lo s ((execOp a.eval ⟨dst, .alloc t, ty, pos, after, guard⟩).run P w) v s' := by
  simp only [ofOp] at hc
  split at hc
  · rename_i sz z hsz hz
    simp only [Option.some.injEq, EOp.wet.injEq] at hc; subst hc
    simp only [evWet, Option.some.injEq, Prod.mk.injEq] at hev
    obtain ⟨rfl, rfl⟩ := hev
    obtain ⟨zu, hzu, hoz⟩ := zeroT_some hz
    have hzr := ofValue_sound (ι := ι) (w := w) (Z := Z) (nx := s.nx) zu z hoz
    exact wet_newVar (el := t) (exT_el (P := P)) r hzr.flat (by simp [execOp, Instr.alloc, run_zeroT hzu, newVar, run_newRow])
  · simp at hc
theorem wet_box {t : TypeId} {x : Operand} {d : Wet} {v : AV} {dst ty pos after guard} (r : Rel ι w Z s.nx s.H.get) (hgl : GlR ι w Z gl) (htm : TmR ι w Z s.nx tm a.tmps)
    (hc : ofOp P (.box t x) = some (.wet d)) (hev : evWet gl tm lo s d = some (v, s')) : WOut ι w Z lo s ((execOp a.eval ⟨dst, .box t x, ty, pos, after, guard⟩).run P w) v s' := by
  simp only [ofOp] at hc
  split at hc
  · rename_i sz e hsz he
    simp only [Option.some.injEq, EOp.wet.injEq] at hc; subst hc
    simp only [evWet, Option.some.injEq, Prod.mk.injEq] at hev
    obtain ⟨rfl, rfl⟩ := hev
    exact wet_newVar (el := t) (fun h => by omega) r (eo_sound (a := a) hgl htm he).flat (by simp [execOp, Instr.box, newVar, run_newRow])
  · simp at hc

theorem rep_range : ∀ (n : Nat) (z : Array Value), ((Array.range (n * z.size)).map fun i => z[i % z.size]!).toList = (List.replicate n z.toList).flatten
  | 0, z => by simp
  | n + 1, z => by
    have ih := rep_range n z
    rw [List.replicate_succ', List.flatten_append, ← ih]
    simp only [Array.toList_map, Array.toList_range, List.flatten_cons, List.flatten_nil, List.append_nil]
    rw [Nat.succ_mul, List.range_add, List.map_append, List.map_map]
    congr 1
    apply List.ext_getElem?
    intro i
    simp only [List.getElem?_map, Function.comp_apply]
    by_cases hi : i < z.size
    · rw [List.getElem?_range hi]
      simp [Nat.mod_eq_of_lt hi, hi]
    · simp [hi]
theorem rep_vrs {nx : Nat} {zs : List AV} {zv : List Value} (h : VRs ι w Z nx zs zv) : ∀ n, VRs ι w Z nx (List.replicate n zs).flatten (List.replicate n zv).flatten
  | 0 => .nil _
  | n + 1 => by simp only [List.replicate_succ, List.flatten_cons]; exact h.append (rep_vrs h n)

theorem wet_buildSlice {t : TypeId} {len : Nat} {parts : Array (Nat × Operand)} {d : Wet} {v : AV} {dst ty pos after guard} (r : Rel ι w Z s.nx s.H.get) (hgl : GlR ι w Z gl) (htm : TmR ι w Z s.nx tm a.tmps)
    (hc : ofOp P (.buildSlice t len parts) = some (.wet d)) (hev : evWet gl tm lo s d = some (v, s')) : WOut ι w Z lo s ((execOp a.eval ⟨dst, .buildSlice t len parts, ty, pos, after, guard⟩).run P w) v s' := by
  simp only [ofOp] at hc
  split at hc
  · rename_i el hu
    split at hc
    · rename_i sz z hs hz
      split at hc
      · rename_i hb
        split at hc
        · rename_i ps hps
          simp only [Option.some.injEq, EOp.wet.injEq] at hc; subst hc
          simp only [evWet] at hev
          split at hev
          · rename_i cs hf
            simp only [Option.some.injEq, Prod.mk.injEq] at hev
            obtain ⟨rfl, rfl⟩ := hev
            obtain ⟨zu, hzu, hoz⟩ := zeroT_some hz
            have hzr := (ofValue_sound (ι := ι) (w := w) (Z := Z) (nx := s.nx) zu z hoz).flat
            have hzl : zu.cells.size = sz := by have := hzr.length; simp at this; omega
            let zero : Array Value := if len * sz = 0 then #[] else zu.cells
            have hzero : ((Array.range (len * sz)).map fun i => zero[i % zero.size]!).toList = (List.replicate len zu.cells.toList).flatten := by
              by_cases h0 : len * sz = 0
              · rw [h0]
                have e0 : (Array.range 0) = #[] := rfl
                rw [e0]
                simp only [Array.map_empty]
                rcases Nat.mul_eq_zero.1 h0 with h | h
                · simp [h]
                · have : zu.cells.toList = [] := by
                    apply List.eq_nil_of_length_eq_zero
                    rw [Array.length_toList]; omega
                  rw [this]; simp
              · have : zero = zu.cells := by simp [zero, h0]
                rw [this, ← hzl]
                exact rep_range len zu.cells
            have hz2 : VRs ι w Z s.nx (List.replicate len (flat z)).flatten ((Array.range (len * sz)).map fun i => zero[i % zero.size]!).toList := by
              rw [hzero]; exact rep_vrs hzr len
            have hf' : fills (List.replicate len (flat z)).flatten (ps.map fun p => (p.1, p.2.1, p.2.2.ev gl tm)) = some cs := by
              have hsame : ∀ {ps : List (Nat × Nat × Eo)} {qs : List (Nat × Operand)}, ofParts (fun i => some (i * sz, sz)) qs = some ps → (ps.map fun p => (p.1, p.2.2)).map (fun p => (p.1, sz, p.2.ev gl tm)) = ps.map fun p => (p.1, p.2.1, p.2.2.ev gl tm) := by
                intro ps qs
                induction qs generalizing ps with
                | nil => intro h; simp [ofParts] at h; subst h; rfl
                | cons q qs ih =>
                  obtain ⟨i, x⟩ := q
                  intro h
                  simp only [ofParts] at h
                  cases h2 : ofOperand x with
                  | none => simp [h2] at h
                  | some e =>
                    cases h3 : ofParts (fun i => some (i * sz, sz)) qs with
                    | none => simp [h2, h3] at h
                    | some qs' =>
                      simp [h2, h3] at h
                      subst h
                      have := ih h3
                      simp only [List.map_cons] at this ⊢
                      rw [this]
              rw [← hsame hps]; exact hf
            obtain ⟨us, hfill, hv⟩ := fills_sound (a := a) hgl htm hps hf' hz2
            have e1 : (parts.map fun (i, x) => (i, a.eval x)).toList = parts.toList.map fun p => (p.1, a.eval p.2) := by simp
            have hrun : (execOp a.eval ⟨dst, .buildSlice t len parts, ty, pos, after, guard⟩).run P w = .ok (.value (.slice (some ⟨w.heap.size, 0, none⟩) len len)) (w.alloc (.cells us el (0, 0))) := by
              have hle : ¬ len * sz > 2 ^ 24 := by have := hb.1; omega
              by_cases h0 : len * sz = 0
              · have hz0 : zero = #[] := by simp [zero, h0]
                rw [hz0] at hfill
                simp only [execOp, Instr.buildSlice, Sem.run_bind, run_underlying hu, Result.andThen_ok, run_sizeT hs, hle, if_false, Sem.run_pure, h0, if_true, Sem.run_ite]
                rw [h0] at hfill
                simp only [e1, hfill, Sem.run_bind, run_newRow, Sem.run_pure, Result.andThen_ok]
                rw [if_neg (by decide)]
                rfl
              · have hz0 : zero = zu.cells := by simp [zero, h0]
                rw [hz0] at hfill
                simp only [execOp, Instr.buildSlice, Sem.run_bind, run_underlying hu, Result.andThen_ok, run_sizeT hs, hle, if_false, Sem.run_pure, h0, Sem.run_ite, run_zeroT hzu]
                simp only [e1, hfill, Sem.run_bind, run_newRow, Sem.run_pure, Result.andThen_ok]
            have hl : cs.length = us.size := by simpa using hv.length
            have hcs : cs.length = len * sz := by
              have := hz2.length
              have h3 : ∀ {qs : List (Nat × Nat × AV)} {c d : List AV}, fills c qs = some d → d.length = c.length := by
                intro qs
                induction qs with
                | nil => intro c d h; simp [fills] at h; rw [h]
                | cons q qs ih =>
                  obtain ⟨o, n, v⟩ := q
                  intro c d h
                  simp only [fills] at h
                  split at h
                  · rename_i c' _ ho
                    rw [ih h]
                    unfold over at ho
                    split at ho
                    · rename_i hle
                      have := Nat.le_of_ble_eq_true hle
                      simp only [Option.some.injEq] at ho
                      subst ho
                      simp; omega
                    · simp at ho
                  · simp at h
              rw [h3 hf]
              simp [hb.2]
            obtain ⟨h1, h2⟩ := rel_new (lo := lo) (w' := w.alloc (.cells us el (0, 0))) (sz := sz) (ex := 1) (el := el) r rfl hv (fun i v hi => by simpa using hi) (Nat.le_of_eq hl) (fun _ => hl) (fun h => by omega) rfl rfl rfl
            refine ⟨_, _, _, _, hrun, .inl ⟨_, rfl, ?_⟩, h1, h2⟩
            have := VR.sl (ι := ι.set s.nx w.heap.size 0 us.size sz) (w := w.alloc (.cells us el (0, 0))) (Z := Z) (s.nx + 1) s.nx 0 len len (Nat.lt_succ_self _) (Nat.le_refl _) (by simp [Emb.set]; omega)
            simpa [Emb.set, St.new] using this
          · simp at hev
        · simp at hc
      · simp at hc
    · simp at hc
  · simp at hc

theorem wet_load {t : TypeId} {x : Operand} {d : Wet} {v : AV} {dst ty pos after guard} (r : Rel ι w Z s.nx s.H.get) (hgl : GlR ι w Z gl) (htm : TmR ι w Z s.nx tm a.tmps)
    (hc : ofOp P (.load t x) = some (.wet d)) (hev : evWet gl tm lo s d = some (v, s')) : WOut ι w Z lo s ((execOp a.eval ⟨dst, .load t x, ty, pos, after, guard⟩).run P w) v s' := by
  simp only [ofOp] at hc
  split at hc
  · rename_i n g e hs hg he
    simp only [Option.some.injEq, EOp.wet.injEq] at hc; subst hc
    simp only [evWet] at hev
    have hx := eo_sound (a := a) hgl htm he
    split at hev
    · rename_i id off hid
      rw [hid] at hx
      split at hev
      · rename_i cs z ex hrow
        split at hev
        · rename_i c hcut
          split at hev
          · rename_i u hun
            simp only [Option.some.injEq, Prod.mk.injEq] at hev
            obtain ⟨rfl, rfl⟩ := hev
            generalize hxv : a.eval x = xv at hx
            cases hx with
            | ptr _ _ _ hlt =>
              obtain ⟨vs, hvs, hat⟩ := at_row r hrow
              obtain ⟨rfl, hl⟩ := cut_some hcut
              have hsub := (hvs.drop off).take n
              obtain ⟨u', hr', hv'⟩ := run_loadVar_at (P := P) hs hg (at_sub hat off n) (by rw [← hsub.length]; exact hl) hsub hun
              exact WOut.same r (by simp [execOp, Instr.loadAt, Instr.sureAddr, hxv, hr']) hv'
          · simp at hev
        · simp at hev
      · simp at hev
    · rename_i cv hcv
      rw [hcv] at hx
      split at hev
      · rename_i u hb hun
        simp only [Option.some.injEq, Prod.mk.injEq] at hev
        obtain ⟨rfl, rfl⟩ := hev
        generalize hxv : a.eval x = xv at hx
        cases hx with
        | cptr _ _ b o vs hz hat hvs =>
          have hvs' : VRs ι w Z s.nx (flat cv) vs := hvs.mono (fun i hi => absurd hi (Nat.not_lt_zero i)) (fun k hk => ⟨hk, rfl⟩) (Nat.zero_le _)
          obtain ⟨u', hr', hv'⟩ := run_loadVar_at (P := P) hs hg hat (by rw [← hvs.length]; exact Nat.eq_of_beq_eq_true hb) hvs' hun
          exact WOut.same r (by simp [execOp, Instr.loadAt, Instr.sureAddr, hxv, hr']) hv'
      · simp at hev
    · simp at hev
  · simp at hc
end
end Go.Ev
