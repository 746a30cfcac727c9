/- Each instruction that looks at memory, or makes some, does in the model what the evaluator says: the rest of those on rows. -/
import Derived.Test.YtkakihmhmobgoaaGreatDoorXevN
namespace Go.Ev

section
variable {ι : Emb} {w : World} {Z : Nat → Prop} {lo : Nat} {gl : Nat → AV} {tm : Tr AV} {P : Program} {a : Act} {s s' : St}

theorem oneC_eq (v : Value) : v.oneCell' = oneC v := by cases v <;> rfl

theorem run_firstCells_pre {sz m n : Nat} {b o cap : Nat} {vs : List Value} (h : At w b o vs) (hl : vs.length = m * sz) : (Builtin.firstCells sz m (.slice (some ⟨b, o, none⟩) n cap)).run P w = .ok vs.toArray w := by
  simp only [Builtin.firstCells]
  rw [← hl]
  exact run_loadCells_at h
/-- The cells of a slice, or of a string. -/
theorem cellsOf_sound {y : AV} {u : Value} {n sz : Nat} {ys : List AV} (r : Rel ι w Z s.nx s.H.get) (hn : lenOf y = some n) (hc : cellsOf s sz y = some ys) (hy : VR ι w Z s.nx y u) :
    ∃ vs, VRs ι w Z s.nx ys vs ∧ vs.length = n * sz ∧ (∀ w' : World, w'.heap = w.heap → (Builtin.firstCells sz n u).run P w' = .ok vs.toArray w') ∧ (∀ w' : World, (Builtin.lenOf u).run P w' = .ok n w') ∧
      (isStr y = false → ∀ m, m ≤ n → (Builtin.firstCells sz m u).run P w = .ok (vs.take (m * sz)).toArray w) := by
  unfold cellsOf at hc
  split at hc
  · simp only [Option.some.injEq] at hc; subst hc
    simp only [lenOf, Option.some.injEq] at hn; subst hn
    cases hy
    exact ⟨[], .nil _, by simp, fun w' _ => by simp [Builtin.firstCells], fun w' => rfl, fun _ m _ => by simp [Builtin.firstCells]⟩
  · rename_i id off len
    simp only [lenOf, Option.some.injEq] at hn; subst hn
    split at hc
    · rename_i cs z ex hrow
      split at hc
      · rename_i hz
        have hzz : z = sz := Nat.eq_of_beq_eq_true hz
        subst hzz
        obtain ⟨us, hus, hat⟩ := at_row r hrow
        obtain ⟨rfl, hxl⟩ := cut_some hc
        have hsub := (hus.drop off).take (len * z)
        cases hy with
        | sl _ _ _ _ cap hid hlc hcp =>
          refine ⟨_, hsub, by rw [← hsub.length]; exact hxl, fun w' hw => ?_, fun w' => rfl, fun _ m hm => ?_⟩
          rotate_left
          · have hm2 : m * z ≤ len * z := Nat.mul_le_mul_right _ hm
            have hl2 := hsub.length
            refine run_firstCells_pre (fun i x hi => ?_) (by rw [List.length_take]; omega)
            have : ((us.drop off).take (len * z))[i]? = some x := by
              rw [List.getElem?_take] at hi
              split at hi
              · exact hi
              · simp at hi
            exact at_sub hat off (len * z) i x this
          exact run_firstCells_at (w := w') (fun i x hi => by
            have := at_sub hat off (len * z) i x hi
            unfold World.cell? at this ⊢
            rw [hw]; exact this) (by rw [← hsub.length]; exact hxl)
        | sl0 _ _ _ A hid =>
          refine ⟨[], ?_, by simp, fun w' _ => by rw [run_firstCells_zero], fun w' => rfl, fun _ m hm => by
            have : m = 0 := by omega
            subst this
            rw [run_firstCells_zero]; simp⟩
          simp only [Nat.zero_mul, List.take_zero]; exact .nil _
      · simp at hc
    · simp at hc
  · rename_i es
    simp only [lenOf, Option.some.injEq] at hn; subst hn
    split at hc
    · rename_i hall
      simp only [Option.some.injEq] at hc; subst hc
      cases hy with
      | lst0 _ A cap =>
        exact ⟨[], .nil _, by simp, fun w' _ => by rw [show ([] : List AV).length = 0 from rfl, run_firstCells_zero], fun w' => rfl, fun _ m hm => by
          have : m = 0 := by simpa using hm
          subst this
          rw [run_firstCells_zero]; simp⟩
      | lst _ _ b o cap sz' vs hl hz ha hs hv =>
        have hfl : ∀ (l : List AV), (∀ e ∈ l, (flat e).length = sz) → (l.flatMap flat).length = l.length * sz := by
          intro l
          induction l with
          | nil => intro _; simp
          | cons x l ih => intro h; rw [List.flatMap_cons, List.length_append, h x (by simp), ih (fun e he => h e (by simp [he])), List.length_cons, Nat.succ_mul]; omega
        have hlen := hfl es (fun e he => Nat.eq_of_beq_eq_true (List.all_eq_true.1 hall e he))
        have hvl := hv.length
        refine ⟨vs, hv.mono (fun i hi => absurd hi (Nat.not_lt_zero i)) (fun k hk => ⟨hk, rfl⟩) (Nat.zero_le _), by omega, fun w' hw => ?_, fun w' => rfl, fun _ m hm => ?_⟩
        rotate_left
        · have hm2 : m * sz ≤ es.length * sz := Nat.mul_le_mul_right _ hm
          refine run_firstCells_pre (fun i x hi => ?_) (by rw [List.length_take]; omega)
          rw [List.getElem?_take] at hi
          split at hi
          · exact ha i x hi
          · simp at hi
        exact run_firstCells_at (w := w') (fun i x hi => by
          have := ha i x hi
          unfold World.cell? at this ⊢
          rw [hw]; exact this) (by omega)
    · simp at hc
  · rename_i l
    simp only [lenOf, Option.some.injEq] at hn; subst hn
    split at hc
    · rename_i h1
      have : sz = 1 := Nat.eq_of_beq_eq_true h1
      subst this
      simp only [Option.some.injEq] at hc; subst hc
      cases hy with
      | str _ s0 =>
        have hb : (List.map (fun x => x.toNat) s0.data.toList).length = s0.size := bytes_len s0
        rw [hb]
        refine ⟨byteCells s0, ?_, by rw [byteCells_length, Nat.mul_one], fun w' _ => firstCells_string s0 w', fun w' => rfl, fun h => by simp [isStr] at h⟩
        unfold byteCells
        rw [List.map_map]
        generalize s0.data.toList = q
        induction q with
        | nil => exact .nil _
        | cons x q ih => exact .cons _ _ _ _ _ (.int _ _ _) ih
    · simp at hc
  · simp at hc

theorem run_storeCells_add {b o : Nat} {vs : List Value} {k : Nat} {w1 w2 : World} (h : (storeCells ⟨b, o + k, none⟩ vs 0).run P w1 = .ok () w2) : (storeCells ((⟨b, o, none⟩ : Addr).add k) vs).run P w1 = .ok () w2 := by
  rw [add_plain]; exact h

theorem wet_append {args : Array Operand} {ts : Array TypeId} {d : Wet} {v : AV} {dst ty pos after guard} (r : Rel ι w Z s.nx s.H.get) (hgl : GlR ι w Z gl) (htm : TmR ι w Z s.nx tm a.tmps)
    (hc : ofOp P (.call ⟨.builtin .append, args, ts⟩) = some (.wet d)) (hev : evWet gl tm lo s d = some (v, s')) : WOut ι w Z lo s ((execOp a.eval ⟨dst, .call ⟨.builtin .append, args, ts⟩, ty, pos, after, guard⟩).run P w) v s' := by
  have fin : ∀ {res : Result Value}, (∃ rv w' ι', res = .ok rv w' ∧ VR ι' w' Z s'.nx v rv ∧ Rel ι' w' Z s'.nx s'.H.get ∧ Ext ι w Z s.nx lo s.H.get ι' w' Z s'.nx s'.H.get) →
      (∀ rv w', res = .ok rv w' → (execOp a.eval ⟨dst, .call ⟨.builtin .append, args, ts⟩, ty, pos, after, guard⟩).run P w = .ok (.value rv) w') →
      WOut ι w Z lo s ((execOp a.eval ⟨dst, .call ⟨.builtin .append, args, ts⟩, ty, pos, after, guard⟩).run P w) v s' := by
    rintro res ⟨rv, w', ι', h1, h2, h3, h4⟩ hex
    exact ⟨_, w', ι', Z, hex rv w' h1, .inl ⟨rv, rfl, h2⟩, h3, h4⟩
  simp only [ofOp] at hc
  unfold ofBuiltin at hc
  split at hc <;> (try contradiction)
  rename_i t u x y _ hts has
  have hts' : ts = #[t, u] := Array.ext' hts
  have has' : args = #[x, y] := Array.ext' has
  subst hts' has'
  split at hc
  · rename_i el kk ex ey hut huu hx hy
    split at hc
    · rename_i sz by_ z hs hb hz
      split at hc
      · rename_i hzs
        simp only [Option.some.injEq, EOp.wet.injEq] at hc; subst hc
        simp only [evWet] at hev
        have hvx := eo_sound (a := a) hgl htm hx
        have hvy := eo_sound (a := a) hgl htm hy
        split at hev
        · rename_i n hn
          split at hev
          · rename_i hro
            obtain ⟨kq, hki⟩ := natOf_sound hn hvy
            obtain ⟨zu, hzu, hoz⟩ := zeroT_some hz
            have hzr := (ofValue_sound (ι := ι) (w := w) (Z := Z) (nx := s.nx) zu z hoz).flat
            have hzl : zu.cells.size = sz := by have := hzr.length; simp at this; omega
            cases hi : P.info? el with
            | none => rw [hi] at hzu; simp at hzu
            | some info =>
              have hs' : info.size = sz := by simpa [sizeT, hi] using hs
              have hb' : info.bytes = by_ := by simpa [bytesT, hi] using hb
              have hz' : info.zero = some zu := by simpa [hi] using hzu
              have hro' := roomy_le hro
              have hn63 : n ≤ 68719476736 := by have : n ≤ n * (by_ + 1) := Nat.le_mul_of_pos_right _ (by omega); omega
              have hw : IntKind.i64.wrap (n : Int) = n := by rw [IntKind.wrap_i64]; omega
              have hnb : n * by_ ≤ 68719476736 := Nat.le_trans (Nat.mul_le_mul_left _ (Nat.le_succ _)) hro'
              have h48i : ¬ (281474976710656 < (n : Int) * (by_ : Int)) := by rw [← Int.natCast_mul]; omega
              have hneg : ¬ ((n : Int) < 0) := by omega
              have hvl : ((List.replicate n zu.cells.toList).flatten).length = n * sz := by simp [hzl]
              refine fin (res := (Builtin.append_ #[t, u] ty #[a.eval x, a.eval y]).run P w) (append_rel (P := P) (el := el) (ext := 0) (vs := (List.replicate n zu.cells.toList).flatten) (.inl rfl) r hzs.2 hvx (rep_vrs hzr n) hvl hev ?_ ?_ ?_) ?_
              · intro h0 base sLen sCap hu hle
                subst h0
                rw [hu, hki]
                have hw0 : IntKind.i64.wrap ((0 : Nat) : Int) = ((0 : Nat) : Int) := hw
                simp only [Int.natCast_zero] at hw0
                cases base <;> simp [Builtin.append_, run_underlying hut, run_underlying huu, sizeOf, typeInfo, hi, asInt, asIntOf, hw0, hle, storeCells]
              · intro hnp b off sLen sCap w' hu hle hcells hone hst
                rw [hu, hki]
                have hns : ¬ (n * info.size = 0) := Nat.mul_ne_zero (by omega) (by omega)
                have hzc : Builtin.zeroCells zu.cells n = ((List.replicate n zu.cells.toList).flatten).toArray := by
                  apply Array.ext'
                  simp only [Builtin.zeroCells]
                  exact rep_range n zu.cells
                have hns' : ¬ (n * sz = 0) := Nat.mul_ne_zero (by omega) (by omega)
                simp [Builtin.append_, run_underlying hut, run_underlying huu, sizeOf, typeInfo, zeroValue, hi, hz', asInt, asIntOf, hw, hneg, h48i, hb', hle, hns', hzc, hs', add_plain, hst]
              · intro hnp base sLen sCap olds hu hg hro2 hone hfc
                have hnx := nextslicecap_le (need := sLen + n) (old := sCap) hg
                have := Lib.run_append_grow_zeros (P := P) w t u ty el info zu kq kk hut huu hi hz' base sLen sCap olds (by rw [hs']; rw [← hu]; exact hfc) n hnp (by omega) hg (by
                  have : sLen + n ≤ (sLen + n) * (by_ + 1) := Nat.le_mul_of_pos_right _ (by omega)
                  omega) (by rw [hb']; omega) (by
                  rw [hb']
                  have h1 : Builtin.nextslicecap (sLen + n) sCap * by_ ≤ 2 * (sLen + n) * by_ := Nat.mul_le_mul_right _ hnx
                  have h2 : 2 * (sLen + n) * by_ = 2 * ((sLen + n) * by_) := Nat.mul_assoc ..
                  have h3 : (sLen + n) * by_ ≤ (sLen + n) * (by_ + 1) := Nat.mul_le_mul_left _ (Nat.le_succ _)
                  omega)
                refine ⟨Builtin.zeroCells zu.cells (grownCap w (sLen + n) sCap el - (sLen + n)), grownCap w (sLen + n) sCap el, ?_, ?_, ?_⟩
                · rw [hu, hki, this]
                  congr 2
                  congr 1
                  have hzc : Builtin.zeroCells zu.cells n = ((List.replicate n zu.cells.toList).flatten).toArray := by
                    apply Array.ext'
                    simp only [Builtin.zeroCells]
                    exact rep_range n zu.cells
                  rw [hzc]
                  simp
                · simp [grownCap, Question.cut]
                · simp [Builtin.zeroCells, hzl]
              · intro rv w' hres
                simp [execOp, resolve, invoke, builtin, hres]
          · simp at hev
        · simp at hev
      · simp at hc
    · simp at hc
  · rename_i el du ex ey hnk hut huu hx hy
    split at hc
    · rename_i sz by_ z hs hb hz
      split at hc
      · rename_i hzs
        simp only [Option.some.injEq, EOp.wet.injEq] at hc; subst hc
        simp only [evWet] at hev
        have hvx := eo_sound (a := a) hgl htm hx
        have hvy := eo_sound (a := a) hgl htm hy
        split at hev
        · rename_i n ys hn hcs
          obtain ⟨vs, hvs, hvl, hcells, hlens, _⟩ := cellsOf_sound (P := P) r hn hcs hvy
          obtain ⟨zu, hzu, hoz⟩ := zeroT_some hz
          have hzr := (ofValue_sound (ι := ι) (w := w) (Z := Z) (nx := s.nx) zu z hoz).flat
          have hzl : zu.cells.size = sz := by have := hzr.length; simp at this; omega
          have hkind : (∃ e', P.underlying u = some (.slice e')) ∨ P.underlying u = some .string := by
            have := hzs.2.2
            unfold srcT at this
            split at this
            · exact .inl ⟨_, by assumption⟩
            · exact .inr (by assumption)
            · simp at this
          cases hi : P.info? el with
          | none => rw [hi] at hzu; simp at hzu
          | some info =>
            have hs' : info.size = sz := by simpa [sizeT, hi] using hs
            have hb' : info.bytes = by_ := by simpa [bytesT, hi] using hb
            have hz' : info.zero = some zu := by simpa [hi] using hzu
            have src : (∀ x ∈ vs, oneC x = true) → Src P info.size u (a.eval y) n vs w := fun hone =>
              ⟨hkind, hlens, by rw [hs']; exact hcells w rfl, by rw [hs']; exact hcells w.drew rfl, by rw [hs']; exact hvl, fun x hx => by rw [oneC_eq]; exact hone x hx⟩
            refine fin (res := (Builtin.append_ #[t, u] ty #[a.eval x, a.eval y]).run P w) (append_rel (P := P) (el := el) (vs := vs) (.inr rfl) r hzs.2.1 hvx hvs hvl hev ?_ ?_ ?_) ?_
            · intro h0 base sLen sCap hu hle
              subst h0
              have hv0 : vs = [] := List.eq_nil_of_length_eq_zero (by omega)
              have hc0 := hcells w rfl
              rw [hv0] at hc0
              rw [hu]
              rcases hkind with ⟨e', hk⟩ | hk <;> cases base <;> simp [Builtin.append_, run_underlying hut, run_underlying hk, sizeOf, typeInfo, hi, hlens, hle, hs', hc0, storeCells]
            · intro hnp b off sLen sCap w' hu hle hcel hone hst
              have hrun := run_append_room_src (P := P) w t u ty el info hut hi b off sLen sCap (a.eval y) n vs (src hone) hle (fun j hj => by rw [hs']; exact (hcel j (by omega)).1) (fun j hj => by rw [hs']; exact (hcel j (by omega)).2)
              have hst2 := run_storeCells_cells (P := P) b (off + sLen * sz) vs 0 w (fun j hj => by simpa using (hcel j (by omega)).1) (fun j hj => by simpa using (hcel j (by omega)).2) (fun x hx => by rw [oneC_eq]; exact hone x hx)
              rw [hst] at hst2
              simp only [Nat.add_zero, Result.ok.injEq, true_and] at hst2
              rw [hu, hrun, hs', hst2]
            · intro hnp base sLen sCap olds hu hg hro2 hone hfc
              have hnx := nextslicecap_le (need := sLen + n) (old := sCap) hg
              have := run_append_grow_src (P := P) w t u ty el info zu hut hi hz' base sLen sCap olds (by rw [hs']; rw [← hu]; exact hfc) (a.eval y) n vs (src hone) hg (by
                have : sLen + n ≤ (sLen + n) * (by_ + 1) := Nat.le_mul_of_pos_right _ (by omega)
                omega) (by
                rw [hb']
                have h1 : Builtin.nextslicecap (sLen + n) sCap * by_ ≤ 2 * (sLen + n) * by_ := Nat.mul_le_mul_right _ hnx
                have h2 : 2 * (sLen + n) * by_ = 2 * ((sLen + n) * by_) := Nat.mul_assoc ..
                have h3 : (sLen + n) * by_ ≤ (sLen + n) * (by_ + 1) := Nat.mul_le_mul_left _ (Nat.le_succ _)
                omega)
              exact ⟨Builtin.zeroCells zu.cells (grownCap w (sLen + n) sCap el - (sLen + n)), grownCap w (sLen + n) sCap el, by rw [hu]; exact this, by simp [grownCap, Question.cut], by simp [Builtin.zeroCells, hzl]⟩
            · intro rv w' hres
              simp [execOp, resolve, invoke, builtin, hres]
        · simp at hev
      · simp at hc
    · simp at hc
  · simp at hc
end
end Go.Ev
