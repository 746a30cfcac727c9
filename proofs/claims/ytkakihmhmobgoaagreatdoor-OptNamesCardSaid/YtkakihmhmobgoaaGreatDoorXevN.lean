/- Each instruction that looks at memory, or makes some, does in the model what the evaluator says: appends. -/
import Derived.Test.YtkakihmhmobgoaaGreatDoorXevM
import Derived.Deep.AppendSrc
import Derived.Lib.AppendZerosOnto
namespace Go.Ev

section
variable {ι : Emb} {w : World} {Z : Nat → Prop} {lo : Nat} {gl : Nat → AV} {tm : Tr AV} {P : Program} {a : Act} {s s' : St}

theorem roomy_le {n b : Nat} (h : roomy n b = true) : n * (b + 1) ≤ 68719476736 := Nat.le_of_ble_eq_true h
theorem Rel.drew {nx : Nat} {G : Nat → Option ABlk} (r : Rel ι w Z nx G) : Rel ι w.drew Z nx G := by
  refine ⟨fun id b hb => ?_, r.inj, r.zlt⟩
  obtain ⟨h1, h2, h3, h4⟩ := r.blk id b hb
  refine ⟨h1, h2, h3, ?_⟩
  have hz : ∀ k, Z k → Z k ∧ w.drew.heap[k]? = w.heap[k]? := fun k hk => ⟨hk, rfl⟩
  cases b with
  | cells cs sz ex =>
    obtain ⟨q1, c, el, fz, q2, q3, q4, q5, q6, vs, q7, q8⟩ := h4
    exact ⟨q1, c, el, fz, q2, q3, q4, q5, q6, vs, q7.mono (.refl _ _) hz (Nat.le_refl _), q8⟩
  | map es =>
    obtain ⟨ko, ents, clock, q1, l, q2, q3, q4⟩ := h4
    exact ⟨ko, ents, clock, q1, l, q2.mono (.refl _ _) hz (Nat.le_refl _), q3.mono (.refl _ _) hz (Nat.le_refl _), q4⟩

theorem run_firstCells_at {sz n : Nat} {b o cap : Nat} {vs : List Value} (h : At w b o vs) (hl : vs.length = n * sz) : (Builtin.firstCells sz n (.slice (some ⟨b, o, none⟩) n cap)).run P w = .ok vs.toArray w := by
  simp only [Builtin.firstCells]
  rw [← hl]
  exact run_loadCells_at h
theorem run_firstCells_zero {sz : Nat} {A : Option Addr} {cap : Nat} : (Builtin.firstCells sz 0 (.slice A 0 cap)).run P w = .ok #[] w := by
  cases A <;> simp [Builtin.firstCells, loadCells, loadCellsFrom]

theorem keptEx_or (off ex ext : Nat) : keptEx off ex ext = 0 ∨ (keptEx off ex ext = ext ∧ off = 0 ∧ 2 * (ex / 2) = ext) := by
  unfold keptEx
  split
  · rename_i h
    simp only [Bool.and_eq_true] at h
    exact .inr ⟨rfl, Nat.eq_of_beq_eq_true h.1, Nat.eq_of_beq_eq_true h.2⟩
  · exact .inl rfl
/-- What an append leaves, from what the model's run does in either case. -/
theorem append_rel {x v : AV} {u : Value} {n ext sz bytes : Nat} {ys : List AV} {vs : List Value} {el : TypeId} {res : Result Value} (hext : ext = 0 ∨ ext = 2 * (el + 1)) (r : Rel ι w Z s.nx s.H.get) (hsz : 0 < sz) (hx : VR ι w Z s.nx x u) (hv : VRs ι w Z s.nx ys vs)
    (hn : vs.length = n * sz) (hev : appendTo lo s ext sz bytes x n ys = some (v, s'))
    (hnone : n = 0 → ∀ base sLen sCap, u = .slice base sLen sCap → sLen ≤ sCap → res = .ok u w)
    (hroom : 0 < n → ∀ b off sLen sCap w', u = .slice (some ⟨b, off, none⟩) sLen sCap → sLen + n ≤ sCap → (∀ j, j < n * sz → (w.cell? ⟨b, off + sLen * sz + j, none⟩).isSome = true ∧ w.frozen? ⟨b, off + sLen * sz + j, none⟩ = false) →
      (∀ x ∈ vs, oneC x = true) → (storeCells ⟨b, off + sLen * sz, none⟩ vs 0).run P w = .ok () w' → res = .ok (.slice (some ⟨b, off, none⟩) (sLen + n) sCap) w')
    (hgrow : 0 < n → ∀ base sLen sCap olds, u = .slice base sLen sCap → sCap < sLen + n → (sLen + n) * (bytes + 1) ≤ 68719476736 → (∀ x ∈ vs, oneC x = true) → (Builtin.firstCells sz sLen u).run P w.drew = .ok olds.toArray w.drew →
      ∃ (rest : Array Value) (newCap : Nat), res = .ok (.slice (some ⟨w.heap.size, 0, none⟩) (sLen + n) newCap) (w.drew.alloc (.cells ((olds ++ vs).toArray ++ rest) el)) ∧ sLen + n ≤ newCap ∧ rest.size = (newCap - (sLen + n)) * sz) :
    ∃ rv w' ι', res = .ok rv w' ∧ VR ι' w' Z s'.nx v rv ∧ Rel ι' w' Z s'.nx s'.H.get ∧ Ext ι w Z s.nx lo s.H.get ι' w' Z s'.nx s'.H.get := by
  unfold appendTo at hev
  split at hev
  · rename_i hb
    have h0 : n = 0 := Nat.eq_of_beq_eq_true hb
    have hsame : ∀ base sLen sCap, u = .slice base sLen sCap → sLen ≤ sCap → v = x → s' = s → ∃ rv w' ι', res = .ok rv w' ∧ VR ι' w' Z s'.nx v rv ∧ Rel ι' w' Z s'.nx s'.H.get ∧ Ext ι w Z s.nx lo s.H.get ι' w' Z s'.nx s'.H.get := by
      intro base sLen sCap hu hle hv' hs'
      subst hv' hs'
      exact ⟨u, w, ι, hnone h0 _ _ _ hu hle, hx, r, .refl⟩
    split at hev <;> simp only [Option.some.injEq, Prod.mk.injEq, reduceCtorEq] at hev <;> obtain ⟨rfl, rfl⟩ := hev <;> cases hx <;> exact hsame _ _ _ rfl (by first | omega | assumption) rfl rfl
  · rename_i hb
    have hn0 : n ≠ 0 := Nat.ne_of_beq_eq_false hb
    have hnp : 0 < n := Nat.pos_of_ne_zero hn0
    split at hev
    · simp at hev
    rename_i hall
    have hone := cellsOk_sound hall hv
    -- a new row
    have grow : ∀ {base : Option Addr} {sLen sCap : Nat} {xs : List AV} {olds : List Value} {s1 : St} {ext' : Nat}, u = .slice base sLen sCap → sCap < sLen + n → (sLen + n) * (bytes + 1) ≤ 68719476736 →
        (Builtin.firstCells sz sLen u).run P w.drew = .ok olds.toArray w.drew → VRs ι w Z s.nx xs olds → xs.length = sLen * sz → s1.nx = s.nx → (∀ i b, s1.H.get i = some b → s.H.get i = some b) → (ext' = 0 ∨ ext' = 2 * (el + 1)) →
        v = .sl s.nx 0 (sLen + n) → s' = s1.new (.cells (xs ++ ys) sz ext') →
        ∃ rv w' ι', res = .ok rv w' ∧ VR ι' w' Z s'.nx v rv ∧ Rel ι' w' Z s'.nx s'.H.get ∧ Ext ι w Z s.nx lo s.H.get ι' w' Z s'.nx s'.H.get := by
      intro base sLen sCap xs olds s1 ext' hu hg hroomy hfc hxs hxl hnx hsub hext' hv' hs'
      obtain ⟨rest, newCap, hres, hcap, hrest⟩ := hgrow hnp base sLen sCap olds hu hg hroomy hone hfc
      have hol := hxs.length
      have hyl := hv.length
      have r1 : Rel ι w.drew Z s1.nx s1.H.get := by rw [hnx]; exact (r.sub hsub).drew
      have hz : ∀ k, Z k → Z k ∧ w.drew.heap[k]? = w.heap[k]? := fun k hk => ⟨hk, rfl⟩
      have hcs : VRs ι w.drew Z s1.nx (xs ++ ys) (olds ++ vs) := by rw [hnx]; exact (hxs.append hv).mono (.refl _ _) hz (Nat.le_refl _)
      let c : Array Value := (olds ++ vs).toArray ++ rest
      have hcsz : c.size = newCap * sz := by
        have h1 : (newCap - (sLen + n)) * sz = newCap * sz - (sLen + n) * sz := Nat.sub_mul ..
        have h2 : (sLen + n) * sz = sLen * sz + n * sz := Nat.add_mul ..
        have h3 : (sLen + n) * sz ≤ newCap * sz := Nat.mul_le_mul_right _ hcap
        simp only [c, Array.size_append, List.size_toArray, List.length_append, hrest]
        omega
      obtain ⟨h1, h2⟩ := rel_new (lo := lo) (w' := w.drew.alloc (.cells c el (0, 0))) (sz := sz) (ex := ext') (el := el) r1 rfl hcs (fun i y hi => by
          have hlt : i < (olds ++ vs).length := by
            rcases Nat.lt_or_ge i (olds ++ vs).length with h | h
            · exact h
            · rw [List.getElem?_eq_none h] at hi; simp at hi
          simp only [c]
          rw [Array.getElem?_append_left (by simpa using hlt)]
          simpa using hi) (by
          have h2 : (sLen + n) * sz = sLen * sz + n * sz := Nat.add_mul ..
          have h3 : (sLen + n) * sz ≤ newCap * sz := Nat.mul_le_mul_right _ hcap
          rw [hcsz]; simp only [List.length_append]; omega) (fun h => by omega) (fun h => by omega) rfl rfl rfl
      subst hv' hs'
      refine ⟨_, _, _, hres, ?_, h1, ?_⟩
      · have := VR.sl (ι := ι.set s1.nx w.drew.heap.size 0 c.size sz) (w := w.drew.alloc (.cells c el (0, 0))) (Z := Z) (s1.nx + 1) s1.nx 0 (sLen + n) newCap (Nat.lt_succ_self _) hcap (by simp [Emb.set, hcsz])
        simp only [Emb.set, if_true, World.size_drew] at this
        rw [← hnx]
        simpa [Emb.set, St.new] using this
      · have e0 : Ext ι w Z s.nx lo s.H.get ι w.drew Z s1.nx s1.H.get := ⟨.refl _ _, Nat.le_of_eq hnx.symm, fun _ h => h, fun _ h => .inl h, fun _ _ _ => rfl, Nat.le_refl _, fun id hid => by
          obtain ⟨b, hb⟩ := Option.isSome_iff_exists.1 hid
          exact .inr ⟨id, by rw [hsub id b hb]; rfl, rfl, .inr rfl⟩, rfl, rfl, rfl⟩
        exact e0.trans h2
    split at hev
    · split at hev
      · rename_i hro
        simp only [Option.some.injEq, Prod.mk.injEq] at hev
        obtain ⟨rfl, rfl⟩ := hev
        cases hx
        exact grow (xs := []) (olds := []) (s1 := s) rfl (by omega) (by simpa using roomy_le hro) (by simp [Builtin.firstCells]) (.nil _) (by simp) rfl (fun _ _ h => h) hext (by simp) (by simp)
      · simp at hev
    · rename_i id off len
      split at hev
      · rename_i cs z ex hrow
        split at hev
        · rename_i xs hz hcut hro
          have hzz : z = sz := Nat.eq_of_beq_eq_true hz
          subst hzz
          obtain ⟨rfl, hxl⟩ := cut_some hcut
          obtain ⟨hid, hblt, hnz, hszi, cur, el', fz, hh, hcs, hle, ⟨hexa, hty⟩, hfr, us, hus, hcell⟩ := r.blk id _ (row_some hrow)
          have hat : At w (ι.blk id) (ι.off id) us := by
            intro i y hi
            unfold World.cell?
            simp only [hh]
            exact hcell i y hi
          have hsub := (hus.drop off).take (len * z)
          have hsl := hsub.length
          have hro' := roomy_le hro
          have hke : keptEx off ex ext = 0 ∨ keptEx off ex ext = 2 * (el + 1) := by
            rcases keptEx_or off ex ext with e | ⟨e, _, _⟩
            · exact .inl e
            · rw [e]; exact hext
          split at hev
          · -- the row ends where the slice does
            rename_i hex
            simp only [Bool.and_eq_true] at hex
            have hend : off + len * z = cs.length := Nat.eq_of_beq_eq_true hex.2
            have hfull := hexa (Nat.eq_of_beq_eq_true hex.1)
            simp only [Option.some.injEq, Prod.mk.injEq] at hev
            obtain ⟨rfl, rfl⟩ := hev
            cases hx with
            | sl _ _ _ _ cap hid' hlc hcp =>
              have hcap : cap < len + n := by
                rw [hszi] at hcp
                have : cap * z ≤ len * z := by omega
                have := Nat.le_of_mul_le_mul_right this hsz
                omega
              refine grow (s1 := s) rfl hcap hro' (run_firstCells_at (w := w.drew) (fun i y hi => at_sub hat off (len * z) i y hi) (by rw [← hsl]; exact hxl)) hsub hxl rfl (fun _ _ h => h) hext rfl rfl
            | sl0 _ _ _ A hid' =>
              refine grow (s1 := s) (olds := []) rfl (by omega) hro' (by rw [run_firstCells_zero]) ?_ hxl rfl (fun _ _ h => h) hext rfl rfl
              simp only [Nat.zero_mul, List.take_zero]; exact .nil _
          · split at hev
            · rename_i hlo
              simp only [Option.some.injEq, Prod.mk.injEq] at hev
              obtain ⟨rfl, rfl⟩ := hev
              have hdel : ∀ i b, (s.H.del id).get i = some b → s.H.get i = some b ∧ i ≠ id := by
                intro i b hb
                rw [Tr.get_put] at hb
                split at hb
                · simp at hb
                · rename_i hne; exact ⟨hb, hne⟩
              cases hx with
              | sl _ _ _ _ cap hid' hlc hcp =>
                rw [hszi] at hcp
                by_cases hcap : cap < len + n
                · refine grow (s1 := { s with H := s.H.del id }) rfl hcap hro' (run_firstCells_at (w := w.drew) (fun i y hi => at_sub hat off (len * z) i y hi) (by rw [← hsl]; exact hxl)) hsub hxl rfl (fun i b h => (hdel i b h).1) hke rfl rfl
                · -- in place
                  have hcapz : (len + n) * z ≤ cap * z := Nat.mul_le_mul_right _ (by omega)
                  have hadd : (len + n) * z = len * z + n * z := Nat.add_mul ..
                  obtain ⟨w', cur', hrun, hh', hs', hj, hk, hsize, ho, ht, hou⟩ := run_storeCells_ev (P := P) (ι.blk id) (ι.off id + off + len * z) el' fz vs 0 cur w hh hfr (by omega) hone
                  have hres := hroom hnp _ _ _ _ w' rfl (by omega) (fun j hj => by
                    have hlt : ι.off id + off + len * z + j < cur.size := by omega
                    refine ⟨?_, ?_⟩
                    · unfold World.cell?
                      simp only [hh]
                      simp [hlt]
                    · unfold World.frozen?
                      simp only [hh]
                      have := hfr _ hlt
                      cases hb : (decide (fz.1 ≤ ι.off id + off + len * z + j) && decide (ι.off id + off + len * z + j < fz.2)) with
                      | false => rfl
                      | true => simp at hb; exact absurd hb this) hone hrun
                  let ι' := ι.set s.nx (ι.blk id) (ι.off id + off) (ι.size id) z
                  have hzk : ∀ k, Z k → Z k ∧ w'.heap[k]? = w.heap[k]? := fun k hz => ⟨hz, hk k (fun e => hnz (e ▸ hz))⟩
                  have hag : ι'.agree ι s.nx := Emb.set_agree ι _ _ _ _ _ _ (Nat.le_refl _)
                  have hput := rel_put (lo := lo) (id := s.nx) (B := ι.blk id) (ι' := ι') (w' := w') (nx' := s.nx + 1) (G' := (St.new { s with H := s.H.del id } (.cells (List.take (len * z) (List.drop off cs) ++ ys) z (keptEx off ex ext))).H.get) (b := .cells (List.take (len * z) (List.drop off cs) ++ ys) z (keptEx off ex ext)) r hag (Nat.le_succ _)
                    (fun k _ hne => hk k hne) (Nat.le_of_eq hsize.symm) (by
                      intro i b hi hb
                      simp only [St.new, Tr.set] at hb
                      rw [Tr.get_put_ne _ _ hi] at hb
                      obtain ⟨hb1, hb2⟩ := hdel i b hb
                      exact ⟨hb1, r.inj i id _ _ hb1 (row_some hrow) hb2⟩) (by simp only [St.new, Tr.set]; exact Tr.get_put_self _ _ _) (Nat.lt_succ_self _) (by simp [ι', Emb.set]) (by rw [hsize]; exact hblt) hnz (by
                      refine ⟨by simp [ι', Emb.set], cur', el', fz, ?_, ?_, ?_, ?_, ?_, (us.drop off).take (len * z) ++ vs, ?_, ?_⟩
                      · simp [ι', Emb.set]; exact hh'
                      · simp [ι', Emb.set]; rw [hs']; exact hcs
                      · simp only [ι', Emb.set, if_true, List.length_append]
                        have := hv.length
                        omega
                      · refine ⟨fun h => by rcases keptEx_or off ex ext with e | ⟨e, _, _⟩ <;> rw [e] at h <;> omega, fun h => ?_⟩
                        rcases keptEx_or off ex ext with e | ⟨e, h0, h1⟩
                        · omega
                        · rw [e] at h ⊢
                          obtain ⟨q1, q2⟩ := hty (by omega)
                          exact ⟨by simp [ι', Emb.set, q1, h0], by omega⟩
                      · intro i hi; exact hfr i (by omega)
                      · exact (hsub.append hv).mono hag hzk (Nat.le_succ _)
                      · intro i y hi
                        simp only [ι', Emb.set, if_true]
                        rw [hj]
                        by_cases h1 : i < len * z
                        · rw [if_neg (by omega)]
                          rw [List.getElem?_append_left (by omega)] at hi
                          have := at_sub hat off (len * z) i y hi
                          unfold World.cell? at this
                          simp only [hh] at this
                          simpa using this
                        · have h2 : i < len * z + vs.length := by
                            rcases Nat.lt_or_ge i (((us.drop off).take (len * z) ++ vs).length) with h | h
                            · simp only [List.length_append] at h; omega
                            · rw [List.getElem?_eq_none h] at hi; simp at hi
                          rw [if_pos (by omega)]
                          rw [List.getElem?_append_right (by omega)] at hi
                          have e : ι.off id + off + i - (ι.off id + off + len * z + 0) = i - (List.take (len * z) (List.drop off us)).length := by omega
                          rw [e]; exact hi) (.inr ⟨id, hlo, by rw [row_some hrow]; rfl, rfl⟩) ho ht hou
                  refine ⟨_, w', ι', hres, ?_, hput.1, hput.2⟩
                  have := VR.sl (ι := ι') (w := w') (Z := Z) (s.nx + 1) s.nx 0 (len + n) cap (Nat.lt_succ_self _) (by omega) (by simp [ι', Emb.set]; omega)
                  simpa [ι', Emb.set, St.new] using this
              | sl0 _ _ _ A hid' =>
                refine grow (s1 := { s with H := s.H.del id }) (olds := []) rfl (by omega) hro' (by rw [run_firstCells_zero]) ?_ hxl rfl (fun i b h => (hdel i b h).1) hke rfl rfl
                simp only [Nat.zero_mul, List.take_zero]; exact .nil _
            · simp at hev
        · simp at hev
      · simp at hev
    · simp at hev
end
end Go.Ev
