/- The run of a region whose order is open, in any order: what holds behind each operation. -/
import Derived.Test.YtkakihmhmobgoaaGreatDoorXevZ
namespace Go.Ev

section
variable {ι ι' : Emb} {w w' : World} {Z Z' : Nat → Prop} {nx a z : Nat}
mutual
theorem VR.monoC' (hz : ∀ b, Z b → Z' b ∧ w'.heap[b]? = w.heap[b]?) (ha : ∀ i, i < nx → ¬ (a ≤ i ∧ i < z) → ι'.blk i = ι.blk i ∧ ι'.off i = ι.off i ∧ ι'.size i = ι.size i ∧ ι'.sz i = ι.sz i) {v : AV} {u : Value}
    (h : VR ι w Z nx v u) : v.clear a z = true → VR ι' w' Z' nx v u :=
  match h with
  | .bad _ v => fun _ => .bad _ _
  | .bool _ b => fun _ => .bool _ _
  | .int _ k n => fun _ => .int _ _ _
  | .str _ s => fun _ => .str _ _
  | .nilp _ => fun _ => .nilp _
  | .ptr _ id off h => fun hc => by
    obtain ⟨e1, e2, _, _⟩ := ha id h (by simp [AV.clear] at hc; omega)
    have := VR.ptr (ι := ι') (w := w') (Z := Z') nx id off h
    rw [e1, e2] at this
    exact this
  | .cptr _ v b o vs h1 h2 h3 => fun _ => .cptr _ _ _ _ vs (hz b h1).1 (h2.keep (hz b h1).2) (VRs.mono' hz h3 0 (fun i hi => absurd hi (Nat.not_lt_zero i)) (Nat.le_refl 0))
  | .nils _ => fun _ => .nils _
  | .sl _ id off len cap h hl hc => fun hcl => by
    obtain ⟨e1, e2, e3, e4⟩ := ha id h (by simp [AV.clear] at hcl; omega)
    have := VR.sl (ι := ι') (w := w') (Z := Z') nx id off len cap h hl (by rw [e2, e3, e4]; exact hc)
    rw [e1, e2] at this
    exact this
  | .sl0 _ id off a h => fun _ => .sl0 _ _ _ _ h
  | .lst0 _ a cap => fun _ => .lst0 _ _ _
  | .lst _ es b o cap sz vs hl h1 h2 hs h3 => fun _ => .lst _ es b o cap sz vs hl (hz b h1).1 (h2.keep (hz b h1).2) hs (VRs.mono' hz h3 0 (fun i hi => absurd hi (Nat.not_lt_zero i)) (Nat.le_refl 0))
  | .nilm _ => fun _ => .nilm _
  | .mp _ id h => fun hc => by
    obtain ⟨e1, _, _, _⟩ := ha id h (by simp [AV.clear] at hc; omega)
    have := VR.mp (ι := ι') (w := w') (Z := Z') nx id h
    rw [e1] at this
    exact this
  | .nilf _ => fun _ => .nilf _
  | .fn _ f xs ys us vs hx hy => fun hc => by
    simp only [AV.clear, Bool.and_eq_true] at hc
    exact .fn _ f xs ys us vs (VRs.monoC' hz ha hx hc.1) (VRs.monoC' hz ha hy hc.2)
  | .nili _ => fun _ => .nili _
  | .ifc _ t v u h => fun hc => .ifc _ t v u (VR.monoC' hz ha h (by simpa [AV.clear] using hc))
  | .agg _ cs vs h => fun hc => .agg _ cs vs (VRs.monoC' hz ha h (by simpa [AV.clear] using hc))
  | .tup _ cs vs h => fun hc => .tup _ cs vs (VRs.monoC' hz ha h (by simpa [AV.clear] using hc))
  | .any _ u h => fun _ => .any _ u h
  | .mint _ k b m n h => fun _ => .mint _ k b m n h
theorem VRs.monoC' (hz : ∀ b, Z b → Z' b ∧ w'.heap[b]? = w.heap[b]?) (ha : ∀ i, i < nx → ¬ (a ≤ i ∧ i < z) → ι'.blk i = ι.blk i ∧ ι'.off i = ι.off i ∧ ι'.size i = ι.size i ∧ ι'.sz i = ι.sz i) {v : List AV} {u : List Value}
    (h : VRs ι w Z nx v u) : AV.clears a z v = true → VRs ι' w' Z' nx v u :=
  match h with
  | .nil _ => fun _ => .nil _
  | .cons _ v u vs us h t => fun hc => by
    simp only [AV.clears, Bool.and_eq_true] at hc
    exact .cons _ v u vs us (VR.monoC' hz ha h hc.1) (VRs.monoC' hz ha t hc.2)
end
theorem BR.monoC {id : Nat} {b : ABlk} (hz : ∀ b, Z b → Z' b ∧ w'.heap[b]? = w.heap[b]?) (ha : ∀ i, i < nx → ¬ (a ≤ i ∧ i < z) → ι'.blk i = ι.blk i ∧ ι'.off i = ι.off i ∧ ι'.size i = ι.size i ∧ ι'.sz i = ι.sz i)
    (hid : ι'.blk id = ι.blk id ∧ ι'.off id = ι.off id ∧ ι'.size id = ι.size id ∧ ι'.sz id = ι.sz id) (hk : w'.heap[ι.blk id]? = w.heap[ι.blk id]?) (hc : b.clear a z = true) (h : BR ι w Z nx id b) : BR ι' w' Z' nx id b := by
  obtain ⟨e1, e2, e3, e4⟩ := hid
  cases b with
  | cells cs sz ex =>
    obtain ⟨q1, c, el, fz, q2, q3, q4, q5, q6, vs, q7, q8⟩ := h
    exact ⟨by rw [e4]; exact q1, c, el, fz, by rw [e1, hk]; exact q2, by rw [e3]; exact q3, by rw [e2]; exact q4, by rw [e2]; exact q5, q6, vs, VRs.monoC' hz ha q7 hc, by rw [e2]; exact q8⟩
  | map es =>
    obtain ⟨ko, ents, clock, q1, l, q2, q3, q4⟩ := h
    simp only [ABlk.clear, Bool.and_eq_true] at hc
    exact ⟨ko, ents, clock, by rw [e1, hk]; exact q1, l, VRs.monoC' hz ha q2 hc.1, VRs.monoC' hz ha q3 hc.2, q4⟩
end

theorem clearBlks_mem {a z i : Nat} {b : ABlk} : ∀ {l : List (Nat × Option ABlk)}, clearBlks a z l = true → (i, some b) ∈ l → b.clear a z = true
  | [], _, h => by simp at h
  | (j, some c) :: r, h, hm => by
    simp only [clearBlks, Bool.and_eq_true] at h
    rcases List.mem_cons.1 hm with e | hm
    · simp only [Prod.mk.injEq, Option.some.injEq] at e; rw [e.2]; exact h.1
    · exact clearBlks_mem h.2 hm
  | (j, none) :: r, h, hm => by
    simp only [clearBlks] at h
    rcases List.mem_cons.1 hm with e | hm
    · simp at e
    · exact clearBlks_mem h hm
theorem wrote_mem {B : Tr ABlk} {i : Nat} : ∀ {W : List Nat}, i ∈ W → (i, B.get i) ∈ wrote B W
  | [], h => by simp at h
  | j :: r, h => by
    simp only [wrote]
    rcases List.mem_cons.1 h with rfl | h
    · exact List.mem_cons_self ..
    · exact List.mem_cons_of_mem _ (wrote_mem h)
theorem delta_mem {B : Tr ABlk} {i : Nat} : ∀ {n a : Nat}, a ≤ i → i < a + n → (i, B.get i) ∈ delta B a n
  | 0, a, h1, h2 => by omega
  | n + 1, a, h1, h2 => by
    simp only [delta]
    by_cases e : i = a
    · subst e; exact List.mem_cons_self ..
    · exact List.mem_cons_of_mem _ (delta_mem (by omega) (by omega))
theorem did_mem {s : St} {k nx i : Nat} {f : Option (List Nat) × List Nat} (h : i ∈ f.2 ∨ (nx ≤ i ∧ i < s.nx)) : (i, s.H.get i) ∈ (didOf s k nx f).d := by
  simp only [didOf]
  rcases h with h | h
  · exact List.mem_append_left _ (wrote_mem h)
  · exact List.mem_append_right _ (delta_mem h.1 (by omega))

/-- What holds once some operations of a region have been done. -/
structure Inv (P : Program) (E : Env) (lo : Nat) (ops : Array Oper) (n : Nat) (rc : Nat → Rc) (Hs : Nat → Tr ABlk) (bf : Nat → Nat) (wr : Nat → Bool) (N : Nat) (ι0 : Emb) (w0 : World) (Z0 : Nat → Prop) (a0 : Act)
    (D : Nat → Prop) (ι : Emb) (w : World) (Z : Nat → Prop) (a : Act) : Prop where
  dn : ∀ k, D k → k < n
  down : Down n bf D
  blk : ∀ i b m, GB rc wr (fun i => ((Hs 0).get i).map (·, (rc 0).nx)) D n i = some (b, m) → i < m ∧ ι.blk i < w.heap.size ∧ ¬ Z (ι.blk i) ∧ BR ι w Z m i b
  inj : ∀ i j x y, GB rc wr (fun i => ((Hs 0).get i).map (·, (rc 0).nx)) D n i = some x → GB rc wr (fun i => ((Hs 0).get i).map (·, (rc 0).nx)) D n j = some y → i ≠ j → ι.blk i ≠ ι.blk j
  zlt : ∀ b, Z b → b < w.heap.size
  fd : ∀ e, e < n → D e → (rc e).mem = true → ∀ i, ((rc e).s'.H.get i).isSome → i < (rc e).s'.nx
  vals : ∀ k o d, D k → ops[k]? = some o → o.dst = some d → VR ι w Z (rc k).s'.nx (rc k).v (a.tmps.getD d undef)
  olds : ∀ t, (∀ k o, D k → ops[k]? = some o → o.dst ≠ some t) → a.tmps.getD t undef = a0.tmps.getD t undef
  df : a.defers = a0.defers
  sz : a.tmps.size = a0.tmps.size
  ext : Ext ι0 w0 Z0 (rc 0).nx lo (Hs 0).get ι w Z (rc n).nx (fun i => (GB rc wr (fun i => ((Hs 0).get i).map (·, (rc 0).nx)) D n i).map (·.1))

section
variable {P : Program} {E : Env} {lo n : Nat} {ops : Array Oper} {rc : Nat → Rc} {Hs : Nat → Tr ABlk} {dss ods : Nat → List Did} {bf : Nat → Nat} {wr : Nat → Bool} {N : Nat}
  {ι0 : Emb} {w0 : World} {Z0 : Nat → Prop} {a0 : Act} {D : Nat → Prop} {ι : Emb} {w : World} {Z : Nat → Prop} {a : Act}

/-- The places ahead of an operation. -/
theorem DF.tm_none (d : DF P E lo ops n rc Hs dss ods bf wr) {t : Nat} : ∀ k, k ≤ n → (∀ j o, j < k → ops[j]? = some o → o.dst ≠ some t) → (rc k).tm.get t = (rc 0).tm.get t
  | 0, _, _ => rfl
  | k + 1, hk, h => by
    obtain ⟨o, eo, ho, _, hd, hs⟩ := d.step k (by omega)
    rw [hs.tm2, ← d.tm_none k (by omega) fun j o hj => h j o (by omega)]
    have hne := h k o (by omega) ho
    rw [← hd] at hne
    cases hdst : eo.dst with
    | none => rfl
    | some q =>
      rw [hdst] at hne
      simp only [tmPut]
      exact Tr.get_put_ne _ _ (fun e => hne (by rw [e]))
theorem DF.tm_some (d : DF P E lo ops n rc Hs dss ods bf wr) {t j : Nat} {o : Oper} (hj : ops[j]? = some o) (hd : o.dst = some t) : ∀ k, j < k → k ≤ n → (rc k).tm.get t = some (rc j).v
  | 0, h, _ => by omega
  | k + 1, h, hk => by
    obtain ⟨o', eo, ho, _, hd', hs⟩ := d.step k (by omega)
    rw [hs.tm2]
    by_cases e : j = k
    · subst e
      rw [hj] at ho
      simp only [Option.some.injEq] at ho; subst ho
      rw [hd', hd]
      simp only [tmPut]
      exact Tr.get_put_self _ _ _
    · rw [← d.tm_some hj hd k (by omega) (by omega)]
      have hne := (d.one j k o o' t hj ho e hd).1
      rw [← hd'] at hne
      cases hdst : eo.dst with
      | none => rfl
      | some q =>
        rw [hdst] at hne
        simp only [tmPut]
        exact Tr.get_put_ne _ _ (fun e => hne (by rw [e]))

abbrev g00 (rc : Nat → Rc) (Hs : Nat → Tr ABlk) : Nat → Option (ABlk × Nat) := fun i => ((Hs 0).get i).map (·, (rc 0).nx)

/-- What an operation looks at is there, as it looks at it. -/
theorem Inv.sees (d : DF P E lo ops n rc Hs dss ods bf wr) (hd0 : ∀ i, ((Hs 0).get i).isSome → i < (rc 0).nx) (h : Inv P E lo ops n rc Hs bf wr N ι0 w0 Z0 a0 D ι w Z a) {k : Nat} (hk : k < n) (hnk : ¬ D k) (hr : ∀ j, (bf k).testBit j = true → D j)
    {i : Nat} {b : ABlk} (hb : (rc k).M.get i = some b) : ∃ m, m ≤ (rc k).nx ∧ GB rc wr (g00 rc Hs) D n i = some (b, m) := by
  have hm : (rc k).mem = true := by
    cases hm : (rc k).mem with
    | true => rfl
    | false =>
      obtain ⟨o, eo, _, _, _, hs⟩ := d.step k hk
      obtain ⟨_, _, h1, _⟩ := hs.nomem hm
      rw [h1] at hb; simp at hb
  obtain ⟨m, hg, hin⟩ := d.sub (nx0 := (rc 0).nx) hk hm hb
  have hdown : Down n bf (fun j => (bf k).testBit j = true) := fun x hx hx' j hj => d.trans k hk x hx' j hj
  have hdom := d.dom (D := D) rfl hd0 h.fd k (Nat.le_of_lt hk) (fun j => (bf k).testBit j = true) hr hdown
  refine ⟨m, GB_bound d (g0 := g00 rc Hs) (S := fun j => (bf k).testBit j = true) ?_ k (Nat.le_of_lt hk) i b m hg, ?_⟩
  · intro i b m hg
    simp only [g00, Option.map_eq_some_iff, Prod.mk.injEq] at hg
    obtain ⟨_, _, _, rfl⟩ := hg
    exact Nat.le_refl _
  · rw [GB_later (k := k) n (Nat.le_of_lt hk)]
    · rw [← hg]
      apply GB_eq
      intro j hj ht
      refine ⟨fun hDj => ?_, hr j⟩
      cases hbj : (bf k).testBit j with
      | true => rfl
      | false =>
        exfalso
        obtain ⟨hwj, hwk, hap1, _, _⟩ := d.apart hj hk ht.1 hm hbj
        rcases ht.2 with ht' | ht' | ht'
        · rw [hwj] at ht'; simp at ht'
        · exact apartF_mem hap1 ht' (hin hwk)
        · exact hdom j (by omega) ht.1 (by simp [hbj]) i (by rw [hg]; rfl) ht'
    · intro j hkj hjn hDj ht
      have hne : j ≠ k := fun e => hnk (e ▸ hDj)
      have hbk : (bf j).testBit k = false := by
        cases hb : (bf j).testBit k with
        | false => rfl
        | true => exact absurd (h.down j hjn hDj k hb) hnk
      obtain ⟨hwk, hwj, _, hap2, _⟩ := d.apart (j := k) (k := j) (by omega) hjn hm ht.1 hbk
      rcases ht.2 with ht' | ht' | ht'
      · rw [hwj] at ht'; simp at ht'
      · exact apartF_mem hap2 ht' (hin hwk)
      · refine hdom j hjn ht.1 ?_ i (by rw [hg]; rfl) ht'
        intro hb'
        have := d.bflt k hk j hb'
        omega

/-- A block of those told of in the end holds none that an operation not yet done makes, but by number. -/
theorem Inv.clear (d : DF P E lo ops n rc Hs dss ods bf wr) (h : Inv P E lo ops n rc Hs bf wr N ι0 w0 Z0 a0 D ι w Z a) {k : Nat} (hk : k < n) (hnk : ¬ D k) : ∀ m, m ≤ n → ∀ i b q, GB rc wr (g00 rc Hs) D m i = some (b, q) →
    q ≤ (rc k).nx ∨ (rc k).s'.nx ≤ (rc k).nx ∨ b.clear (rc k).nx (rc k).s'.nx = true
  | 0, _, i, b, q, hg => by
    simp only [GB, g00, Option.map_eq_some_iff, Prod.mk.injEq] at hg
    obtain ⟨_, _, _, rfl⟩ := hg
    exact .inl (d.mono (Nat.zero_le k) (Nat.le_of_lt hk))
  | m + 1, hm, i, b, q, hg => by
    simp only [GB] at hg
    split at hg
    · rename_i ht
      obtain ⟨hDm, ht⟩ := ht
      have hne : m ≠ k := fun e => hnk (e ▸ hDm)
      simp only [Option.map_eq_some_iff, Prod.mk.injEq] at hg
      obtain ⟨b', hb', rfl, rfl⟩ := hg
      rcases Nat.lt_or_gt_of_ne hne with hlt | hgt
      · exact .inl (d.before hlt (Nat.le_of_lt hk))
      · cases hmk : (rc k).mem with
        | false =>
          obtain ⟨o, eo, _, _, _, hs⟩ := d.step k hk
          exact .inr (.inl (Nat.le_of_eq (hs.nomem hmk).2.2.2.1))
        | true =>
          have hbk : (bf m).testBit k = false := by
            cases hb : (bf m).testBit k with
            | false => rfl
            | true => exact absurd (h.down m (by omega) hDm k hb) hnk
          obtain ⟨hwk, hwm, _, _, hc⟩ := d.apart (j := k) (k := m) hgt (by omega) hmk ht.1 hbk
          rcases hc with hc | ⟨_, hc⟩
          · exact .inr (.inl hc)
          · right; right
            have h3 := ht.2
            rw [hwm] at h3
            simp only [Bool.false_eq_true, false_or] at h3
            have := did_mem (s := (rc m).s') (k := m) (nx := (rc m).nx) (f := ((rc m).F, (rc m).W)) h3
            rw [hb'] at this
            exact clearBlks_mem hc this
    · exact Inv.clear d h hk hnk m (by omega) i b q hg
end
end Go.Ev
