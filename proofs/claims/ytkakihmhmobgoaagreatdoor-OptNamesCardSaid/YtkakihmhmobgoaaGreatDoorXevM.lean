/- Each instruction that looks at memory, or makes some, does in the model what the evaluator says: writes, slices. -/
import Derived.Test.YtkakihmhmobgoaaGreatDoorXevL
namespace Go.Ev

section
variable {ι : Emb} {w : World} {Z : Nat → Prop} {lo : Nat} {gl : Nat → AV} {tm : Tr AV} {P : Program} {a : Act} {s s' : St}

theorem over_some {cs c d : List AV} {off : Nat} (h : over cs off c = some d) : off + c.length ≤ cs.length ∧ d = cs.take off ++ c ++ cs.drop (off + c.length) := by
  unfold over at h
  split at h
  · rename_i hle
    simp only [Option.some.injEq] at h
    exact ⟨Nat.le_of_ble_eq_true hle, h.symm⟩
  · simp at h

/-- A run of stores into a block of the evaluator's. -/
theorem rel_write {id off sz ex : Nat} {cs c cs' : List AV} {vs : List Value} (r : Rel ι w Z s.nx s.H.get) (hrow : row s id = some (cs, sz, ex)) (hlo : lo ≤ id)
    (hc : over cs off c = some cs') (hv : VRs ι w Z s.nx c vs) (hok : c.all AV.cellOk = true) :
    ∃ w', (storeCells ⟨ι.blk id, ι.off id + off, none⟩ vs 0).run P w = .ok () w' ∧ Rel ι w' Z s.nx (s.H.set id (.cells cs' sz ex)).get ∧
      Ext ι w Z s.nx lo s.H.get ι w' Z s.nx (s.H.set id (.cells cs' sz ex)).get := by
  have hg := row_some hrow
  obtain ⟨hid, hlt, hnz, hsz, cur, el, fz, hh, hcs, hle, ⟨hexa, hty⟩, hfr, us, hus, hcell⟩ := r.blk id _ hg
  obtain ⟨hle2, rfl⟩ := over_some hc
  have hlv := hv.length
  have hlu := hus.length
  obtain ⟨w', cur', hrun, hh', hs', hj, hk, hsize, ho, ht, hou⟩ := run_storeCells_ev (P := P) (ι.blk id) (ι.off id + off) el fz vs 0 cur w hh hfr (by omega) (cellsOk_sound hok hv)
  refine ⟨w', hrun, ?_⟩
  refine rel_put (id := id) (B := ι.blk id) (b := .cells _ sz ex) r (.refl _ _) (Nat.le_refl _) (fun k _ hne => hk k hne) (by omega) ?_ (Tr.get_put_self _ _ _) hid rfl (by omega) hnz ?_
    (.inr ⟨id, hlo, by rw [hg]; rfl, rfl⟩) ho ht hou
  · intro i x hi hx
    rw [Tr.get_put_ne _ _ hi] at hx
    exact ⟨hx, r.inj i id _ _ hx hg hi⟩
  · have hzk : ∀ k, Z k → Z k ∧ w'.heap[k]? = w.heap[k]? := fun k hz => ⟨hz, hk k (fun e => hnz (e ▸ hz))⟩
    refine ⟨hsz, cur', el, fz, hh', by rw [hs']; exact hcs, by simp; omega, ⟨fun he => by have := hexa he; simp; omega, hty⟩, fun i hi => hfr i (by omega), us.take off ++ vs ++ us.drop (off + vs.length), ?_, ?_⟩
    · have := ((hus.take off).append hv).append (hus.drop (off + c.length))
      rw [hlv] at this ⊢
      exact this.mono (.refl _ _) hzk (Nat.le_refl _)
    · intro i v hi
      rw [hj]
      by_cases h1 : i < off
      · rw [if_neg (by omega)]
        refine hcell i v ?_
        rw [List.append_assoc, List.getElem?_append_left (by simp; omega)] at hi
        simpa [List.getElem?_take, h1] using hi
      · by_cases h2 : i < off + vs.length
        · rw [if_pos (by omega)]
          rw [List.append_assoc, List.getElem?_append_right (by simp; omega), List.getElem?_append_left (by simp; omega)] at hi
          simp only [List.length_take] at hi
          have e : ι.off id + i - (ι.off id + off + 0) = i - min off us.length := by omega
          rw [e]; exact hi
        · rw [if_neg (by omega)]
          refine hcell i v ?_
          rw [List.append_assoc, List.getElem?_append_right (by simp; omega), List.getElem?_append_right (by simp; omega)] at hi
          simp only [List.length_take, List.getElem?_drop] at hi
          have e : off + vs.length + (i - min off us.length - vs.length) = i := by omega
          rw [e] at hi; exact hi

theorem wet_store {t : TypeId} {x y : Operand} {d : Wet} {v : AV} {dst ty pos after guard} (r : Rel ι w Z s.nx s.H.get) (hgl : GlR ι w Z gl) (htm : TmR ι w Z s.nx tm a.tmps)
    (hc : ofOp P (.store t x y) = some (.wet d)) (hev : evWet gl tm lo s d = some (v, s')) : WOut ι w Z lo s ((execOp a.eval ⟨dst, .store t x y, ty, pos, after, guard⟩).run P w) v s' := by
  simp only [ofOp] at hc
  split at hc
  · rename_i n ex ey hs hx hy
    simp only [Option.some.injEq, EOp.wet.injEq] at hc; subst hc
    simp only [evWet] at hev
    have hvx := eo_sound (a := a) hgl htm hx
    have hvy := eo_sound (a := a) hgl htm hy
    split at hev
    · rename_i id off hid
      rw [hid] at hvx
      split at hev
      · rename_i hlo
        split at hev
        · rename_i cs sz exa hrow
          split at hev
          · rename_i cs' hb hall hov
            simp only [Option.some.injEq, Prod.mk.injEq] at hev
            obtain ⟨rfl, rfl⟩ := hev
            generalize hxv : a.eval x = xv at hvx
            cases hvx with
            | ptr _ _ _ hlt =>
              obtain ⟨w', hrun, h1, h2⟩ := rel_write (P := P) r hrow hlo hov hvy.flat hall
              refine ⟨.skip, w', ι, Z, ?_, .inr ⟨rfl, rfl⟩, h1, h2⟩
              have hl := hvy.flat.length
              have hn := Nat.eq_of_beq_eq_true hb
              have hsz : (a.eval y).cells.size = n := by simp at hl; omega
              simp [execOp, Instr.storeAt, Instr.sureAddr, hxv, storeVar, run_sizeT hs, hsz, hrun]
          · simp at hev
        · simp at hev
      · simp at hev
    · simp at hev
  · simp at hc

theorem wet_slice {t : TypeId} {x : Operand} {lo' hi' : Option Operand} {d : Wet} {v : AV} {dst ty pos after guard} (r : Rel ι w Z s.nx s.H.get) (hgl : GlR ι w Z gl) (htm : TmR ι w Z s.nx tm a.tmps)
    (hc : ofOp P (.slice t x lo' hi' none) = some (.wet d)) (hev : evWet gl tm lo s d = some (v, s')) : WOut ι w Z lo s ((execOp a.eval ⟨dst, .slice t x lo' hi' none, ty, pos, after, guard⟩).run P w) v s' := by
  simp only [ofOp] at hc
  split at hc
  · simp at hc
  · rename_i elt e el eh hu hx h1 h2
    split at hc
    · rename_i sz hs
      simp only [Option.some.injEq, EOp.wet.injEq] at hc; subst hc
      simp only [evWet] at hev
      have hv := eo_sound (a := a) hgl htm hx
      have key : ∀ {A : Option Addr} {len cap l h : Nat}, a.eval x = .slice A len cap → evo gl tm el 0 = some l → evo gl tm eh len = some h → l ≤ h → h ≤ cap →
          (execOp a.eval ⟨dst, .slice t x lo' hi' none, ty, pos, after, guard⟩).run P w = .ok (.value (.slice (if cap = l then A else A.map (·.add (l * sz))) (h - l) (cap - l))) w := by
        intro A len cap l h hA hl hh hlh hhc
        have hsb := sliceBounds_sound (a := a) (P := P) (isS := true) (cap := cap) hgl htm h1 h2 hl hh hlh hhc
        simp [execOp, Instr.sliceAt, Instr.slice, run_underlying hu, hA, hsb, run_sizeT hs]
      generalize hv' : a.eval x = xv at hv
      split at hev
      · rename_i he
        rw [he] at hv
        split at hev
        · rename_i hl hh
          simp only [Option.some.injEq, Prod.mk.injEq] at hev
          obtain ⟨rfl, rfl⟩ := hev
          cases hv with
          | nils => exact WOut.same r (key hv' hl hh (Nat.le_refl _) (Nat.le_refl _)) (by simp; exact .nils _)
        · simp at hev
      · rename_i id off len he
        rw [he] at hv
        split at hev
        · rename_i cs z exa l h hrow hl hh
          split at hev
          · rename_i hb
            simp only [Option.some.injEq, Prod.mk.injEq] at hev
            obtain ⟨rfl, rfl⟩ := hev
            obtain ⟨hb1, hb2, rfl⟩ := hb
            have hszi := (r.blk id _ (row_some hrow)).2.2.2.1
            cases hv with
            | sl _ _ _ _ cap hid hlc hcp =>
              refine WOut.same r (key hv' hl hh hb1 (Nat.le_trans hb2 hlc)) ?_
              by_cases hcl : cap = l
              · rw [if_pos hcl]
                have h0 : h - l = 0 := by omega
                have h1 : cap - l = 0 := by omega
                rw [h0, h1]
                exact .sl0 _ _ _ _ hid
              · rw [if_neg hcl]
                simp only [Option.map_some, add_plain]
                have := VR.sl (ι := ι) (w := w) (Z := Z) s.nx id (off + l * z) (h - l) (cap - l) hid (by omega) (by
                  rw [hszi] at hcp ⊢
                  have : l ≤ cap := by omega
                  have : cap * z = l * z + (cap - l) * z := by rw [← Nat.add_mul]; congr 1; omega
                  omega)
                rw [← Nat.add_assoc] at this
                exact this
            | sl0 _ _ _ A hid =>
              refine WOut.same r (key hv' hl hh hb1 hb2) ?_
              have h0 : h = 0 := by omega
              have h1 : l = 0 := by omega
              subst h0 h1
              exact .sl0 _ _ _ _ hid
          · simp at hev
        · simp at hev
      · rename_i es he
        rw [he] at hv
        split at hev
        · rename_i l h hl hh
          split at hev
          · rename_i hb
            simp only [Option.some.injEq, Prod.mk.injEq] at hev
            obtain ⟨rfl, rfl⟩ := hev
            obtain ⟨hb1, hb2, hb3⟩ := hb
            cases hv with
            | lst0 _ A cap =>
              simp at hb2
              refine WOut.same r (key hv' hl hh hb1 (by omega)) ?_
              have h0 : h = 0 := by omega
              have h1 : l = 0 := by omega
              subst h0 h1
              exact .lst0 _ _ _
            | lst _ _ b o cap sz' vs hlc hz ha hsz hvs =>
              refine WOut.same r (key hv' hl hh hb1 (Nat.le_trans hb2 hlc)) ?_
              have hlen : ((es.drop l).take (h - l)).length = h - l := by simp; omega
              cases es with
              | nil =>
                simp at hb2
                have h0 : h = 0 := by omega
                have h1 : l = 0 := by omega
                subst h0 h1
                exact .lst0 _ _ _
              | cons e0 er =>
                have hz2 : sz' = sz := by
                  have h3 := hsz e0 (by simp)
                  have h4 := Nat.eq_of_beq_eq_true hb3
                  omega
                subst hz2
                by_cases hcl : cap = l
                · have h0 : h - l = 0 := by omega
                  have h1 : cap - l = 0 := by omega
                  rw [if_pos hcl, h0, h1]
                  simp only [List.take_zero]
                  exact .lst0 _ _ _
                · rw [if_neg hcl]
                  simp only [Option.map_some, add_plain]
                  have hseg : (((e0 :: er).drop l).take (h - l)).flatMap flat = (((e0 :: er).flatMap flat).drop (l * sz')).take ((h - l) * sz') := by
                    have key2 : ∀ (es : List AV) (k : Nat), (∀ e ∈ es, (flat e).length = sz') → (es.take k).flatMap flat = (es.flatMap flat).take (k * sz') := by
                      intro es
                      induction es with
                      | nil => intro k _; simp
                      | cons x es ih =>
                        intro k hk
                        cases k with
                        | zero => simp
                        | succ k =>
                          have hx := hk x (by simp)
                          rw [List.take_succ_cons, List.flatMap_cons, List.flatMap_cons, ih k (fun e he => hk e (by simp [he])), Nat.succ_mul, Nat.add_comm (k * sz') sz', ← hx]
                          exact (List.take_length_add_append _).symm
                    have key3 : ∀ (es : List AV) (k : Nat), (∀ e ∈ es, (flat e).length = sz') → (es.drop k).flatMap flat = (es.flatMap flat).drop (k * sz') := by
                      intro es
                      induction es with
                      | nil => intro k _; simp
                      | cons x es ih =>
                        intro k hk
                        cases k with
                        | zero => simp
                        | succ k =>
                          have hx := hk x (by simp)
                          rw [List.drop_succ_cons, List.flatMap_cons, ih k (fun e he => hk e (by simp [he])), Nat.succ_mul, Nat.add_comm (k * sz') sz', ← hx, ← List.drop_drop]
                          simp
                    rw [key2 _ _ (fun e he => hsz e (List.mem_of_mem_drop he)), key3 _ _ hsz]
                  have hsub := (hvs.drop (l * sz')).take ((h - l) * sz')
                  rw [← hseg] at hsub
                  have hcp : ((List.drop l (e0 :: er)).take (h - l)).length ≤ cap - l := by rw [hlen]; omega
                  have := VR.lst (ι := ι) (w := w) (Z := Z) s.nx _ b (o + l * sz') (cap - l) sz' _ hcp hz (at_sub ha _ _) (fun e he => hsz e (List.mem_of_mem_drop (List.mem_of_mem_take he))) hsub
                  rw [hlen] at this
                  exact this
          · simp at hev
        · simp at hev
      · simp at hev
    · simp at hc
  · rename_i n elt e el eh hu hx h1 h2
    split at hc
    · rename_i sz hs
      simp only [Option.some.injEq, EOp.wet.injEq] at hc; subst hc
      simp only [evWet] at hev
      have hv := eo_sound (a := a) hgl htm hx
      split at hev
      · rename_i id off he
        rw [he] at hv
        split at hev
        · rename_i l h hl hh
          split at hev
          · rename_i hb
            split at hev
            · rename_i cs z exa hrow
              split at hev
              · rename_i hb2
                simp only [Option.some.injEq, Prod.mk.injEq] at hev
                obtain ⟨rfl, rfl⟩ := hev
                obtain ⟨hoff, hz, hcl, hexa⟩ := hb2
                subst hoff hz
                obtain ⟨_, _, _, hsz, cur, el', fz, hh', hcs, hle, ⟨hex2, _⟩, _, _⟩ := r.blk id _ (row_some hrow)
                have hfull := hex2 hexa
                generalize hxv : a.eval x = xv at hv
                cases hv with
                | ptr _ _ _ hlt =>
                  have hsb := sliceBounds_sound (a := a) (P := P) (isS := false) (cap := n) hgl htm h1 h2 hl hh hb.1 hb.2
                  refine WOut.same (u := .slice (some (if n = l then ⟨ι.blk id, ι.off id + 0, none⟩ else (⟨ι.blk id, ι.off id + 0, none⟩ : Addr).add (l * z))) (h - l) (n - l)) r ?_ ?_
                  · simp [execOp, Instr.sliceAt, run_underlying hu, hxv, hsb, run_sizeT hs, Instr.sureAddr]
                  · by_cases hcl2 : n = l
                    · have h0 : h - l = 0 := by omega
                      have h1 : n - l = 0 := by omega
                      rw [h0, h1]
                      exact .sl0 _ _ _ _ hlt
                    · rw [if_neg hcl2, add_plain]
                      have := VR.sl (ι := ι) (w := w) (Z := Z) s.nx id (l * z) (h - l) (n - l) hlt (by omega) (by
                        rw [hsz]
                        have : n * z = l * z + (n - l) * z := by rw [← Nat.add_mul]; congr 1; omega
                        omega)
                      exact this
              · simp at hev
            · simp at hev
          · simp at hev
        · simp at hev
      · simp at hev
    · simp at hc
  · simp at hc
end
end Go.Ev
