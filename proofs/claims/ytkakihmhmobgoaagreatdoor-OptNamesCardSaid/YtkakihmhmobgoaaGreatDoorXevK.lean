/- Steps on memory: what a new row, a write, an append leave. -/
import Derived.Test.YtkakihmhmobgoaaGreatDoorXevJ
import Derived.Laws.Cells
namespace Go.Ev

section
variable {ι : Emb} {w : World} {Z : Nat → Prop} {nx lo : Nat} {P : Program}

/-- One block is made or written; others may be let go. -/
theorem rel_put {G G' : Nat → Option ABlk} {ι' : Emb} {w' : World} {nx' id B : Nat} {b : ABlk} (r : Rel ι w Z nx G) (ha : ι'.agree ι nx) (hn : nx ≤ nx')
    (hw : ∀ k, k < w.heap.size → k ≠ B → w'.heap[k]? = w.heap[k]?) (hs : w.heap.size ≤ w'.heap.size)
    (hG : ∀ i x, i ≠ id → G' i = some x → G i = some x ∧ ι.blk i ≠ B) (hb : G' id = some b) (hid : id < nx') (hB : ι'.blk id = B) (hBs : B < w'.heap.size) (hZ : ¬ Z B)
    (hbr : BR ι' w' Z nx' id b) (hold : w.heap.size ≤ B ∨ ∃ id0, lo ≤ id0 ∧ (G id0).isSome ∧ ι.blk id0 = B)
    (hos : w'.os = w.os) (htp : w'.tape = w.tape) (hout : w'.output = w.output) :
    Rel ι' w' Z nx' G' ∧ Ext ι w Z nx lo G ι' w' Z nx' G' := by
  have hzk : ∀ k, Z k → Z k ∧ w'.heap[k]? = w.heap[k]? := fun k hk => ⟨hk, hw k (r.zlt k hk) (fun e => hZ (e ▸ hk))⟩
  refine ⟨⟨?_, ?_, fun k hk => Nat.lt_of_lt_of_le (r.zlt k hk) hs⟩, ?_⟩
  · intro i x hx
    by_cases hi : i = id
    · subst hi
      rw [hb] at hx
      simp only [Option.some.injEq] at hx; subst hx
      exact ⟨hid, hB ▸ hBs, hB ▸ hZ, hbr⟩
    · obtain ⟨hg, hne⟩ := hG i x hi hx
      obtain ⟨h1, h2, h3, h4⟩ := r.blk i x hg
      obtain ⟨e1, e2, e3, e4⟩ := ha i h1
      refine ⟨Nat.lt_of_lt_of_le h1 hn, by rw [e1]; omega, by rw [e1]; exact h3, ?_⟩
      have hk := hw (ι.blk i) h2 hne
      cases x with
      | cells cs sz ex =>
        obtain ⟨q1, c, el, fz, q2, q3, q4, q5, q6, vs, q7, q8⟩ := h4
        exact ⟨by rw [e4]; exact q1, c, el, fz, by rw [e1, hk]; exact q2, by rw [e3]; exact q3, by rw [e2]; exact q4, by rw [e2]; exact q5, q6, vs, q7.mono ha hzk hn, by rw [e2]; exact q8⟩
      | map es =>
        obtain ⟨ko, ents, clock, q1, l, q2, q3, q4⟩ := h4
        exact ⟨ko, ents, clock, by rw [e1, hk]; exact q1, l, q2.mono ha hzk hn, q3.mono ha hzk hn, q4⟩
  · intro i j x y hx hy hij
    by_cases hi : i = id
    · by_cases hj : j = id
      · omega
      · obtain ⟨hg, hne⟩ := hG j y hj hy
        have e1 := (ha j (r.blk j y hg).1).1
        rw [e1, hi, hB]
        exact fun e => hne e.symm
    · obtain ⟨hg, hne⟩ := hG i x hi hx
      have e1 := (ha i (r.blk i x hg).1).1
      by_cases hj : j = id
      · rw [e1, hj, hB]; exact hne
      · obtain ⟨hg', hne'⟩ := hG j y hj hy
        have e2 := (ha j (r.blk j y hg').1).1
        rw [e1, e2]
        exact r.inj i j x y hg hg' hij
  · refine ⟨ha, hn, fun _ h => h, fun _ h => .inl h, ?_, hs, ?_, hos, htp, hout⟩
    · intro k hk hkn
      refine hw k hk ?_
      intro e
      rcases hold with h | ⟨id0, h1, h2, h3⟩
      · omega
      · exact hkn id0 h1 h2 (h3.trans e.symm)
    · intro i hi
      obtain ⟨x, hx⟩ := Option.isSome_iff_exists.1 hi
      by_cases hii : i = id
      · rw [hii, hB]
        rcases hold with h | ⟨id0, h1, h2, h3⟩
        · exact .inl h
        · exact .inr ⟨id0, h2, h3, .inl h1⟩
      · obtain ⟨hg, hne⟩ := hG i x hii hx
        exact .inr ⟨i, by rw [hg]; rfl, ((ha i (r.blk i x hg).1).1).symm, .inr rfl⟩

/-- A new block. -/
def Emb.set (ι : Emb) (i B o n z : Nat) : Emb :=
  ⟨fun k => if k = i then B else ι.blk k, fun k => if k = i then o else ι.off k, fun k => if k = i then n else ι.size k, fun k => if k = i then z else ι.sz k⟩
theorem Emb.set_agree (ι : Emb) (i B o n z nx : Nat) (h : nx ≤ i) : (ι.set i B o n z).agree ι nx := by
  intro k hk
  have : k ≠ i := by omega
  simp [Emb.set, this]

theorem rel_new {s : St} {w' : World} {cs : List AV} {sz ex : Nat} {c : Array Value} {el : TypeId} {vs : List Value} (r : Rel ι w Z s.nx s.H.get)
    (hh : w'.heap = w.heap.push (.cells c el (0, 0))) (hv : VRs ι w Z s.nx cs vs) (hc : ∀ (i : Nat) (v : Value), vs[i]? = some v → c[i]? = some v) (hle : cs.length ≤ c.size) (hex : ex % 2 = 1 → cs.length = c.size) (hel : 2 ≤ ex → ex / 2 = el + 1)
    (hos : w'.os = w.os) (htp : w'.tape = w.tape) (hout : w'.output = w.output) :
    Rel (ι.set s.nx w.heap.size 0 c.size sz) w' Z (s.nx + 1) (s.new (.cells cs sz ex)).H.get ∧ Ext ι w Z s.nx lo s.H.get (ι.set s.nx w.heap.size 0 c.size sz) w' Z (s.nx + 1) (s.new (.cells cs sz ex)).H.get := by
  have hzlt := r.zlt
  have hw : ∀ k, k < w.heap.size → w'.heap[k]? = w.heap[k]? := fun k hk => by rw [hh, Array.getElem?_push, if_neg (by omega)]
  refine rel_put (id := s.nx) (B := w.heap.size) (b := .cells cs sz ex) r (Emb.set_agree ι _ _ _ _ _ _ (Nat.le_refl _)) (Nat.le_succ _) (fun k hk _ => hw k hk) (by rw [hh]; simp) ?_ ?_ (Nat.lt_succ_self _)
    (by simp [Emb.set]) (by rw [hh]; simp) (fun hz => Nat.lt_irrefl _ (hzlt _ hz)) ?_ (.inl (Nat.le_refl _)) hos htp hout
  · intro i x hi hx
    simp only [St.new, Tr.set] at hx
    rw [Tr.get_put_ne _ _ hi] at hx
    exact ⟨hx, fun e => by have := (r.blk i x hx).2.1; omega⟩
  · simp only [St.new, Tr.set]; exact Tr.get_put_self _ _ _
  · refine ⟨by simp [Emb.set], c, el, (0, 0), ?_, by simp [Emb.set], by simp [Emb.set]; exact hle, ⟨by simp [Emb.set]; exact hex, fun h => ⟨by simp [Emb.set], hel h⟩⟩, fun i _ => by simp, vs, ?_, ?_⟩
    · simp [Emb.set, hh]
    · exact hv.mono (Emb.set_agree ι _ _ _ _ _ _ (Nat.le_refl _)) (fun k hk => ⟨hk, hw k (hzlt k hk)⟩) (Nat.le_succ _)
    · simp [Emb.set]; exact hc

theorem row_some {s : St} {id : Nat} {cs : List AV} {sz ex : Nat} (h : row s id = some (cs, sz, ex)) : s.H.get id = some (.cells cs sz ex) := by
  unfold row at h
  split at h
  · rename_i h1
    simp only [Option.some.injEq, Prod.mk.injEq] at h
    obtain ⟨rfl, rfl, rfl⟩ := h
    exact h1
  · simp at h

/-- The cells of a row, where the evaluator's block says them. -/
theorem at_row {s : St} {id : Nat} {cs : List AV} {sz ex : Nat} (r : Rel ι w Z nx s.H.get) (h : row s id = some (cs, sz, ex)) : ∃ vs, VRs ι w Z nx cs vs ∧ At w (ι.blk id) (ι.off id) vs := by
  obtain ⟨_, _, _, _, c, el, fz, h1, h2, h3, h4, h5, vs, h6, h7⟩ := r.blk id _ (row_some h)
  refine ⟨vs, h6, ?_⟩
  intro i v hi
  unfold World.cell?
  simp only [h1]
  exact h7 i v hi

theorem run_loadCells_at {b o : Nat} {vs : List Value} (h : At w b o vs) : (loadCells ⟨b, o, none⟩ vs.length).run P w = .ok vs.toArray w :=
  run_loadCells_list w ⟨b, o, none⟩ vs fun j v hj => by rw [add_plain]; exact h j v hj
theorem run_loadVar_at {t : TypeId} {n : Nat} {g : Bool} {b o : Nat} {vs : List Value} {c : List AV} {v : AV} (hs : sizeT P t = some n) (hg : aggT P t = some g) (h : At w b o vs) (hl : vs.length = n) (hv : VRs ι w Z nx c vs)
    (hu : unflat g c = some v) : ∃ u, (loadVar t ⟨b, o, none⟩).run P w = .ok u w ∧ VR ι w Z nx v u := by
  rcases unflat_sound hu hv with ⟨rfl, h1⟩ | ⟨rfl, u, rfl, _, h1⟩
  · refine ⟨_, ?_, h1⟩
    simp only [loadVar, Sem.run_bind, run_aggT hg, Result.andThen_ok, if_true, run_sizeT hs]
    rw [← hl, run_loadCells_at h]
    rfl
  · refine ⟨u, ?_, h1⟩
    simp only [loadVar, Sem.run_bind, run_aggT hg, Result.andThen_ok, Bool.false_eq_true, if_false]
    have := h 0 u rfl
    simp only [Nat.add_zero] at this
    simp [this]

def oneC : Value → Bool
  | .agg _ | .tuple _ => false
  | _ => true
/-- A run of stores into one row. -/
theorem run_storeCells_ev (b o : Nat) (el : TypeId) (fz : Nat × Nat) : ∀ (vs : List Value) (i : Nat) (cur : Array Value) (w : World), w.heap[b]? = some (.cells cur el fz) → (∀ j, j < cur.size → ¬ (fz.1 ≤ j ∧ j < fz.2)) →
    o + i + vs.length ≤ cur.size → (∀ v ∈ vs, oneC v = true) →
    ∃ w' cur', (storeCells ⟨b, o, none⟩ vs i).run P w = .ok () w' ∧ w'.heap[b]? = some (.cells cur' el fz) ∧ cur'.size = cur.size ∧
      (∀ j, cur'[j]? = if o + i ≤ j ∧ j < o + i + vs.length then vs[j - (o + i)]? else cur[j]?) ∧ (∀ k, k ≠ b → w'.heap[k]? = w.heap[k]?) ∧ w'.heap.size = w.heap.size ∧
      w'.os = w.os ∧ w'.tape = w.tape ∧ w'.output = w.output
  | [], i, cur, w, h, _, _, _ => ⟨w, cur, by simp [storeCells], h, rfl, fun j => by rw [if_neg (by simp only [List.length_nil]; omega)], fun _ _ => rfl, rfl, rfl, rfl, rfl⟩
  | v :: r, i, cur, w, h, hf, hle, h1 => by
    simp only [List.length_cons] at hle
    have hcell : w.cell? ⟨b, o + i, none⟩ = some cur[o + i] := by
      unfold World.cell?
      simp only [h, Option.isSome_none, Bool.false_eq_true, if_false]
      exact Array.getElem?_eq_getElem (by omega)
    have hfr : w.frozen? ⟨b, o + i, none⟩ = false := by
      unfold World.frozen?
      simp only [h]
      have := hf (o + i) (by omega)
      cases hb : (decide (fz.1 ≤ o + i) && decide (o + i < fz.2)) with
      | false => rfl
      | true => simp at hb; exact absurd hb this
    let w1 := w.setCell ⟨b, o + i, none⟩ v
    have hb1 : w1.heap[b]? = some (.cells (cur.setIfInBounds (o + i) v) el fz) := by
      simp only [w1, World.setCell, Array.getElem?_modify, if_true, h, Option.map_some]
      rfl
    have hk1 : ∀ k, k ≠ b → w1.heap[k]? = w.heap[k]? := fun k hk => by
      simp only [w1, World.setCell, Array.getElem?_modify]
      rw [if_neg (fun e => hk e.symm)]
    obtain ⟨w', cur', hr, hh, hs, hj, hk, hsz, ho, ht, hou⟩ := run_storeCells_ev b o el fz r (i + 1) (cur.setIfInBounds (o + i) v) w1 hb1 (by simpa using hf) (by simp; omega) (fun x hx => h1 x (by simp [hx]))
    refine ⟨w', cur', ?_, hh, by simpa using hs, ?_, fun k hne => (hk k hne).trans (hk1 k hne), by rw [hsz]; simp [w1], by rw [ho]; rfl, by rw [ht]; rfl, by rw [hou]; rfl⟩
    · have hone := h1 v (by simp)
      have : (store ⟨b, o + i, none⟩ v).run P w = .ok () w1 := by
        cases v <;> simp [oneC] at hone <;> simp [store, Sem.run, hcell, hfr, w1]
      simp only [storeCells, add_plain, Sem.run_bind, this, Result.andThen_ok]
      exact hr
    · intro j
      rw [hj j]
      simp only [List.length_cons]
      by_cases h2 : o + (i + 1) ≤ j ∧ j < o + (i + 1) + r.length
      · rw [if_pos h2, if_pos (by omega)]
        have : j - (o + i) = (j - (o + (i + 1))) + 1 := by omega
        rw [this]; rfl
      · rw [if_neg h2]
        by_cases h3 : j = o + i
        · subst h3
          rw [if_pos (by omega)]
          simp [show o + i < cur.size by omega]
        · rw [if_neg (by omega)]
          rw [Array.getElem?_setIfInBounds_ne (fun e => h3 e.symm)]

theorem cellOk_sound {v : AV} {u : Value} (h : v.cellOk = true) (hv : VR ι w Z nx v u) : oneC u = true := by
  cases hv <;> simp [AV.cellOk] at h <;> first | rfl | (rename_i h1; cases u <;> simp [one] at h1 <;> rfl)
theorem cellsOk_sound : ∀ {v : List AV} {u : List Value}, v.all AV.cellOk = true → VRs ι w Z nx v u → ∀ x ∈ u, oneC x = true
  | [], _, _, hv, x, hx => by cases hv; simp at hx
  | a :: r, _, h, hv, x, hx => by
    cases hv with
    | cons _ _ y _ us h1 h2 =>
      simp only [List.all_cons, Bool.and_eq_true] at h
      rcases List.mem_cons.1 hx with rfl | hx
      · exact cellOk_sound h.1 h1
      · exact cellsOk_sound h.2 h2 x hx
end
end Go.Ev
