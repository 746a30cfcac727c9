/- What is answered and never written any more. -/
import Derived.Test.YtkakihmhmobgoaaGreatDoorXevU
namespace Go.Ev

section
variable {ι : Emb} {w : World} {Z : Nat → Prop} {nx lo : Nat} {s s' : St} {ι' : Emb} {w' : World} {Z' : Nat → Prop}

theorem BR.mono {nx' id : Nat} {b : ABlk} (ha : ι'.agree ι nx) (hid : id < nx) (hz : ∀ b, Z b → Z' b ∧ w'.heap[b]? = w.heap[b]?) (hn : nx ≤ nx') (hk : w'.heap[ι.blk id]? = w.heap[ι.blk id]?) (h : BR ι w Z nx id b) : BR ι' w' Z' nx' id b := by
  obtain ⟨e1, e2, e3, e4⟩ := ha id hid
  cases b with
  | cells cs sz ex =>
    obtain ⟨q1, c, el, fz, q2, q3, q4, q5, q6, vs, q7, q8⟩ := h
    exact ⟨by rw [e4]; exact q1, c, el, fz, by rw [e1, hk]; exact q2, by rw [e3]; exact q3, by rw [e2]; exact q4, by rw [e2]; exact q5, q6, vs, q7.mono ha hz hn, by rw [e2]; exact q8⟩
  | map es =>
    obtain ⟨ko, ents, clock, q1, l, q2, q3, q4⟩ := h
    exact ⟨ko, ents, clock, by rw [e1, hk]; exact q1, l, q2.mono ha hz hn, q3.mono ha hz hn, q4⟩

theorem chunks_spec {sz : Nat} : ∀ {n : Nat} {c : List AV}, c.length = n * sz → c.all AV.cellOk = true → (chunks n sz c).flatMap flat = c ∧ (∀ e ∈ chunks n sz c, (flat e).length = sz) ∧ (chunks n sz c).length = n
  | 0, c, hl, _ => by
    have : c = [] := List.eq_nil_of_length_eq_zero (by omega)
    subst this
    simp [chunks]
  | n + 1, c, hl, hok => by
    have hle : sz ≤ c.length := by rw [hl, Nat.succ_mul]; omega
    obtain ⟨h1, h2, h3⟩ := chunks_spec (sz := sz) (n := n) (c := c.drop sz) (by rw [List.length_drop, hl, Nat.succ_mul]; omega) (by
      rw [List.all_eq_true] at hok ⊢
      exact fun x hx => hok x (List.mem_of_mem_drop hx))
    have hd : ∃ e, chunks (n + 1) sz c = e :: chunks n sz (c.drop sz) ∧ flat e = c.take sz := by
      simp only [chunks]
      refine ⟨_, rfl, ?_⟩
      cases hb : Nat.beq sz 1 with
      | true =>
        have : sz = 1 := Nat.eq_of_beq_eq_true hb
        subst this
        cases c with
        | nil => simp at hle
        | cons x r =>
          simp only [List.all_cons, Bool.and_eq_true] at hok
          have hx := hok.1
          cases x <;> simp [AV.cellOk] at hx <;> simp [flat]
      | false => cases c <;> rfl
    obtain ⟨e, he, hf⟩ := hd
    rw [he]
    refine ⟨by simp only [List.flatMap_cons, hf, h1, List.take_append_drop], ?_, by simp [h3]⟩
    intro x hx
    rcases List.mem_cons.1 hx with rfl | hx
    · rw [hf, List.length_take]; omega
    · exact h2 x hx

theorem freeze_sound {Z2 : Nat → Prop} {l : Nat} (r : Rel ι' w' Z' s'.nx s'.H.get) (hz : ∀ b, Z' b → Z2 b) (hnew : ∀ id b, s'.H.get id = some b → l ≤ id → Z2 (ι'.blk id)) :
    ∀ (n : Nat), (∀ (b : Nat) (v v' : AV) (u : Value), freeze s' l b n v = some v' → VR ι' w' Z' s'.nx v u → VR ι' w' Z2 b v' u) ∧
      (∀ (b : Nat) (v v' : List AV) (u : List Value), freezes s' l b n v = some v' → VRs ι' w' Z' s'.nx v u → VRs ι' w' Z2 b v' u) := by
  have hz' : ∀ b, Z' b → Z2 b ∧ w'.heap[b]? = w'.heap[b]? := fun b hb => ⟨hz b hb, rfl⟩
  have up0 : ∀ {vs : List AV} {us : List Value}, VRs ι' w' Z' 0 vs us → VRs ι' w' Z2 0 vs us := fun h => h.mono (.refl _ _) hz' (Nat.le_refl _)
  intro n
  induction n with
  | zero => exact ⟨fun _ _ _ _ h => by simp [freeze] at h, fun _ _ _ _ h => by simp [freezes] at h⟩
  | succ n ih =>
    obtain ⟨ih1, ih2⟩ := ih
    constructor
    · intro b v v' u h hv
      cases hv with
      | ptr _ id off hid =>
        simp only [freeze] at h
        split at h
        · rename_i hb; simp only [Option.some.injEq] at h; subst h; exact .ptr _ _ _ hb
        · simp at h
      | mp _ id hid =>
        simp only [freeze] at h
        split at h
        · rename_i hb; simp only [Option.some.injEq] at h; subst h; exact .mp _ _ hb
        · simp at h
      | sl _ id off len cap hid hl hc =>
        simp only [freeze] at h
        split at h
        · rename_i hb; simp only [Option.some.injEq] at h; subst h; exact .sl _ _ _ _ _ hb hl hc
        · split at h
          · simp at h
          · rename_i hlo
            split at h
            · rename_i cs sz ex hrow
              split at h
              · rename_i c hcut
                split at h
                · rename_i c' hfc
                  split at h
                  · rename_i hok
                    simp only [Option.some.injEq] at h; subst h
                    obtain ⟨vs, hvs, hat⟩ := at_row r hrow
                    obtain ⟨rfl, hcl⟩ := cut_some hcut
                    have hsub := (hvs.drop off).take (len * sz)
                    have hfr := ih2 0 _ _ _ hfc hsub
                    have hcl' : c'.length = len * sz := by rw [hfr.length, ← hsub.length]; exact hcl
                    obtain ⟨e1, e2, e3⟩ := chunks_spec hcl' hok
                    have hat2 := at_sub hat off (len * sz)
                    have := VR.lst (ι := ι') (w := w') (Z := Z2) b (chunks len sz c') (ι'.blk id) (ι'.off id + off) cap sz _ (by rw [e3]; exact hl) (hnew id _ (row_some hrow) (by omega)) hat2 e2 (by rw [e1]; exact hfr)
                    rw [e3] at this
                    exact this
                  · simp at h
                · simp at h
              · simp at h
            · simp at h
      | sl0 _ id off a hid =>
        simp only [freeze] at h
        split at h
        · rename_i hb; simp only [Option.some.injEq] at h; subst h; exact .sl0 _ _ _ _ hb
        · split at h
          · simp at h
          · split at h
            · split at h
              · split at h
                · split at h
                  · simp only [Option.some.injEq] at h; subst h; exact .lst0 _ _ _
                  · simp at h
                · simp at h
              · simp at h
            · simp at h
      | agg _ cs vs hv =>
        simp only [freeze] at h
        split at h
        · rename_i cs' hc; simp only [Option.some.injEq] at h; subst h; exact .agg _ _ _ (ih2 _ _ _ _ hc hv)
        · simp at h
      | tup _ cs vs hv =>
        simp only [freeze] at h
        split at h
        · rename_i cs' hc; simp only [Option.some.injEq] at h; subst h; exact .tup _ _ _ (ih2 _ _ _ _ hc hv)
        · simp at h
      | ifc _ t v u hv =>
        simp only [freeze] at h
        split at h
        · rename_i cs' hc; simp only [Option.some.injEq] at h; subst h; exact .ifc _ _ _ _ (ih1 _ _ _ _ hc hv)
        · simp at h
      | fn _ f xs ys us vs hx hy =>
        simp only [freeze] at h
        split at h
        · rename_i xs' ys' hc hc'; simp only [Option.some.injEq] at h; subst h; exact .fn _ _ _ _ _ _ (ih2 _ _ _ _ hc hx) (ih2 _ _ _ _ hc' hy)
        · simp at h
      | cptr _ v b' o vs h1 h2 h3 => simp only [freeze, Option.some.injEq] at h; subst h; exact .cptr _ _ _ _ _ (hz _ h1) h2 (up0 h3)
      | lst _ es b' o cap sz vs hl h1 h2 hs h3 => simp only [freeze, Option.some.injEq] at h; subst h; exact .lst _ _ _ _ _ _ _ hl (hz _ h1) h2 hs (up0 h3)
      | any _ u h1 => simp only [freeze, Option.some.injEq] at h; subst h; exact .any _ _ h1
      | mint _ k b m n h1 => simp only [freeze, Option.some.injEq] at h; subst h; exact .mint _ _ _ _ _ h1
      | _ => simp only [freeze, Option.some.injEq] at h; subst h; constructor
    · intro b v v' u h hv
      cases hv with
      | nil => simp only [freezes, Option.some.injEq] at h; subst h; exact .nil _
      | cons _ x y vs us hx ht =>
        simp only [freezes] at h
        split at h
        · rename_i x' r' h1 h2
          simp only [Option.some.injEq] at h; subst h
          exact .cons _ _ _ _ _ (ih1 _ _ _ _ h1 hx) (ih2 _ _ _ _ h2 ht)
        · simp at h

/-- Behind a call that writes nothing that was there, with an answer that is never written. -/
theorem pure_sound {n : Nat} {v v' : AV} {u : Value} (r : Rel ι w Z s.nx s.H.get) (r' : Rel ι' w' Z' s'.nx s'.H.get) (e : Ext ι w Z s.nx s.nx s.H.get ι' w' Z' s'.nx s'.H.get) (hv : VR ι' w' Z' s'.nx v u)
    (hf : freeze s' s.nx s.nx n v = some v') :
    ∃ Z2, VR ι' w' Z2 s.nx v' u ∧ Rel ι' w' Z2 s.nx s.H.get ∧ Ext ι w Z s.nx lo s.H.get ι' w' Z2 s.nx s.H.get := by
  have none_new : ∀ id, s.nx ≤ id → ¬ (s.H.get id).isSome := by
    intro id hid hs
    obtain ⟨x, hx⟩ := Option.isSome_iff_exists.1 hs
    have := (r.blk id x hx).1
    omega
  have hkept : ∀ b, b < w.heap.size → w'.heap[b]? = w.heap[b]? := fun b hb => e.kept b hb fun id hid hs => absurd hs (none_new id hid)
  have hzold : ∀ b, Z' b → b < w.heap.size → Z b := by
    intro b hb hlt
    rcases e.znew b hb with h | h | ⟨id, h1, h2, _⟩
    · exact h
    · omega
    · exact absurd h2 (none_new id h1)
  refine ⟨fun b => Z' b ∨ (w.heap.size ≤ b ∧ b < w'.heap.size), ?_, ?_, ?_⟩
  · refine ((freeze_sound (Z2 := fun b => Z' b ∨ (w.heap.size ≤ b ∧ b < w'.heap.size)) (l := s.nx) r' (fun b hb => .inl hb) ?_ n).1 _ _ _ _ hf hv)
    intro id b hb hid
    have hlt := (r'.blk id b hb).2.1
    rcases e.img id (by rw [hb]; rfl) with h | ⟨id0, h1, h2, h3⟩
    · exact .inr ⟨h, hlt⟩
    · obtain ⟨x, hx⟩ := Option.isSome_iff_exists.1 h1
      have := (r.blk id0 x hx).1
      rcases h3 with h3 | h3 <;> omega
  · refine ⟨?_, ?_, ?_⟩
    · intro id b hb
      obtain ⟨h1, h2, h3, h4⟩ := r.blk id b hb
      obtain ⟨e1, _⟩ := e.agree id h1
      refine ⟨h1, by rw [e1]; exact Nat.lt_of_lt_of_le h2 e.size, ?_, ?_⟩
      · rw [e1]
        rintro (h | h)
        · exact h3 (hzold _ h h2)
        · omega
      · exact h4.mono e.agree h1 (fun k hk => ⟨.inl (e.zmono k hk), hkept k (r.zlt k hk)⟩) (Nat.le_refl _) (hkept _ h2)
    · intro i j b c hb hc hij
      rw [(e.agree i (r.blk i b hb).1).1, (e.agree j (r.blk j c hc).1).1]
      exact r.inj i j b c hb hc hij
    · rintro b (h | h)
      · exact r'.zlt b h
      · exact h.2
  · refine ⟨e.agree, Nat.le_refl _, fun b hb => .inl (e.zmono b hb), ?_, fun b hb _ => hkept b hb, e.size, ?_, e.os, e.tape, e.output⟩
    · rintro b (h | h)
      · by_cases hlt : b < w.heap.size
        · exact .inl (hzold b h hlt)
        · exact .inr (.inl (by omega))
      · exact .inr (.inl h.1)
    · intro id hid
      obtain ⟨x, hx⟩ := Option.isSome_iff_exists.1 hid
      exact .inr ⟨id, hid, ((e.agree id (r.blk id x hx).1).1).symm, .inr rfl⟩
end
end Go.Ev
