/- The run of a region whose order is open, and with it all of the run. -/
import Derived.Test.YtkakihmhmobgoaaGreatDoorXevZb
namespace Go.Ev

/-! ### Which operations are always done ahead -/
theorem fold_bits {acc : List Nat} {b : Nat} : ∀ (es : List Edge) (m : Nat), (es.foldl (fun m e => if Region.binds .any e then m ||| 2 ^ e.on ||| acc.getD e.on 0 else m) m).testBit b = true ↔
    m.testBit b = true ∨ ∃ e ∈ es, Region.binds .any e = true ∧ (e.on = b ∨ (acc.getD e.on 0).testBit b = true)
  | [], m => by simp
  | e :: r, m => by
    simp only [List.foldl_cons, fold_bits r, List.mem_cons, exists_eq_or_imp]
    by_cases hb : Region.binds .any e = true
    · simp only [hb, if_true, Nat.testBit_or, Bool.or_eq_true, Nat.testBit_two_pow, decide_eq_true_eq, true_and]
      constructor
      · rintro ((((h | h) | h)) | h)
        · exact .inl h
        · exact .inr (.inl (.inl h))
        · exact .inr (.inl (.inr h))
        · exact .inr (.inr h)
      · rintro (h | (h | h) | h)
        · exact .inl (.inl (.inl h))
        · exact .inl (.inl (.inr h))
        · exact .inl (.inr h)
        · exact .inr h
    · simp only [hb, if_false, Bool.false_eq_true, false_and, false_or]
theorem befores_spec : ∀ (l : List Oper) (acc : List Nat), (∀ i, i < acc.length → (befores l acc)[i]? = acc[i]?) ∧
    ∀ (j : Nat) (o : Oper), l[j]? = some o → (∀ e ∈ o.after.toList, Region.binds .any e = true → e.on < acc.length + j) → ∀ b, ((befores l acc).getD (acc.length + j) 0).testBit b = true ↔
      ∃ e ∈ o.after.toList, Region.binds .any e = true ∧ (e.on = b ∨ ((befores l acc).getD e.on 0).testBit b = true)
  | [], acc => ⟨fun _ _ => rfl, fun j o h => by simp at h⟩
  | o :: r, acc => by
    simp only [befores]
    generalize hx : o.after.toList.foldl (fun m e => if Region.binds .any e then m ||| 2 ^ e.on ||| acc.getD e.on 0 else m) 0 = x
    obtain ⟨h1, h2⟩ := befores_spec r (acc ++ [x])
    have keep : ∀ i, i < acc.length → (befores r (acc ++ [x]))[i]? = acc[i]? := by
      intro i hi
      rw [h1 i (by simp; omega)]
      exact List.getElem?_append_left hi
    refine ⟨keep, ?_⟩
    intro j u hj hlt b
    cases j with
    | zero =>
      simp only [List.getElem?_cons_zero, Option.some.injEq] at hj; subst hj
      have e1 : (befores r (acc ++ [x])).getD (acc.length + 0) 0 = x := by
        rw [List.getD_eq_getElem?_getD, Nat.add_zero, h1 acc.length (by simp)]
        simp
      have e2 : x.testBit b = true ↔ ∃ e ∈ o.after.toList, Region.binds .any e = true ∧ (e.on = b ∨ (acc.getD e.on 0).testBit b = true) := by
        rw [← hx, fold_bits]
        simp only [Nat.zero_testBit, Bool.false_eq_true, false_or]
      rw [e1, e2]
      constructor
      · rintro ⟨e, he, hb, h⟩
        refine ⟨e, he, hb, h.imp id fun h => ?_⟩
        rw [List.getD_eq_getElem?_getD, keep e.on (by have := hlt e he hb; omega), ← List.getD_eq_getElem?_getD]
        exact h
      · rintro ⟨e, he, hb, h⟩
        refine ⟨e, he, hb, h.imp id fun h => ?_⟩
        rw [List.getD_eq_getElem?_getD, keep e.on (by have := hlt e he hb; omega), ← List.getD_eq_getElem?_getD] at h
        exact h
    | succ j =>
      have := h2 j u (by simpa using hj) (fun e he hb => by have := hlt e he hb; simp; omega) b
      rw [show acc.length + (j + 1) = (acc ++ [x]).length + j by simp; omega]
      exact this

theorem zipIdx_all {α : Type} {l : List α} {p : α × Nat → Bool} (h : l.zipIdx.all p = true) {i : Nat} {x : α} (hx : l[i]? = some x) : p (x, i) = true := by
  rw [List.all_eq_true] at h
  apply h
  rw [List.mem_zipIdx_iff_getElem?]
  simpa using hx
theorem ofOpers_get {P : Program} {ops : Array Oper} : ∀ {rs : List Oper} {es : List EOper}, ofOpers P ops rs = some es → es.length = rs.length ∧ ∀ (k : Nat) (o : Oper), rs[k]? = some o → ∃ eo, es[k]? = some eo ∧ ofOper P ops o = some eo
  | [], es, h => by simp only [ofOpers, Option.some.injEq] at h; subst h; exact ⟨rfl, fun k o h => by simp at h⟩
  | r :: rs, es, h => by
    simp only [ofOpers] at h
    split at h
    · rename_i eo es' h1 h2
      simp only [Option.some.injEq] at h; subst h
      obtain ⟨q1, q2⟩ := ofOpers_get h2
      refine ⟨by simp [q1], ?_⟩
      intro k o hk
      cases k with
      | zero => simp only [List.getElem?_cons_zero, Option.some.injEq] at hk; subst hk; exact ⟨eo, by simp, h1⟩
      | succ k => simpa using q2 k o (by simpa using hk)
    · simp at h

section
variable {P : Program} {E : Env}

theorem draw_shape {id : Nat} {ops : Array Oper} {es : List (EOper × Nat × Bool)} (h : ofCode P (.region id ops true) = some (.draw es)) :
    ∃ el, ofOpers P ops ops.toList = some el ∧ placesOk ops (befores ops.toList []) = true ∧ edgesOk ops el = true ∧ es = ofDraw el (befores ops.toList []) := by
  simp only [ofCode] at h
  split at h
  · simp at h
  · rename_i el hel
    split at h
    · rename_i hc
      simp only [Bool.and_eq_true] at hc
      simp only [Option.some.injEq, ECode.draw.injEq] at h
      exact ⟨el, hel, hc.1.1, hc.1.2, h.symm⟩
    · simp at h

theorem df_of {lo : Nat} {ops : Array Oper} {el : List EOper} {es : List (EOper × Nat × Bool)} {fr fr' : Fr} {H : Tr ABlk} {nx : Nat} {e : Ex} {s' : St} {rc : Nat → Rc} {Hs : Nat → Tr ABlk} {dss ods : Nat → List Did}
    (hel : ofOpers P ops ops.toList = some el) (hpl : placesOk ops (befores ops.toList []) = true) (hed : edgesOk ops el = true) (hes : es = ofDraw el (befores ops.toList []))
    (ht : Trace P E lo ops 0 es fr H [] [] nx e fr' s' rc Hs dss ods) :
    DF P E lo ops ops.size rc Hs dss ods (fun k => (befores ops.toList []).getD k 0) (fun k => match es[k]? with | some x => x.2.2 | none => false) := by
  generalize hms : befores ops.toList [] = ms at *
  obtain ⟨hlen, hget⟩ := ofOpers_get hel
  simp only [edgesOk, Bool.and_eq_true] at hed
  obtain ⟨hed1, hed2⟩ := hed
  have hedge : ∀ k o, ops[k]? = some o → ∀ e ∈ o.after.toList, Region.binds .any e = true → e.on < k := by
    intro k o ho e he hb
    have := zipIdx_all hed1 (i := k) (x := o) (by simpa using ho)
    simp only [List.all_eq_true] at this
    have := this e he
    rw [hb] at this
    simpa using this
  have hbit : ∀ k o, ops[k]? = some o → ∀ b, (ms.getD k 0).testBit b = true ↔ ∃ e ∈ o.after.toList, Region.binds .any e = true ∧ (e.on = b ∨ (ms.getD e.on 0).testBit b = true) := by
    intro k o ho b
    have := (befores_spec ops.toList []).2 k o (by simpa using ho) (fun e he hb => by have := hedge k o ho e he hb; simpa using this) b
    rw [hms] at this
    simpa using this
  have hop : ∀ k, k < ops.size → ∃ o, ops[k]? = some o := fun k hk => ⟨ops[k], Array.getElem?_eq_getElem hk⟩
  have hesk : ∀ k eo, el[k]? = some eo → ∃ b, es[k]? = some (eo, ms.getD k 0, b) ∧ (b = true → ∀ j u, el[j]? = some u → u.op.wetty = true → comparable ms k j = true) := by
    intro k eo hk
    refine ⟨eo.op.wetty && (el.zipIdx).all fun x => !x.1.op.wetty || comparable ms k x.2, ?_, ?_⟩
    · rw [hes]
      simp only [ofDraw, List.getElem?_map, List.getElem?_zipIdx, hk, Option.map_some, Nat.zero_add]
    · intro hb j u hj hu
      simp only [Bool.and_eq_true] at hb
      have := zipIdx_all hb.2 hj
      rw [hu] at this
      simpa using this
  have hcomp : ∀ i j, comparable ms i j = true → i = j ∨ (ms.getD i 0).testBit j = true ∨ (ms.getD j 0).testBit i = true := by
    intro i j h
    simp only [comparable, Bool.or_eq_true, beq_iff_eq] at h
    rcases h with (h | h) | h
    · exact .inl h
    · exact .inr (.inl h)
    · exact .inr (.inr h)
  have hstep : ∀ k, k < ops.size → ∃ o eo b, ops[k]? = some o ∧ el[k]? = some eo ∧ es[k]? = some (eo, ms.getD k 0, b) ∧ OneOk P ops o eo ∧ eo.dst = o.dst ∧
      StepF P E lo ops k eo (ms.getD k 0) b (rc k) (Hs k) (dss k) (Hs (k + 1)) (dss (k + 1)) (ods k) (ods (k + 1)) (rc (k + 1)).tm (rc (k + 1)).nx := by
    intro k hk
    obtain ⟨o, ho⟩ := hop k hk
    obtain ⟨eo, heo, hco⟩ := hget k o (by simpa using ho)
    obtain ⟨b, hb, _⟩ := hesk k eo heo
    have hs := ht.step k _ hb
    simp only [Nat.zero_add] at hs
    refine ⟨o, eo, b, ho, heo, hb, ⟨hco, ?_⟩, (ofOper_op' hco).2, hs⟩
    intro t hu
    simp only [List.all_eq_true] at hed2
    have := hed2 (eo, o) (by
      have : (el.zip ops.toList)[k]? = some (eo, o) := by rw [List.getElem?_zip_eq_some]; exact ⟨heo, by simpa using ho⟩
      exact List.mem_of_getElem? this)
    have := this t hu
    simpa using this
  refine ⟨rfl, ?_, ht.ds, ?_, ?_, ?_, ?_, ?_, ?_⟩
  · intro k hk
    obtain ⟨o, eo, b, h1, h2, h3, h4, h5, h6⟩ := hstep k hk
    refine ⟨o, eo, h1, h4, h5, ?_⟩
    rw [h3]; exact h6
  · intro k
    induction k using Nat.strongRecOn with
    | _ k ih =>
      intro hk j hj
      obtain ⟨o, ho⟩ := hop k hk
      obtain ⟨e, he, hb, h⟩ := (hbit k o ho j).1 hj
      have hlt := hedge k o ho e he hb
      rcases h with h | h
      · omega
      · have := ih e.on hlt (by omega) j h; omega
  · intro k o ho e he hb
    have he' : e ∈ o.after.toList := by simpa using he
    exact ⟨hedge k o ho e he' hb, (hbit k o ho e.on).2 ⟨e, he', hb, .inl rfl⟩⟩
  · intro D hD k o ho hall j hj
    obtain ⟨e, he, hb, h⟩ := (hbit k o ho j).1 hj
    have hDe := hall e (by simpa using he) hb
    rcases h with h | h
    · subst h; exact hDe
    · have hk : k < ops.size := (Array.getElem?_eq_some_iff.1 ho).1
      exact hD e.on (by have := hedge k o ho e he hb; omega) hDe j h
  · intro k
    induction k using Nat.strongRecOn with
    | _ k ih =>
      intro hk j hj i hi
      obtain ⟨o, ho⟩ := hop k hk
      obtain ⟨e, he, hb, h⟩ := (hbit k o ho j).1 hj
      have hlt := hedge k o ho e he hb
      refine (hbit k o ho i).2 ⟨e, he, hb, .inr ?_⟩
      rcases h with h | h
      · subst h; exact hi
      · exact ih e.on hlt (by omega) j h i hi
  · intro k hk hw hm j hj hmj
    obtain ⟨o, eo, b, h1, h2, h3, h4, h5, h6⟩ := hstep k hk
    obtain ⟨o', eo', b', h1', h2', h3', h4', h5', h6'⟩ := hstep j hj
    obtain ⟨b2, h7, h8⟩ := hesk k eo h2
    simp only [h3] at hw
    rw [h3] at h7
    simp only [Option.some.injEq, Prod.mk.injEq, true_and] at h7
    rcases hcomp k j (h8 (h7 ▸ hw) j eo' h2' (h6'.mem hmj).1) with h | h | h
    · exact .inl h.symm
    · exact .inr (.inl h)
    · exact .inr (.inr h)
  · intro i j o u d hi hj hij hd
    have := zipIdx_all hpl (i := i) (x := o) (by simpa using hi)
    simp only [hd] at this
    have := zipIdx_all this (i := j) (x := u) (by simpa using hj)
    simp only [Bool.or_eq_true, beq_iff_eq, hij, false_or, Bool.and_eq_true, bne_iff_ne, ne_eq, Bool.not_eq_true'] at this
    refine ⟨this.1, fun hin => ?_⟩
    rcases this.2 with h | h
    · rw [List.contains_iff_mem.2 hin] at h; simp at h
    · exact (hcomp i j h).resolve_left hij
end

theorem count_lt {p q : Nat → Bool} {i : Nat} : ∀ {l : List Nat}, (∀ x ∈ l, q x = true → p x = true) → i ∈ l → p i = true → q i = false → l.countP q < l.countP p
  | [], _, h, _, _ => by simp at h
  | x :: r, hpq, hi, hp, hq => by
    have hle : r.countP q ≤ r.countP p := List.countP_mono_left fun y hy h => hpq y (List.mem_cons_of_mem _ hy) h
    simp only [List.countP_cons]
    by_cases e : i = x
    · subst e; simp [hp, hq]; omega
    · have := count_lt (l := r) (fun y hy => hpq y (List.mem_cons_of_mem _ hy)) (by simpa [e] using hi) hp hq
      have hx := hpq x (List.mem_cons_self ..)
      cases hqx : q x with
      | false => cases p x <;> simp <;> omega
      | true => rw [hx hqx]; simp; omega

section
variable {P : Program} {E : Env} {lo n : Nat} {ops : Array Oper} {rc : Nat → Rc} {Hs : Nat → Tr ABlk} {dss ods : Nat → List Did} {bf : Nat → Nat} {wr : Nat → Bool} {N : Nat}
  {ι0 : Emb} {w0 : World} {Z0 : Nat → Prop} {a0 : Act}

theorem draw_any (d : DF P E lo ops n rc Hs dss ods bf wr) (r0 : Rel ι0 w0 Z0 (rc 0).nx (Hs 0).get) (g0 : GlR ι0 w0 Z0 E.gl) (t0 : TmR ι0 w0 Z0 (rc 0).nx (rc 0).tm a0.tmps) (hdst : ∀ (k : Nat) (o : Oper), ops[k]? = some o → dstOk a0.tmps.size o.dst = true)
    {Q : Exit → Act → World → Prop} (hQ : ∀ ι w Z a, Inv P E lo ops n rc Hs bf wr N ι0 w0 Z0 a0 (fun k => k < n) ι w Z a → Q .normal a w) :
    ∀ (fuel : Nat) (listed : Array Bool) (ι : Emb) (w : World) (Z : Nat → Prop) (a : Act), listed.size = n → Inv P E lo ops n rc Hs bf wr N ι0 w0 Z0 a0 (fun k => listed.getD k false = true) ι w Z a →
      (List.range n).countP (fun k => !listed.getD k false) ≤ fuel → wpAny P .any ops Q fuel listed a w := by
  have hd0 : ∀ i, ((Hs 0).get i).isSome → i < (rc 0).nx := by
    intro i hi
    obtain ⟨b, hb⟩ := Option.isSome_iff_exists.1 hi
    exact (r0.blk i b hb).1
  have hdone : ∀ (listed : Array Bool) (ι : Emb) (w : World) (Z : Nat → Prop) (a : Act), listed.size = n → Inv P E lo ops n rc Hs bf wr N ι0 w0 Z0 a0 (fun k => listed.getD k false = true) ι w Z a → Region.ready .any ops listed = [] → Q .normal a w := by
    intro listed ι w Z a hsz hinv hrd
    have hall : ∀ k, k < n → listed.getD k false = true := by
      intro k
      induction k using Nat.strongRecOn with
      | _ k ih =>
        intro hk
        cases hl : listed.getD k false with
        | true => rfl
        | false =>
          exfalso
          obtain ⟨o, _, ho, _⟩ := d.step k hk
          have hm : k ∈ Region.ready .any ops listed := by
            rw [mem_ready]
            refine ⟨?_, o, ho, fun e he hb => ?_⟩
            · have hks : k < listed.size := by omega
              simpa [hks] using hl
            · have := (d.edge k o ho e he hb).1
              exact ih e.on this (by omega)
          rw [hrd] at hm
          simp at hm
    have heq : (fun k => listed.getD k false = true) = (fun k => k < n) := by
      funext k
      apply propext
      refine ⟨fun h => hinv.dn k h, hall k⟩
    rw [heq] at hinv
    exact hQ _ _ _ _ hinv
  intro fuel
  induction fuel with
  | zero =>
    intro listed ι w Z a hsz hinv hc
    have hrd : Region.ready .any ops listed = [] := by
      rw [List.eq_nil_iff_forall_not_mem]
      intro k hk
      rw [mem_ready] at hk
      obtain ⟨h0, o, ho, _⟩ := hk
      have hkn : k < n := by rw [← d.size]; exact (Array.getElem?_eq_some_iff.1 ho).1
      have : 0 < (List.range n).countP (fun k => !listed.getD k false) := by
        rw [List.countP_pos_iff]
        refine ⟨k, by simpa using hkn, ?_⟩
        have hks : k < listed.size := by omega
        simp [hks] at h0 ⊢
        exact h0
      omega
    exact ⟨hrd, hdone _ _ _ _ _ hsz hinv hrd⟩
  | succ fuel ih =>
    intro listed ι w Z a hsz hinv hc
    refine ⟨hdone _ _ _ _ _ hsz hinv, ?_⟩
    intro k hk
    rw [mem_ready] at hk
    obtain ⟨h0, o, ho, hall⟩ := hk
    have hkn : k < n := by rw [← d.size]; exact (Array.getElem?_eq_some_iff.1 ho).1
    have hks : k < listed.size := by omega
    have hnk : ¬ listed.getD k false = true := by simp [hks] at h0 ⊢; exact h0
    have hr : ∀ j, (bf k).testBit j = true → listed.getD j false = true := d.least (fun k => listed.getD k false = true) hinv.down k o ho fun e he hb => hall e he hb
    obtain ⟨o', eo, ho', hone, _, hs⟩ := d.step k hkn
    rw [ho] at ho'
    simp only [Option.some.injEq] at ho'; subst ho'
    refine hs.sound o ho hone ι w Z a _ Q (hinv.rel d hd0 hkn hnk hr) (g0.ext r0 hinv.ext) (hinv.tmu d r0 t0 hkn hnk hr ho) ?_
    intro ι' w' Z' u hv r' e
    obtain ⟨ι2, hinv2⟩ := hinv.step d hd0 hkn hnk hr ho (hdst k o ho) hv r' e
    have heq : (fun j => listed.getD j false = true ∨ j = k) = (fun j => (listed.setIfInBounds k true).getD j false = true) := by
      funext j
      apply propext
      by_cases hjk : j = k
      · subst hjk; simp [hks]
      · simp [hjk, Array.getElem?_setIfInBounds_ne (fun h => hjk h.symm)]
    rw [heq] at hinv2
    refine ih _ ι2 w' Z' _ (by simpa using hsz) hinv2 ?_
    have : (List.range n).countP (fun j => !(listed.setIfInBounds k true).getD j false) < (List.range n).countP (fun j => !listed.getD j false) := by
      apply count_lt (i := k)
      · intro x hx hqx
        by_cases hjk : x = k
        · subst hjk; simp [hks] at hqx
        · simpa [Array.getElem?_setIfInBounds_ne (fun h => hjk h.symm)] using hqx
      · simpa using hkn
      · simpa using hnk
      · simp [hks]
    omega
end

section
variable {P : Program} {E : Env}

theorem draw_step {n : Nat} (he : EnvOk P E) (ihC : ∀ m, m < n → CallS P E m) : DrawS P E n := by
  intro lo fr s e fr' s' id ops es N ι w Z a Q hev hc hok hsr hq
  obtain ⟨el, hel, hpl, hed, hes⟩ := draw_shape hc
  obtain ⟨rc, Hs, dss, ods, ht⟩ := draw_trace (ops := ops) he n 0 es fr s.H [] [] s.nx e fr' s' ihC hev
  have d := df_of hel hpl hed hes ht
  have hlen : es.length = ops.size := by
    rw [hes, ofDraw, List.length_map, List.length_zipIdx, (ofOpers_get hel).1]; simp
  apply wp_region_any he.mixed
  -- a question was asked of the tape
  have hheap : ({ w with drawn := w.drawn + 1 } : World).heap = w.heap := rfl
  have hz : ∀ b, Z b → Z b ∧ ({ w with drawn := w.drawn + 1 } : World).heap[b]? = w.heap[b]? := fun b hb => ⟨hb, rfl⟩
  have r0 : Rel ι { w with drawn := w.drawn + 1 } Z s.nx s.H.get :=
    ⟨fun i b hb => by obtain ⟨h1, h2, h3, h4⟩ := hsr.rel.blk i b hb; exact ⟨h1, h2, h3, h4.mono (.refl _ _) h1 hz (Nat.le_refl _) rfl⟩, hsr.rel.inj, hsr.rel.zlt⟩
  have e0 : Ext ι w Z s.nx lo s.H.get ι { w with drawn := w.drawn + 1 } Z s.nx s.H.get :=
    ⟨.refl _ _, Nat.le_refl _, fun _ h => h, fun _ h => .inl h, fun _ _ _ => rfl, Nat.le_refl _, fun id h => .inr ⟨id, h, rfl, .inr rfl⟩, rfl, rfl, rfl⟩
  have g0 : GlR ι { w with drawn := w.drawn + 1 } Z E.gl := hsr.gl.ext hsr.rel e0
  have t0 : TmR ι { w with drawn := w.drawn + 1 } Z s.nx fr.tm a.tmps := hsr.tm.ext hsr.rel e0
  have hrc0 : (rc 0).nx = s.nx := ht.nx
  have hH0 : Hs 0 = s.H := ht.H
  have htm0 : (rc 0).tm = fr.tm := ht.tm
  rw [← hrc0, ← hH0] at r0
  rw [← hrc0, ← htm0] at t0
  have hdst : ∀ (k : Nat) (o : Oper), ops[k]? = some o → dstOk a.tmps.size o.dst = true := by
    intro k o ho
    obtain ⟨eo, heo, hco⟩ := (ofOpers_get hel).2 k o (by simpa using ho)
    simp only [ECode.ok, List.all_eq_true] at hok
    have : (eo, (befores ops.toList []).getD k 0, eo.op.wetty && (el.zipIdx).all fun x => !x.1.op.wetty || comparable (befores ops.toList []) k x.2) ∈ es := by
      rw [hes]
      apply List.mem_of_getElem? (i := k)
      simp only [ofDraw, List.getElem?_map, List.getElem?_zipIdx, heo, Option.map_some, Nat.zero_add]
    have h1 := hok _ this
    simp only [EOper.dok] at h1
    rw [(ofOper_op' hco).2] at h1
    cases hd : o.dst with
    | none => rfl
    | some q =>
      rw [hd] at h1
      have := blt_lt h1
      have h2 := hsr.sz
      simp only [dstOk]
      simp
      omega
  refine draw_any (N := N) (a0 := a) d r0 g0 t0 hdst ?_ ops.size _ ι _ Z a (by simp) ?_ ?_
  · -- all have been done
    intro ι1 w1 Z1 a1 hinv
    apply hq
    have hx := ht.e
    subst hx
    have hfr' := ht.fr'
    have hs' := ht.s'
    simp only [Nat.zero_add, hlen] at hfr' hs'
    have hGet : ∀ i, (layAll (Hs ops.size) (dss ops.size)).get i = (GB rc (fun k => match es[k]? with | some x => x.2.2 | none => false) (fun i => ((Hs 0).get i).map (·, (rc 0).nx)) (fun k => k < ops.size) ops.size i).map (·.1) := by
      intro i
      rw [layAll_eq, d.claimA (nx0 := (rc 0).nx) ops.size (Nat.le_refl _) (fun _ _ _ _ => trivial)]
      rw [GB_eq (S := fun _ => True) (S' := fun k => k < ops.size) ops.size fun j hj _ => ⟨fun _ => hj, fun _ => trivial⟩]
    have hrel : Rel ι1 w1 Z1 (rc ops.size).nx (layAll (Hs ops.size) (dss ops.size)).get := by
      refine ⟨?_, ?_, hinv.zlt⟩
      · intro i b hb
        rw [hGet i] at hb
        simp only [Option.map_eq_some_iff] at hb
        obtain ⟨⟨b', m⟩, hg, rfl⟩ := hb
        obtain ⟨h1, h2, h3, h4⟩ := hinv.blk i b' m hg
        have hm : m ≤ (rc ops.size).nx := by
          refine GB_bound d (g0 := g00 rc Hs) ?_ ops.size (Nat.le_refl _) i b' m hg
          intro i b m hg
          simp only [g00, Option.map_eq_some_iff, Prod.mk.injEq] at hg
          obtain ⟨_, _, _, rfl⟩ := hg
          exact Nat.le_refl _
        exact ⟨Nat.lt_of_lt_of_le h1 hm, h2, h3, h4.mono (.refl _ _) h1 (fun b hb => ⟨hb, rfl⟩) hm rfl⟩
      · intro i j x y hx hy hij
        rw [hGet i] at hx
        rw [hGet j] at hy
        simp only [Option.map_eq_some_iff] at hx hy
        obtain ⟨x', hx, _⟩ := hx
        obtain ⟨y', hy, _⟩ := hy
        exact hinv.inj i j x' y' hx hy hij
    have hext : Ext ι { w with drawn := w.drawn + 1 } Z (rc 0).nx lo (Hs 0).get ι1 w1 Z1 (rc ops.size).nx (layAll (Hs ops.size) (dss ops.size)).get := by
      have : (layAll (Hs ops.size) (dss ops.size)).get = fun i => (GB rc (fun k => match es[k]? with | some x => x.2.2 | none => false) (fun i => ((Hs 0).get i).map (·, (rc 0).nx)) (fun k => k < ops.size) ops.size i).map (·.1) := funext hGet
      rw [this]
      exact hinv.ext
    refine ⟨ι1, Z1, .nrm, ⟨?_, ?_, ?_, ?_, ?_⟩, ?_⟩
    · rw [hs']; exact hrel
    · exact g0.ext r0 hext
    · rw [hs', hfr']
      intro t
      by_cases hex : ∃ (j : Nat) (u : Oper), ops[j]? = some u ∧ u.dst = some t
      · obtain ⟨j, u, hj, hu⟩ := hex
        have hjn : j < ops.size := (Array.getElem?_eq_some_iff.1 hj).1
        rw [d.tm_some hj hu ops.size hjn (Nat.le_refl _)]
        exact (hinv.vals j u t hjn hj hu).mono (.refl _ _) (fun b hb => ⟨hb, rfl⟩) (d.before hjn (Nat.le_refl _))
      · rw [d.tm_none ops.size (Nat.le_refl _) fun j u _ hj hu => hex ⟨j, u, hj, hu⟩, hinv.olds t fun j u _ hj hu => hex ⟨j, u, hj, hu⟩]
        exact (t0 t).ext hext r0
    · rw [hs', hfr', hinv.df]
      have hdf := hsr.df.ext hsr.rel e0
      rw [← hrc0] at hdf
      exact hdf.ext r0 hext
    · rw [hinv.sz]; exact hsr.sz
    · rw [hs']
      rw [hrc0, hH0] at hext
      exact e0.trans hext
  · -- nothing has been done
    have hGet : ∀ i, GB rc (fun k => match es[k]? with | some x => x.2.2 | none => false) (fun i => ((Hs 0).get i).map (·, (rc 0).nx)) (fun k => (Array.replicate ops.size false).getD k false = true) ops.size i = ((Hs 0).get i).map (·, (rc 0).nx) := by
      intro i
      rw [GB_later (k := 0) ops.size (Nat.zero_le _)]
      · rfl
      · intro j _ hj hd
        simp [hj] at hd
    have hno : ∀ k, ¬ (Array.replicate ops.size false).getD k false = true := by
      intro k
      by_cases hk : k < ops.size <;> simp [hk]
    refine ⟨fun k hk => absurd hk (hno k), fun k _ hk => absurd hk (hno k), ?_, ?_, r0.zlt, fun k _ hk => absurd hk (hno k), fun k _ _ hk => absurd hk (hno k), fun _ _ => rfl, rfl, rfl, ?_⟩
    · intro i b m hg
      rw [hGet i] at hg
      simp only [Option.map_eq_some_iff, Prod.mk.injEq] at hg
      obtain ⟨b', hb, rfl, rfl⟩ := hg
      exact r0.blk i b' hb
    · intro i j x y hx hy hij
      rw [hGet i] at hx
      rw [hGet j] at hy
      simp only [Option.map_eq_some_iff] at hx hy
      obtain ⟨b, hb, _⟩ := hx
      obtain ⟨c, hc, _⟩ := hy
      exact r0.inj i j b c hb hc hij
    · have hfun : (fun i => (GB rc (fun k => match es[k]? with | some x => x.2.2 | none => false) (fun i => ((Hs 0).get i).map (·, (rc 0).nx)) (fun k => (Array.replicate ops.size false).getD k false = true) ops.size i).map (·.1)) = (Hs 0).get := by
        funext i
        rw [hGet i, Option.map_map]
        cases (Hs 0).get i <;> rfl
      rw [hfun]
      exact ⟨.refl _ _, d.mono (Nat.zero_le _) (Nat.le_refl _), fun _ h => h, fun _ h => .inl h, fun _ _ _ => rfl, Nat.le_refl _, fun id h => .inr ⟨id, h, rfl, .inr rfl⟩, rfl, rfl, rfl⟩
  · refine Nat.le_trans List.countP_le_length ?_
    simp

/-- All of the run. -/
theorem all_sound (he : EnvOk P E) : ∀ n, (∀ m, m ≤ n → CallS P E m) ∧ OpsS P E n ∧ ExecS P E n ∧ ScopeS P E n ∧ LoopS P E n ∧ DrawS P E n ∧ LeaveS P E n ∧ CallDS P E n := by
  intro n
  induction n with
  | zero =>
    refine ⟨?_, ?_, ?_, ?_, ?_, ?_, ?_, ?_⟩
    · intro m hm
      have : m = 0 := by omega
      subst this
      intro lo f args s o s' us ι w Z hev; simp [callF] at hev
    · intro lo es fr s e fr' s' ops rs l N ι w Z a Q hev; simp [execOps] at hev
    · intro lo c fr s e fr' s' cc N ι w Z a Q hev; simp [exec] at hev
    · intro lo b c fr s e fr' s' body cc N ι w Z a Q hev; simp [scopeRun] at hev
    · intro lo b fr s e fr' s' body N ι w Z a Q hev; simp [exec] at hev
    · intro lo fr s e fr' s' id ops es N ι w Z a Q hev; simp [execDraw] at hev
    · intro lo F fn tm df p s o s' tmps ds m ι w Z R hev; simp [leave] at hev
    · intro lo f args p s b s' us m ι w Z hev; simp [callD] at hev
  | succ n ih =>
    obtain ⟨hC, hO, hE, hS, hL, hD, hV, hCD⟩ := ih
    have hC1 : CallS P E (n + 1) := call_step he hE hV
    have hCall : ∀ m, m ≤ n + 1 → CallS P E m := by
      intro m hm
      by_cases e : m = n + 1
      · subst e; exact hC1
      · exact hC m (by omega)
    have hL1 : LoopS P E (n + 1) := loop_step hE hL
    exact ⟨hCall, ops_step he hO (hC n (Nat.le_refl n)), exec_step hE hO hS hD hL1, scope_step hE hS, hL1, draw_step he fun m hm => hC m (by omega), leave_step he hCD hV, callD_step he hO hE⟩

theorem callF_sound (he : EnvOk P E) {n lo : Nat} {f : FuncId} {args : List AV} {s : St} {o : AOut} {s' : St} {us : List Value} {ι : Emb} {w : World} {Z : Nat → Prop} (h : callF E n lo f args s = some (o, s')) (r : Rel ι w Z s.nx s.H.get)
    (hgl : GlR ι w Z E.gl) (hargs : VRs ι w Z s.nx args us) : Calls P f us.toArray w (PostC lo ι w Z s o s') :=
  (all_sound he n).1 n (Nat.le_refl n) lo f args s o s' us ι w Z h r hgl hargs
end
end Go.Ev
