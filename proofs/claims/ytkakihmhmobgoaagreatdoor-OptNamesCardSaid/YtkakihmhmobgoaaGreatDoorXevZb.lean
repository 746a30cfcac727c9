/- The run of a region whose order is open, in any order: one operation more. -/
import Derived.Test.YtkakihmhmobgoaaGreatDoorXevZa
namespace Go.Ev

section
variable {P : Program} {E : Env} {lo n : Nat} {ops : Array Oper} {rc : Nat → Rc} {Hs : Nat → Tr ABlk} {dss ods : Nat → List Did} {bf : Nat → Nat} {wr : Nat → Bool} {N : Nat}
  {ι0 : Emb} {w0 : World} {Z0 : Nat → Prop} {a0 : Act} {D : Nat → Prop} {ι : Emb} {w : World} {Z : Nat → Prop} {a : Act}

theorem Inv.rel (d : DF P E lo ops n rc Hs dss ods bf wr) (hd0 : ∀ i, ((Hs 0).get i).isSome → i < (rc 0).nx) (h : Inv P E lo ops n rc Hs bf wr N ι0 w0 Z0 a0 D ι w Z a) {k : Nat} (hk : k < n) (hnk : ¬ D k) (hr : ∀ j, (bf k).testBit j = true → D j) :
    Rel ι w Z (rc k).nx (rc k).M.get := by
  refine ⟨?_, ?_, h.zlt⟩
  · intro i b hb
    obtain ⟨m, hm, hg⟩ := h.sees d hd0 hk hnk hr hb
    obtain ⟨h1, h2, h3, h4⟩ := h.blk i b m hg
    exact ⟨Nat.lt_of_lt_of_le h1 hm, h2, h3, h4.mono (.refl _ _) h1 (fun b hb => ⟨hb, rfl⟩) hm rfl⟩
  · intro i j x y hx hy hij
    obtain ⟨m, _, hg⟩ := h.sees d hd0 hk hnk hr hx
    obtain ⟨m', _, hg'⟩ := h.sees d hd0 hk hnk hr hy
    exact h.inj i j _ _ hg hg' hij

theorem Inv.tmu (d : DF P E lo ops n rc Hs dss ods bf wr) (r0 : Rel ι0 w0 Z0 (rc 0).nx (Hs 0).get) (t0 : TmR ι0 w0 Z0 (rc 0).nx (rc 0).tm a0.tmps) (h : Inv P E lo ops n rc Hs bf wr N ι0 w0 Z0 a0 D ι w Z a) {k : Nat} (hk : k < n) (hnk : ¬ D k)
    (hr : ∀ j, (bf k).testBit j = true → D j) {o : Oper} (ho : ops[k]? = some o) : TmU ι w Z (rc k).nx (rc k).tm (o.looksAt ops) a.tmps := by
  intro t ht
  have hold : ((∀ j u, D j → ops[j]? = some u → u.dst ≠ some t) ∧ (∀ j u, j < k → ops[j]? = some u → u.dst ≠ some t)) → VR ι w Z (rc k).nx (((rc k).tm.get t).getD undefA) (a.tmps.getD t undef) := by
    rintro ⟨h1, h2⟩
    rw [d.tm_none k (Nat.le_of_lt hk) h2, h.olds t h1]
    exact (t0 t).mono (nx' := (rc k).nx) h.ext.agree (h.ext.zkept r0) (d.mono (Nat.zero_le k) (Nat.le_of_lt hk))
  by_cases hex : ∃ (j : Nat) (u : Oper), ops[j]? = some u ∧ u.dst = some t
  · obtain ⟨j, u, hj, hu⟩ := hex
    have hjn : j < n := by rw [← d.size]; exact (Array.getElem?_eq_some_iff.1 hj).1
    have uniq : ∀ i x, ops[i]? = some x → i ≠ j → x.dst ≠ some t := fun i x hi hne => (d.one j i u x t hj hi (fun e => hne e.symm) hu).1
    by_cases hjk : j = k
    · refine hold ⟨fun i x hDi hi => uniq i x hi (fun e => hnk (hjk ▸ e ▸ hDi)), fun i x hik hi => uniq i x hi (by omega)⟩
    · rcases (d.one j k u o t hj ho hjk hu).2 ht with hb | hb
      · have hkj := d.bflt j hjn k hb
        have hnj : ¬ D j := fun hDj => hnk (h.down j hjn hDj k hb)
        exact hold ⟨fun i x hDi hi => uniq i x hi (fun e => hnj (e ▸ hDi)), fun i x hik hi => uniq i x hi (by omega)⟩
      · have hlt := d.bflt k hk j hb
        rw [d.tm_some hj hu k hlt (Nat.le_of_lt hk)]
        exact (h.vals j u t (hr j hb) hj hu).mono (.refl _ _) (fun b hb => ⟨hb, rfl⟩) (d.before hlt (Nat.le_of_lt hk))
  · exact hold ⟨fun j u _ hj hu => hex ⟨j, u, hj, hu⟩, fun j u _ hj hu => hex ⟨j, u, hj, hu⟩⟩

/-- Where the blocks lie behind an operation: those that it made where it says, all others where they were. -/
def merge (ι ι' : Emb) (a z : Nat) : Emb :=
  ⟨fun i => if a ≤ i ∧ i < z then ι'.blk i else ι.blk i, fun i => if a ≤ i ∧ i < z then ι'.off i else ι.off i, fun i => if a ≤ i ∧ i < z then ι'.size i else ι.size i, fun i => if a ≤ i ∧ i < z then ι'.sz i else ι.sz i⟩
theorem merge_new {ι ι' : Emb} {a z : Nat} (h : ι'.agree ι a) : (merge ι ι' a z).agree ι' z := by
  intro i hi
  by_cases ha : a ≤ i
  · simp [merge, ha, hi]
  · obtain ⟨e1, e2, e3, e4⟩ := h i (by omega)
    simp [merge, ha, e1, e2, e3, e4]
theorem merge_old {ι ι' : Emb} {a z i : Nat} (h : ¬ (a ≤ i ∧ i < z)) : (merge ι ι' a z).blk i = ι.blk i ∧ (merge ι ι' a z).off i = ι.off i ∧ (merge ι ι' a z).size i = ι.size i ∧ (merge ι ι' a z).sz i = ι.sz i := by
  simp [merge, h]

theorem Inv.step (d : DF P E lo ops n rc Hs dss ods bf wr) (hd0 : ∀ i, ((Hs 0).get i).isSome → i < (rc 0).nx) (h : Inv P E lo ops n rc Hs bf wr N ι0 w0 Z0 a0 D ι w Z a) {k : Nat} (hk : k < n) (hnk : ¬ D k) (hr : ∀ j, (bf k).testBit j = true → D j)
    {o : Oper} (ho : ops[k]? = some o) (hdst : dstOk a0.tmps.size o.dst = true) {ι' : Emb} {w' : World} {Z' : Nat → Prop} {u : Value} (hv : VR ι' w' Z' (rc k).s'.nx (rc k).v u) (r' : Rel ι' w' Z' (rc k).s'.nx (rc k).s'.H.get)
    (e : Ext ι w Z (rc k).nx (rc k).lo (rc k).M.get ι' w' Z' (rc k).s'.nx (rc k).s'.H.get) :
    ∃ ι2, Inv P E lo ops n rc Hs bf wr N ι0 w0 Z0 a0 (fun j => D j ∨ j = k) ι2 w' Z' (a.put o.dst u) := by
  obtain ⟨o', eo, ho', hone, hdd, hs⟩ := d.step k hk
  rw [ho] at ho'
  simp only [Option.some.injEq] at ho'; subst ho'
  have rk := h.rel d hd0 hk hnk hr
  have hzk := e.zkept rk
  obtain ⟨hnle, hnext⟩ := d.nxle hk
  -- what it may have turned
  have hlo : ∀ i, ((rc k).M.get i).isSome → (rc k).lo ≤ i → lo ≤ i ∧ touch (rc k) (wr k) i := by
    intro i hi hle
    obtain ⟨b, hb⟩ := Option.isSome_iff_exists.1 hi
    obtain ⟨hlt, _⟩ := rk.blk i b hb
    cases hm : (rc k).mem with
    | false =>
      obtain ⟨_, _, h1, _⟩ := hs.nomem hm
      rw [h1] at hi; simp at hi
    | true =>
      cases hw : wr k with
      | true =>
        obtain ⟨_, _, _, h1⟩ := hs.bar hm hw
        rw [h1] at hle
        exact ⟨hle, hm, .inl rfl⟩
      | false =>
        obtain ⟨_, _, _, _, h1, _, _, h2⟩ := hs.did hm hw
        cases hW : (rc k).W with
        | nil => rw [hW] at h1; simp only [lowOf] at h1; omega
        | cons x l =>
          rw [hW] at h1; simp only [lowOf] at h1
          exact ⟨by omega, hm, .inr (.inl (h2 (by rw [hW]; simp) i hi))⟩
  have hMG : ∀ i, ((rc k).M.get i).isSome → ∃ x, GB rc wr (g00 rc Hs) D n i = some x := by
    intro i hi
    obtain ⟨b, hb⟩ := Option.isSome_iff_exists.1 hi
    obtain ⟨m, _, hg⟩ := h.sees d hd0 hk hnk hr hb
    exact ⟨_, hg⟩
  -- the others stay
  have hkept : ∀ i x, GB rc wr (g00 rc Hs) D n i = some x → ¬ touch (rc k) (wr k) i → ∀ id, (rc k).lo ≤ id → ((rc k).M.get id).isSome → ι.blk id ≠ ι.blk i := by
    intro i x hx hnt id hle hid
    by_cases hii : id = i
    · subst hii; exact absurd (hlo id hid hle).2 hnt
    · obtain ⟨y, hy⟩ := hMG id hid
      exact h.inj id i y x hy hx hii
  -- numbers
  have hdomk : ∀ i x, GB rc wr (g00 rc Hs) D n i = some x → ¬ ((rc k).nx ≤ i ∧ i < (rc k).s'.nx) := by
    intro i x hx
    cases hm : (rc k).mem with
    | false => have := (hs.nomem hm).2.2.2.1; omega
    | true => exact d.dom (D := D) rfl hd0 h.fd n (Nat.le_refl n) D (fun _ h => h) h.down k hk hm hnk i (by rw [hx]; rfl)
  have hagn := merge_new (z := (rc k).s'.nx) e.agree
  -- values told of before
  have carry : ∀ {nx : Nat} {v : AV} {y : Value}, (nx ≤ (rc k).nx ∨ (rc k).s'.nx ≤ (rc k).nx ∨ v.clear (rc k).nx (rc k).s'.nx = true) → VR ι w Z nx v y → VR (merge ι ι' (rc k).nx (rc k).s'.nx) w' Z' nx v y := by
    rintro nx v y hc hv
    rcases hc with hc | hc | hc
    · exact hv.mono (fun i hi => merge_old (by omega)) hzk (Nat.le_refl _)
    · exact hv.mono (fun i hi => merge_old (by omega)) hzk (Nat.le_refl _)
    · exact VR.monoC' hzk (fun i _ hi => merge_old hi) hv hc
  -- memory behind it
  have hG1 : ∀ i, ¬ touch (rc k) (wr k) i → GB rc wr (g00 rc Hs) (fun j => D j ∨ j = k) n i = GB rc wr (g00 rc Hs) D n i := by
    intro i hnt
    apply GB_eq
    intro j hj ht
    refine ⟨fun h => h.resolve_right ?_, .inl⟩
    rintro rfl
    exact hnt ht
  have hG2 : ∀ i, touch (rc k) (wr k) i → GB rc wr (g00 rc Hs) (fun j => D j ∨ j = k) n i = ((rc k).s'.H.get i).map (·, (rc k).s'.nx) := by
    intro i ht
    rw [GB_later (k := k + 1) n (by omega)]
    · simp only [GB]
      rw [if_pos ⟨.inr rfl, ht⟩]
    · intro j hj hjn hDj htj
      have hDj : D j := hDj.resolve_right (by omega)
      have hbk : (bf j).testBit k = false := by
        cases hb : (bf j).testBit k with
        | false => rfl
        | true => exact absurd (h.down j hjn hDj k hb) hnk
      obtain ⟨hwk, hwj, hap1, hap2, _⟩ := d.apart (j := k) (k := j) (by omega) hjn ht.1 htj.1 hbk
      have ht' := ht.2
      have htj' := htj.2
      rw [hwk] at ht'
      rw [hwj] at htj'
      obtain ⟨oj, eoj, _, _, _, hsj⟩ := d.step j hjn
      have inW : ∀ x, x < n → ∀ (hmx : (rc x).mem = true) (hwx : wr x = false), i ∈ (rc x).W → inF (rc x).F i ∧ ∃ b, (rc x).M.get i = some b := by
        intro x hx hmx hwx hi
        obtain ⟨ox, eox, _, _, _, hsx⟩ := d.step x hx
        obtain ⟨_, _, _, _, _, _, hW, _⟩ := hsx.did hmx hwx
        obtain ⟨b, hb⟩ := Option.isSome_iff_exists.1 (hW i hi)
        obtain ⟨m, _, hin⟩ := d.sub (nx0 := (rc 0).nx) hx hmx hb
        exact ⟨hin hwx, b, hb⟩
      rcases ht' with ht' | ht' | ht'
      · simp at ht'
      · obtain ⟨hin, b, hb⟩ := inW k hk ht.1 hwk ht'
        rcases htj' with htj' | htj' | htj'
        · simp at htj'
        · exact apartF_mem hap2 htj' hin
        · obtain ⟨m, hg, _⟩ := d.sub (nx0 := (rc 0).nx) hk ht.1 hb
          exact d.dom (D := D) rfl hd0 h.fd k (Nat.le_of_lt hk) (fun j => (bf k).testBit j = true) hr (fun x hx hx' j hj => d.trans k hk x hx' j hj) j hjn htj.1 (fun hb' => by have := d.bflt k hk j hb'; omega) i (by rw [hg]; rfl) htj'
      · rcases htj' with htj' | htj' | htj'
        · simp at htj'
        · obtain ⟨_, b, hb⟩ := inW j hjn htj.1 hwj htj'
          obtain ⟨m, hg, _⟩ := d.sub (nx0 := (rc 0).nx) hjn htj.1 hb
          exact d.dom (D := D) rfl hd0 h.fd j (Nat.le_of_lt hjn) (fun x => (bf j).testBit x = true) (fun x hx => h.down j hjn hDj x hx) (fun x hx hx' y hy => d.trans j hjn x hx' y hy) k hk ht.1 (fun hb' => by rw [hbk] at hb'; simp at hb') i (by rw [hg]; rfl) ht'
        · exact d.fresh (by omega) hk hjn ht' htj'
  refine ⟨merge ι ι' (rc k).nx (rc k).s'.nx, ?_, ?_, ?_, ?_, r'.zlt, ?_, ?_, ?_, ?_, ?_, ?_⟩
  · rintro j (hj | rfl)
    · exact h.dn j hj
    · exact hk
  · rintro j hj (hDj | rfl) x hx
    · exact .inl (h.down j hj hDj x hx)
    · exact .inl (hr x hx)
  · -- blocks
    intro i b m hg
    by_cases ht : touch (rc k) (wr k) i
    · rw [show GB rc wr (fun i => ((Hs 0).get i).map (·, (rc 0).nx)) (fun j => D j ∨ j = k) n i = _ from hG2 i ht] at hg
      simp only [Option.map_eq_some_iff, Prod.mk.injEq] at hg
      obtain ⟨b', hb, rfl, rfl⟩ := hg
      obtain ⟨h1, h2, h3, h4⟩ := r'.blk i b' hb
      obtain ⟨e1, _⟩ := hagn i h1
      exact ⟨h1, by rw [e1]; exact h2, by rw [e1]; exact h3, h4.mono hagn h1 (fun b hb => ⟨hb, rfl⟩) (Nat.le_refl _) rfl⟩
    · rw [show GB rc wr (fun i => ((Hs 0).get i).map (·, (rc 0).nx)) (fun j => D j ∨ j = k) n i = _ from hG1 i ht] at hg
      obtain ⟨h1, h2, h3, h4⟩ := h.blk i b m hg
      have hold := merge_old (ι := ι) (ι' := ι') (hdomk i _ hg)
      have hkp := e.kept (ι.blk i) h2 (hkept i _ hg ht)
      refine ⟨h1, by rw [hold.1]; exact Nat.lt_of_lt_of_le h2 e.size, ?_, ?_⟩
      · rw [hold.1]
        intro hz
        rcases e.znew _ hz with hz | hz | ⟨id, q1, q2, q3⟩
        · exact h3 hz
        · omega
        · exact hkept i _ hg ht id q1 q2 q3
      · rcases h.clear d hk hnk n (Nat.le_refl n) i b m hg with hc | hc | hc
        · exact h4.mono (fun j hj => merge_old (by omega)) h1 hzk (Nat.le_refl _) hkp
        · exact h4.mono (fun j hj => merge_old (by omega)) h1 hzk (Nat.le_refl _) hkp
        · exact h4.monoC hzk (fun j _ hj => merge_old hj) hold hkp hc
  · -- apart
    have mixed : ∀ i j x y, touch (rc k) (wr k) i → ¬ touch (rc k) (wr k) j → GB rc wr (g00 rc Hs) (fun j => D j ∨ j = k) n i = some x → GB rc wr (g00 rc Hs) (fun j => D j ∨ j = k) n j = some y →
        (merge ι ι' (rc k).nx (rc k).s'.nx).blk i ≠ (merge ι ι' (rc k).nx (rc k).s'.nx).blk j := by
      intro i j x y hti htj hx hy
      rw [hG2 i hti] at hx
      rw [hG1 j htj] at hy
      simp only [Option.map_eq_some_iff] at hx
      obtain ⟨b, hb, rfl⟩ := hx
      obtain ⟨h1, _⟩ := r'.blk i b hb
      rw [(hagn i h1).1, (merge_old (ι := ι) (ι' := ι') (hdomk j _ hy)).1]
      obtain ⟨yb, ym⟩ := y
      have hjlt := (h.blk j yb ym hy).2.1
      rcases e.img i (by rw [hb]; rfl) with hq | ⟨id0, q1, q2, q3⟩
      · omega
      · rw [← q2]
        by_cases hid : id0 = j
        · subst hid
          rcases q3 with q3 | q3
          · exact absurd (hlo id0 q1 q3).2 htj
          · subst q3; exact absurd hti htj
        · obtain ⟨z, hz⟩ := hMG id0 q1
          exact h.inj id0 j z _ hz hy hid
    intro i j x y hx hy hij
    by_cases hti : touch (rc k) (wr k) i
    · by_cases htj : touch (rc k) (wr k) j
      · rw [show GB rc wr (fun i => ((Hs 0).get i).map (·, (rc 0).nx)) (fun j => D j ∨ j = k) n i = _ from hG2 i hti] at hx
        rw [show GB rc wr (fun i => ((Hs 0).get i).map (·, (rc 0).nx)) (fun j => D j ∨ j = k) n j = _ from hG2 j htj] at hy
        simp only [Option.map_eq_some_iff] at hx hy
        obtain ⟨b, hb, rfl⟩ := hx
        obtain ⟨c, hc, rfl⟩ := hy
        rw [(hagn i (r'.blk i b hb).1).1, (hagn j (r'.blk j c hc).1).1]
        exact r'.inj i j b c hb hc hij
      · exact mixed i j x y hti htj hx hy
    · by_cases htj : touch (rc k) (wr k) j
      · exact fun q => mixed j i y x htj hti hy hx q.symm
      · rw [show GB rc wr (fun i => ((Hs 0).get i).map (·, (rc 0).nx)) (fun j => D j ∨ j = k) n i = _ from hG1 i hti] at hx
        rw [show GB rc wr (fun i => ((Hs 0).get i).map (·, (rc 0).nx)) (fun j => D j ∨ j = k) n j = _ from hG1 j htj] at hy
        rw [(merge_old (ι := ι) (ι' := ι') (hdomk i _ hx)).1, (merge_old (ι := ι) (ι' := ι') (hdomk j _ hy)).1]
        exact h.inj i j x y hx hy hij
  · -- numbers
    rintro j hj (hDj | rfl) hm i hi
    · exact h.fd j hj hDj hm i hi
    · obtain ⟨b, hb⟩ := Option.isSome_iff_exists.1 hi
      exact (r'.blk i b hb).1
  · -- values
    rintro j oj t (hDj | rfl) hj ht
    · have hjn := h.dn j hDj
      have hne : j ≠ k := fun q => hnk (q ▸ hDj)
      have hdne : o.dst ≠ some t := (d.one j k oj o t hj ho hne ht).1
      have hget : (a.put o.dst u).tmps.getD t undef = a.tmps.getD t undef := by
        cases hd : o.dst with
        | none => rfl
        | some q =>
          have hqt : q ≠ t := fun e => hdne (by rw [hd, e])
          simp [Act.put, Array.getElem?_setIfInBounds_ne hqt]
      rw [hget]
      refine carry ?_ (h.vals j oj t hDj hj ht)
      rcases Nat.lt_or_gt_of_ne hne with hlt | hgt
      · exact .inl (d.before hlt (Nat.le_of_lt hk))
      · cases hmk : (rc k).mem with
        | false => exact .inr (.inl (Nat.le_of_eq (hs.nomem hmk).2.2.2.1))
        | true =>
          have hbk : (bf j).testBit k = false := by
            cases hb : (bf j).testBit k with
            | false => rfl
            | true => exact absurd (h.down j hjn hDj k hb) hnk
          cases hmj : (rc j).mem with
          | true =>
            obtain ⟨_, _, _, _, hc⟩ := d.apart (j := k) (k := j) hgt hjn hmk hmj hbk
            exact .inr (hc.imp id (·.1))
          | false =>
            obtain ⟨_, _, _, _, _, hsj⟩ := d.step j hjn
            exact .inr ((clearNew_mem (hsj.nomem hmj).2.2.2.2.2 _ (d.listedAll hmk j hgt (Nat.le_of_lt hjn)) hbk).imp id (·.1))
    · rw [ho] at hj
      simp only [Option.some.injEq] at hj; subst hj
      have hlt : t < a.tmps.size := by
        rw [h.sz]
        rw [ht] at hdst
        exact blt_lt hdst
      have hget : (a.put o.dst u).tmps.getD t undef = u := by rw [ht]; simp [Act.put, hlt]
      rw [hget]
      exact hv.mono hagn (fun b hb => ⟨hb, rfl⟩) (Nat.le_refl _)
  · -- places not yet written
    intro t ht
    rw [← h.olds t fun j oj hDj hj => ht j oj (.inl hDj) hj]
    have hne := ht k o (.inr rfl) ho
    cases hd : o.dst with
    | none => rfl
    | some q =>
      have hqt : q ≠ t := fun e => hne (by rw [hd, e])
      simp [Act.put, Array.getElem?_setIfInBounds_ne hqt]
  · rw [← h.df]; cases o.dst <;> rfl
  · rw [← h.sz]; cases o.dst <;> simp [Act.put]
  · -- what was there ahead of the region
    have hlo0 : ∀ id id1, ((rc k).M.get id).isSome → (rc k).lo ≤ id → (lo ≤ id1 ∨ id1 = id) → lo ≤ id1 := by
      rintro id id1 h1 h2 (h3 | rfl)
      · exact h3
      · exact (hlo _ h1 h2).1
    have himg : ∀ id, ((rc k).M.get id).isSome → w0.heap.size ≤ ι.blk id ∨ ∃ id0, ((Hs 0).get id0).isSome ∧ ι0.blk id0 = ι.blk id ∧ (lo ≤ id0 ∨ id0 = id) := by
      intro id hid
      obtain ⟨x, hx⟩ := hMG id hid
      exact h.ext.img id (by show ((GB rc wr (g00 rc Hs) D n id).map (·.1)).isSome; rw [hx]; rfl)
    refine ⟨?_, d.mono (Nat.zero_le n) (Nat.le_refl n), fun b hb => e.zmono b (h.ext.zmono b hb), ?_, ?_, Nat.le_trans h.ext.size e.size, ?_, e.os.trans h.ext.os, e.tape.trans h.ext.tape, e.output.trans h.ext.output⟩
    · intro i hi
      have h1 := d.mono (Nat.zero_le k) (Nat.le_of_lt hk)
      obtain ⟨e1, e2, e3, e4⟩ := merge_old (ι := ι) (ι' := ι') (a := (rc k).nx) (z := (rc k).s'.nx) (i := i) (by omega)
      obtain ⟨f1, f2, f3, f4⟩ := h.ext.agree i hi
      exact ⟨e1.trans f1, e2.trans f2, e3.trans f3, e4.trans f4⟩
    · intro b hb
      rcases e.znew b hb with hz | hz | ⟨id, h1, h2, h3⟩
      · exact h.ext.znew b hz
      · exact .inr (.inl (Nat.le_trans h.ext.size hz))
      · rcases himg id h2 with hq | ⟨id0, q1, q2, q3⟩
        · exact .inr (.inl (h3 ▸ hq))
        · exact .inr (.inr ⟨id0, hlo0 id id0 h2 h1 q3, q1, q2.trans h3⟩)
    · intro b hb hn
      have h1 := h.ext.kept b hb hn
      refine (e.kept b (Nat.lt_of_lt_of_le hb h.ext.size) ?_).trans h1
      intro id hle hid heq
      rcases himg id hid with hq | ⟨id0, q1, q2, q3⟩
      · omega
      · exact hn id0 (hlo0 id id0 hid hle q3) q1 (q2.trans heq)
    · intro id hid
      by_cases ht : touch (rc k) (wr k) id
      · rw [show GB rc wr (fun i => ((Hs 0).get i).map (·, (rc 0).nx)) (fun j => D j ∨ j = k) n id = _ from hG2 id ht] at hid
        have hid' : ((rc k).s'.H.get id).isSome := by simpa using hid
        obtain ⟨b, hb⟩ := Option.isSome_iff_exists.1 hid'
        rw [(hagn id (r'.blk id b hb).1).1]
        rcases e.img id hid' with hq | ⟨id0, q1, q2, q3⟩
        · exact .inl (Nat.le_trans h.ext.size hq)
        · rcases himg id0 q1 with hq | ⟨id1, p1, p2, p3⟩
          · exact .inl (q2 ▸ hq)
          · refine .inr ⟨id1, p1, p2.trans q2, ?_⟩
            rcases q3 with q3 | q3
            · exact .inl (hlo0 id0 id1 q1 q3 p3)
            · subst q3; exact p3
      · rw [show GB rc wr (fun i => ((Hs 0).get i).map (·, (rc 0).nx)) (fun j => D j ∨ j = k) n id = _ from hG1 id ht] at hid
        obtain ⟨x, hx⟩ : ∃ x, GB rc wr (g00 rc Hs) D n id = some x := by
          rw [Option.isSome_map] at hid
          exact Option.isSome_iff_exists.1 hid
        rw [(merge_old (ι := ι) (ι' := ι') (hdomk id _ hx)).1]
        exact h.ext.img id (by show ((GB rc wr (g00 rc Hs) D n id).map (·.1)).isSome; rw [hx]; rfl)
end
end Go.Ev
