/- The run of a region whose order is open, in any order: which memory each operation finds. -/
import Derived.Test.YtkakihmhmobgoaaGreatDoorXevY
namespace Go.Ev

/-! ### Memory laid over memory -/
theorem wrote_lay (B : Tr ABlk) : ∀ (W : List Nat) (H : Tr ABlk) (i : Nat), (lay H (wrote B W)).get i = if i ∈ W then B.get i else H.get i
  | [], H, i => by simp [wrote, lay]
  | j :: r, H, i => by
    simp only [wrote, lay, wrote_lay B r, List.mem_cons, Tr.get_put]
    by_cases h1 : i ∈ r
    · simp [h1]
    · by_cases h2 : i = j
      · subst h2; simp [h1]
      · simp [h1, h2]
theorem delta_lay (B : Tr ABlk) : ∀ (n a : Nat) (H : Tr ABlk) (i : Nat), (lay H (delta B a n)).get i = if a ≤ i ∧ i < a + n then B.get i else H.get i
  | 0, a, H, i => by simp [delta, lay]; intro h1 h2; omega
  | n + 1, a, H, i => by
    simp only [delta, lay, delta_lay B n, Tr.get_put]
    by_cases h1 : a + 1 ≤ i ∧ i < a + 1 + n
    · rw [if_pos h1, if_pos (by omega)]
    · rw [if_neg h1]
      by_cases h2 : i = a
      · subst h2; simp
      · rw [if_neg h2, if_neg (by omega)]
theorem lay_append : ∀ (a b : List (Nat × Option ABlk)) (H : Tr ABlk), lay H (a ++ b) = lay (lay H a) b
  | [], b, H => rfl
  | (i, x) :: a, b, H => by simp only [List.cons_append, lay, lay_append a b]
theorem did_lay {s : St} {k nx : Nat} {f : Option (List Nat) × List Nat} {H : Tr ABlk} {i : Nat} (h : nx ≤ s.nx) :
    (lay H (didOf s k nx f).d).get i = if i ∈ f.2 ∨ (nx ≤ i ∧ i < s.nx) then s.H.get i else H.get i := by
  simp only [didOf, lay_append, delta_lay, wrote_lay]
  by_cases h1 : nx ≤ i ∧ i < s.nx
  · rw [if_pos (by omega), if_pos (.inr h1)]
  · rw [if_neg (by omega)]
    by_cases h2 : i ∈ f.2
    · rw [if_pos h2, if_pos (.inl h2)]
    · rw [if_neg h2, if_neg (by simp [h2]; omega)]

open Classical in
/-- Memory behind those operations of a list that have been done. -/
noncomputable def layS (S : Nat → Prop) (H : Tr ABlk) : List Did → Tr ABlk
  | [] => H
  | e :: r => layS S (if S e.k then lay H e.d else H) r
theorem layS_append (S : Nat → Prop) : ∀ (a b : List Did) (H : Tr ABlk), layS S H (a ++ b) = layS S (layS S H a) b
  | [], b, H => rfl
  | e :: a, b, H => by simp only [List.cons_append, layS, layS_append S a b]
theorem layIf_eq (bf : Nat) : ∀ (ds : List Did) (H : Tr ABlk), layIf H bf ds = layS (fun j => bf.testBit j = true) H ds
  | [], H => rfl
  | e :: r, H => by
    simp only [layIf, layS, layIf_eq bf r]
    congr 1
    by_cases h : bf.testBit e.k = true
    · rw [if_pos h]; simp [h]
    · rw [if_neg h]; simp [h]
theorem layAll_eq : ∀ (ds : List Did) (H : Tr ABlk), layAll H ds = layS (fun _ => True) H ds
  | [], H => rfl
  | e :: r, H => by simp only [layAll, layS, layAll_eq r, if_true]

/-- Which blocks an operation has turned. -/
def touch (r : Rc) (b : Bool) (i : Nat) : Prop := r.mem = true ∧ (b = true ∨ i ∈ r.W ∨ (r.nx ≤ i ∧ i < r.s'.nx))

/-- A region's operations, what was seen of them, and which ones are always done ahead of which. -/
structure DF (P : Program) (E : Env) (lo : Nat) (ops : Array Oper) (n : Nat) (rc : Nat → Rc) (Hs : Nat → Tr ABlk) (dss ods : Nat → List Did) (bf : Nat → Nat) (wr : Nat → Bool) : Prop where
  size : ops.size = n
  step : ∀ k, k < n → ∃ o eo, ops[k]? = some o ∧ OneOk P ops o eo ∧ eo.dst = o.dst ∧ StepF P E lo ops k eo (bf k) (wr k) (rc k) (Hs k) (dss k) (Hs (k + 1)) (dss (k + 1)) (ods k) (ods (k + 1)) (rc (k + 1)).tm (rc (k + 1)).nx
  ds0 : dss 0 = []
  bflt : ∀ k, k < n → ∀ j, (bf k).testBit j = true → j < k
  edge : ∀ k o, ops[k]? = some o → ∀ e ∈ o.after, Region.binds .any e = true → e.on < k ∧ (bf k).testBit e.on = true
  least : ∀ (D : Nat → Prop), (∀ k, k < n → D k → ∀ j, (bf k).testBit j = true → D j) → ∀ k o, ops[k]? = some o → (∀ e ∈ o.after, Region.binds .any e = true → D e.on) → ∀ j, (bf k).testBit j = true → D j
  trans : ∀ k, k < n → ∀ j, (bf k).testBit j = true → ∀ i, (bf j).testBit i = true → (bf k).testBit i = true
  cmp : ∀ k, k < n → wr k = true → (rc k).mem = true → ∀ j, j < n → (rc j).mem = true → j = k ∨ (bf k).testBit j = true ∨ (bf j).testBit k = true
  one : ∀ i j o u d, ops[i]? = some o → ops[j]? = some u → i ≠ j → o.dst = some d → u.dst ≠ some d ∧ (d ∈ u.looksAt ops → (bf i).testBit j = true ∨ (bf j).testBit i = true)

section
variable {P : Program} {E : Env} {lo n : Nat} {ops : Array Oper} {rc : Nat → Rc} {Hs : Nat → Tr ABlk} {dss ods : Nat → List Did} {bf : Nat → Nat} {wr : Nat → Bool}

open Classical in
/-- Memory behind those operations that have been done, and how far the numbers in each block may go. -/
noncomputable def GB (rc : Nat → Rc) (wr : Nat → Bool) (g0 : Nat → Option (ABlk × Nat)) (S : Nat → Prop) : Nat → Nat → Option (ABlk × Nat)
  | 0, i => g0 i
  | k + 1, i => if S k ∧ touch (rc k) (wr k) i then ((rc k).s'.H.get i).map (·, (rc k).s'.nx) else GB rc wr g0 S k i

def Down (n : Nat) (bf : Nat → Nat) (S : Nat → Prop) : Prop := ∀ k, k < n → S k → ∀ j, (bf k).testBit j = true → S j

theorem DF.nxle (d : DF P E lo ops n rc Hs dss ods bf wr) {k : Nat} (hk : k < n) : (rc k).nx ≤ (rc k).s'.nx ∧ (rc (k + 1)).nx = (rc k).s'.nx := by
  obtain ⟨o, eo, _, _, _, h⟩ := d.step k hk
  exact ⟨h.nxle, h.nx2⟩
theorem DF.mono (d : DF P E lo ops n rc Hs dss ods bf wr) {j k : Nat} (h : j ≤ k) (hk : k ≤ n) : (rc j).nx ≤ (rc k).nx := by
  induction k with
  | zero => have : j = 0 := by omega
            subst this; exact Nat.le_refl _
  | succ k ih =>
    by_cases e : j = k + 1
    · subst e; exact Nat.le_refl _
    · have h1 := ih (by omega) (by omega)
      obtain ⟨h2, h3⟩ := d.nxle (k := k) (by omega)
      omega
theorem DF.before (d : DF P E lo ops n rc Hs dss ods bf wr) {j k : Nat} (h : j < k) (hk : k ≤ n) : (rc j).s'.nx ≤ (rc k).nx := by
  rw [← (d.nxle (k := j) (by omega)).2]
  exact d.mono h hk
theorem DF.fresh (d : DF P E lo ops n rc Hs dss ods bf wr) {j k i : Nat} (hne : j ≠ k) (hj : j < n) (hk : k < n) (h1 : (rc j).nx ≤ i ∧ i < (rc j).s'.nx) (h2 : (rc k).nx ≤ i ∧ i < (rc k).s'.nx) : False := by
  rcases Nat.lt_or_gt_of_ne hne with h | h
  · have := d.before h (Nat.le_of_lt hk); omega
  · have := d.before h (Nat.le_of_lt hj); omega

/-- The evaluator's memory, by what has been done. -/
theorem DF.claimA (d : DF P E lo ops n rc Hs dss ods bf wr) {nx0 : Nat} {S : Nat → Prop} : ∀ k, k ≤ n → (∀ j, j < k → (rc j).mem = true → wr j = true → S j) → ∀ i,
    (layS S (Hs k) (dss k)).get i = (GB rc wr (fun i => ((Hs 0).get i).map (·, nx0)) S k i).map (·.1)
  | 0, _, _, i => by
    rw [d.ds0]
    simp only [layS, GB, Option.map_map]
    cases (Hs 0).get i <;> rfl
  | k + 1, hk, hS, i => by
    have ih := d.claimA (nx0 := nx0) (S := S) k (by omega) (fun j hj => hS j (by omega)) i
    obtain ⟨o, eo, _, _, _, h⟩ := d.step k (by omega)
    simp only [GB]
    cases hm : (rc k).mem with
    | false =>
      obtain ⟨h1, h2, _⟩ := h.nomem hm
      rw [h1, h2, if_neg (by simp [touch, hm]), ih]
    | true =>
      cases hw : wr k with
      | true =>
        obtain ⟨h1, h2, _⟩ := h.bar hm hw
        rw [h1, h2, if_pos ⟨hS k (by omega) hm hw, hm, .inl rfl⟩]
        simp only [layS, Option.map_map]
        cases (rc k).s'.H.get i <;> rfl
      | false =>
        obtain ⟨_, _, h1, h2, _⟩ := h.did hm hw
        rw [h1, h2, layS_append]
        simp only [layS]
        have hdk : (didOf (rc k).s' k (rc k).nx ((rc k).F, (rc k).W)).k = k := rfl
        rw [hdk]
        by_cases hSk : S k
        · rw [if_pos hSk, did_lay h.nxle]
          by_cases ht : i ∈ (rc k).W ∨ ((rc k).nx ≤ i ∧ i < (rc k).s'.nx)
          · rw [if_pos ht, if_pos ⟨hSk, hm, .inr ht⟩, Option.map_map]
            cases (rc k).s'.H.get i <;> rfl
          · rw [if_neg ht, if_neg (by rintro ⟨_, _, h | h⟩; simp at h; exact ht h), ih]
        · rw [if_neg hSk, if_neg (fun h => hSk h.1), ih]

theorem GB_bound (d : DF P E lo ops n rc Hs dss ods bf wr) {S : Nat → Prop} {g0 : Nat → Option (ABlk × Nat)} (h0 : ∀ i b m, g0 i = some (b, m) → m ≤ (rc 0).nx) : ∀ k, k ≤ n → ∀ i b m, GB rc wr g0 S k i = some (b, m) → m ≤ (rc k).nx
  | 0, _, i, b, m, h => h0 i b m h
  | k + 1, hk, i, b, m, h => by
    simp only [GB] at h
    obtain ⟨h1, h2⟩ := d.nxle (k := k) (by omega)
    split at h
    · simp only [Option.map_eq_some_iff, Prod.mk.injEq] at h
      obtain ⟨_, _, _, rfl⟩ := h
      omega
    · have := GB_bound d h0 k (by omega) i b m h
      omega
theorem GB_eq {S S' : Nat → Prop} {g0 : Nat → Option (ABlk × Nat)} {i : Nat} : ∀ k, (∀ j, j < k → touch (rc j) (wr j) i → (S j ↔ S' j)) → GB rc wr g0 S k i = GB rc wr g0 S' k i
  | 0, _ => rfl
  | k + 1, h => by
    simp only [GB]
    rw [GB_eq k fun j hj => h j (by omega)]
    by_cases ht : touch (rc k) (wr k) i
    · have := h k (by omega) ht
      by_cases hs : S k
      · rw [if_pos ⟨hs, ht⟩, if_pos ⟨this.1 hs, ht⟩]
      · rw [if_neg (fun h => hs h.1), if_neg (fun h => hs (this.2 h.1))]
    · rw [if_neg (fun h => ht h.2), if_neg (fun h => ht h.2)]
theorem GB_later {S : Nat → Prop} {g0 : Nat → Option (ABlk × Nat)} {i k : Nat} : ∀ m, k ≤ m → (∀ j, k ≤ j → j < m → S j → ¬ touch (rc j) (wr j) i) → GB rc wr g0 S m i = GB rc wr g0 S k i
  | 0, hk, _ => by have : k = 0 := by omega
                   subst this; rfl
  | m + 1, hk, h => by
    by_cases e : k = m + 1
    · rw [e]
    · simp only [GB]
      rw [if_neg (fun hh => h m (by omega) (by omega) hh.1 hh.2)]
      exact GB_later m (by omega) fun j hj hjm => h j hj (by omega)

/-- What is looked at is there. -/
theorem DF.sub (d : DF P E lo ops n rc Hs dss ods bf wr) {nx0 k : Nat} (hk : k < n) (hm : (rc k).mem = true) {i : Nat} {b : ABlk} (h : (rc k).M.get i = some b) :
    ∃ m, GB rc wr (fun i => ((Hs 0).get i).map (·, nx0)) (fun j => (bf k).testBit j = true) k i = some (b, m) ∧ (wr k = false → inF (rc k).F i) := by
  obtain ⟨o, eo, _, _, _, hs⟩ := d.step k hk
  have hcmp : ∀ j, j < k → (rc j).mem = true → wr j = true → (bf k).testBit j = true := by
    intro j hj hmj hwj
    rcases d.cmp j (by omega) hwj hmj k hk hm with h | h | h
    · omega
    · have := d.bflt j (by omega) k h; omega
    · exact h
  cases hw : wr k with
  | true =>
    obtain ⟨_, _, h1, _⟩ := hs.bar hm hw
    rw [h1, layAll_eq, d.claimA (nx0 := nx0) k (by omega) (fun _ _ _ _ => trivial)] at h
    rw [GB_eq (S' := fun j => (bf k).testBit j = true) k fun j hj ht => ⟨fun _ => by
      rcases d.cmp k hk hw hm j (by omega) ht.1 with h | h | h
      · omega
      · exact h
      · have := d.bflt j (by omega) k h; omega, fun _ => trivial⟩] at h
    simp only [Option.map_eq_some_iff] at h
    obtain ⟨⟨b', m⟩, h2, rfl⟩ := h
    exact ⟨m, h2, fun h => by simp at h⟩
  | false =>
    obtain ⟨h1, _⟩ := hs.did hm hw
    rw [h1] at h
    obtain ⟨h2, h3⟩ := keepF_get h
    rw [layIf_eq, d.claimA (nx0 := nx0) k (by omega) hcmp] at h2
    simp only [Option.map_eq_some_iff] at h2
    obtain ⟨⟨b', m⟩, h2, rfl⟩ := h2
    exact ⟨m, h2, fun _ => h3⟩

/-- No block of an operation that hasn't been done is there. -/
theorem DF.dom (d : DF P E lo ops n rc Hs dss ods bf wr) {D : Nat → Prop} {nx0 : Nat} (hnx : nx0 = (rc 0).nx) (hd0 : ∀ i, ((Hs 0).get i).isSome → i < nx0) (hfd : ∀ e, e < n → D e → (rc e).mem = true → ∀ i, ((rc e).s'.H.get i).isSome → i < (rc e).s'.nx) :
    ∀ m, m ≤ n → ∀ (S : Nat → Prop), (∀ j, S j → D j) → Down n bf S → ∀ k, k < n → (rc k).mem = true → ¬ S k → ∀ i, (GB rc wr (fun i => ((Hs 0).get i).map (·, nx0)) S m i).isSome → ¬ ((rc k).nx ≤ i ∧ i < (rc k).s'.nx) := by
  intro m
  induction m using Nat.strongRecOn with
  | _ m ih =>
    intro hm S hSD hS k hk hmk hnk i hi hfr
    cases m with
    | zero =>
      simp only [GB] at hi
      have : ((Hs 0).get i).isSome := by simpa using hi
      have h1 := hd0 i this
      have h2 := d.mono (Nat.zero_le k) (Nat.le_of_lt hk)
      omega
    | succ m =>
      simp only [GB] at hi
      split at hi
      · rename_i ht
        obtain ⟨hSm, hmm, ht⟩ := ht
        have hne : m ≠ k := fun e => hnk (e ▸ hSm)
        have hi' : ((rc m).s'.H.get i).isSome := by simpa using hi
        cases hw : wr m with
        | true =>
          rcases d.cmp m (by omega) hw hmm k hk hmk with h | h | h
          · exact hne h.symm
          · exact hnk (hS m (by omega) hSm k h)
          · have hlt := d.bflt k hk m h
            have h1 := hfd m (by omega) (hSD m hSm) hmm i hi'
            have h2 := d.before hlt (Nat.le_of_lt hk)
            omega
        | false =>
          rw [hw] at ht
          rcases ht with ht | ht | ht
          · simp at ht
          · obtain ⟨o, eo, _, _, _, hs⟩ := d.step m (by omega)
            obtain ⟨_, _, _, _, _, _, hW, _⟩ := hs.did hmm hw
            obtain ⟨b, hb⟩ := Option.isSome_iff_exists.1 (hW i ht)
            obtain ⟨q, hq, _⟩ := d.sub (nx0 := nx0) (by omega) hmm hb
            exact ih m (by omega) (by omega) (fun j => (bf m).testBit j = true) (fun j hj => hSD j (hS m (by omega) hSm j hj)) (fun a ha hb' j hj => d.trans m (by omega) a hb' j hj) k hk hmk (fun h => hnk (hS m (by omega) hSm k h)) i (by rw [hq]; rfl) hfr
          · exact d.fresh hne (by omega) hk ht hfr
      · exact ih m (by omega) (by omega) S hSD hS k hk hmk hnk i hi hfr

/-- Of two operations neither of which is always done ahead of the other one, that stand between the same barriers: the earlier one is among those that the later one looked at. -/
theorem DF.listed (d : DF P E lo ops n rc Hs dss ods bf wr) {j : Nat} (hmj : (rc j).mem = true) (hwj : wr j = false) : ∀ k, j < k → k ≤ n → (∀ b, j < b → b < k → (rc b).mem = true → wr b = false) →
    didOf (rc j).s' j (rc j).nx ((rc j).F, (rc j).W) ∈ dss k
  | 0, h, _, _ => by omega
  | k + 1, h, hk, hb => by
    obtain ⟨o, eo, _, _, _, hs⟩ := d.step k (by omega)
    by_cases e : j = k
    · subst e
      obtain ⟨_, _, _, h2, _⟩ := hs.did hmj hwj
      rw [h2]; simp
    · have ih := d.listed hmj hwj k (by omega) (by omega) fun b h1 h2 => hb b h1 (by omega)
      cases hm : (rc k).mem with
      | false => rw [(hs.nomem hm).2.1]; exact ih
      | true =>
        obtain ⟨_, _, _, h2, _⟩ := hs.did hm (hb k (by omega) (by omega) hm)
        rw [h2]; exact List.mem_append_left _ ih
theorem clearOf_mem {b : Nat} {F : Option (List Nat)} {W : List Nat} : ∀ {ds : List Did}, clearOf b F W ds = true → ∀ e ∈ ds, b.testBit e.k = false → apartF e.W F = true ∧ apartF W e.F = true
  | [], _, e, he, _ => by simp at he
  | x :: r, h, e, he, hb => by
    simp only [clearOf, Bool.and_eq_true] at h
    rcases List.mem_cons.1 he with rfl | he
    · rw [hb] at h; simpa using h.1
    · exact clearOf_mem h.2 e he hb
theorem clearNew_mem {b : Nat} {v : AV} {dd : List (Nat × Option ABlk)} : ∀ {ds : List Did}, clearNew b v dd ds = true → ∀ e ∈ ds, b.testBit e.k = false → e.z ≤ e.a ∨ (v.clear e.a e.z = true ∧ clearBlks e.a e.z dd = true)
  | [], _, e, he, _ => by simp at he
  | x :: r, h, e, he, hb => by
    simp only [clearNew, Bool.and_eq_true] at h
    rcases List.mem_cons.1 he with rfl | he
    · rw [hb] at h
      cases hz : Nat.ble e.z e.a with
      | true => exact .inl (Nat.le_of_ble_eq_true hz)
      | false => rw [hz] at h; exact .inr (by simpa using h.1)
    · exact clearNew_mem h.2 e he hb
theorem nmem_iff {i : Nat} : ∀ {l : List Nat}, nmem i l = true ↔ i ∈ l
  | [] => by simp [nmem]
  | j :: r => by
    simp only [nmem, Bool.or_eq_true, nmem_iff (l := r), List.mem_cons]
    exact ⟨fun h => h.imp Nat.eq_of_beq_eq_true id, fun h => h.imp (fun e => by subst e; exact Nat.beq_refl _) id⟩
theorem apartN_mem {F : List Nat} {i : Nat} : ∀ {W : List Nat}, apartN W F = true → i ∈ W → i ∉ F
  | [], _, h => by simp at h
  | j :: r, h, hi => by
    simp only [apartN, Bool.and_eq_true, Bool.not_eq_true'] at h
    rcases List.mem_cons.1 hi with rfl | hi
    · intro hF; rw [nmem_iff.2 hF] at h; simp at h
    · exact apartN_mem h.2 hi
theorem apartF_mem {F : Option (List Nat)} {i : Nat} {W : List Nat} (h : apartF W F = true) (hi : i ∈ W) (hF : inF F i) : False := by
  cases W with
  | nil => simp at hi
  | cons j r =>
    cases F with
    | none => simp [apartF] at h
    | some l => exact apartN_mem (by simpa [apartF] using h) hi (hF l rfl)

theorem DF.listedAll (d : DF P E lo ops n rc Hs dss ods bf wr) {j : Nat} (hmj : (rc j).mem = true) : ∀ k, j < k → k ≤ n → (⟨j, none, [], [], (rc j).nx, (rc j).s'.nx⟩ : Did) ∈ ods k
  | 0, h, _ => by omega
  | k + 1, h, hk => by
    obtain ⟨o, eo, _, _, _, hs⟩ := d.step k (by omega)
    by_cases e : j = k
    · subst e
      rw [(hs.mem hmj).2]; simp
    · have ih := d.listedAll hmj k (by omega) (by omega)
      cases hm : (rc k).mem with
      | false => rw [(hs.nomem hm).2.2.2.2.1]; exact ih
      | true => rw [(hs.mem hm).2]; exact List.mem_cons_of_mem _ ih
/-- Two operations that touch memory, of which the earlier one in the text needn't be done ahead: no barriers, and they are apart. -/
theorem DF.apart (d : DF P E lo ops n rc Hs dss ods bf wr) {j k : Nat} (hjk : j < k) (hk : k < n) (hmj : (rc j).mem = true) (hmk : (rc k).mem = true) (hb : (bf k).testBit j = false) :
    wr j = false ∧ wr k = false ∧ apartF (rc j).W (rc k).F = true ∧ apartF (rc k).W (rc j).F = true ∧
    ((rc j).s'.nx ≤ (rc j).nx ∨ ((rc k).v.clear (rc j).nx (rc j).s'.nx = true ∧ clearBlks (rc j).nx (rc j).s'.nx (didOf (rc k).s' k (rc k).nx ((rc k).F, (rc k).W)).d = true)) := by
  have hj : j < n := by omega
  have no : ∀ a, (bf a).testBit k = true → a < n → a ≤ j → False := fun a h ha hle => by have := d.bflt a ha k h; omega
  have hwj : wr j = false := by
    cases hw : wr j with
    | false => rfl
    | true =>
      rcases d.cmp j hj hw hmj k hk hmk with h | h | h
      · omega
      · exact (no j h hj (Nat.le_refl _)).elim
      · rw [hb] at h; simp at h
  have hwk : wr k = false := by
    cases hw : wr k with
    | false => rfl
    | true =>
      rcases d.cmp k hk hw hmk j hj hmj with h | h | h
      · omega
      · rw [hb] at h; simp at h
      · exact (no j h hj (Nat.le_refl _)).elim
  have hbar : ∀ b, j < b → b < k → (rc b).mem = true → wr b = false := by
    intro b h1 h2 hmb
    cases hw : wr b with
    | false => rfl
    | true =>
      have hjb : (bf b).testBit j = true := by
        rcases d.cmp b (by omega) hw hmb j hj hmj with h | h | h
        · omega
        · exact h
        · have := d.bflt j hj b h; omega
      have hbk : (bf k).testBit b = true := by
        rcases d.cmp b (by omega) hw hmb k hk hmk with h | h | h
        · omega
        · have := d.bflt b (by omega) k h; omega
        · exact h
      have := d.trans k hk b hbk j hjb
      rw [hb] at this; simp at this
  have hin := d.listed hmj hwj k hjk (Nat.le_of_lt hk) hbar
  obtain ⟨o, eo, _, _, _, hs⟩ := d.step k hk
  obtain ⟨_, hcl, _, _, _, hcn, _⟩ := hs.did hmk hwk
  obtain ⟨h1, h2⟩ := clearOf_mem hcl _ hin hb
  exact ⟨hwj, hwk, h1, h2, clearNew_mem hcn _ hin hb⟩
end
end Go.Ev
