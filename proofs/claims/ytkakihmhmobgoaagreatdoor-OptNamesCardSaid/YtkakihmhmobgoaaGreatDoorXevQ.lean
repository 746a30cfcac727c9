/- Each instruction that looks at memory, or makes some, does in the model what the evaluator says: maps. -/
import Derived.Test.YtkakihmhmobgoaaGreatDoorXevP
namespace Go.Ev

section
variable {ι : Emb} {w : World} {Z : Nat → Prop} {lo : Nat} {gl : Nat → AV} {tm : Tr AV} {P : Program} {a : Act} {s s' : St}

theorem keyEq_true {x y : AV} (h : keyEq x y = some true) : x = y := by
  cases x <;> cases y <;> simp only [keyEq, reduceCtorEq] at h
  · simp at h; rw [h]
  · split at h
    · rename_i hk; simp at h; rw [hk, h]
    · simp at h
  · simp only [Option.some.injEq] at h; rw [natsEq_iff.1 h]
theorem keyEq_kind {x y : AV} {b : Bool} (h : keyEq x y = some b) : kindOf x = kindOf y ∧ ∃ c, kindOf x = some c := by
  cases x <;> cases y <;> simp only [keyEq, reduceCtorEq] at h
  · exact ⟨rfl, _, rfl⟩
  · split at h
    · rename_i hk; subst hk; exact ⟨rfl, _, rfl⟩
    · simp at h
  · exact ⟨rfl, _, rfl⟩
theorem keyEq_total {x y : AV} {c : KK} (hx : kindOf x = some c) (hy : kindOf y = some c) : ∃ b, keyEq x y = some b := by
  cases x <;> simp only [kindOf, reduceCtorEq, Option.some.injEq] at hx <;> subst hx <;> cases y <;> simp only [kindOf, reduceCtorEq, Option.some.injEq, KK.i.injEq] at hy
  · exact ⟨_, rfl⟩
  · subst hy; exact ⟨_, by simp [keyEq]; rfl⟩
  · exact ⟨_, rfl⟩
theorem keyEq_comm {x y : AV} : keyEq x y = keyEq y x := by
  cases x <;> cases y <;> simp only [keyEq]
  · rename_i a b; cases a <;> cases b <;> rfl
  · rename_i k a k' b
    by_cases h : k = k'
    · subst h; simp; exact Bool.beq_comm
    · rw [if_neg h, if_neg (fun e => h e.symm)]
  · rename_i a b
    congr 1
    rw [Bool.eq_iff_iff, natsEq_iff, natsEq_iff]; exact eq_comm

theorem sameNow_sound {d : TypeDesc} {pk : PK} {t : TypeId} {k q : AV} {K Q : Value} {b : Bool} {nx : Nat} (hp : primT P t = some pk) (hd : P.underlying t = some d) (hpk : plainKey pk k = true) (hk : VR ι w Z nx k K) (hq : VR ι w Z nx q Q)
    (h : keyEq k q = some b) : Instr.sameNow d K Q = some b := by
  rcases primT_cases hp with ⟨hu, rfl⟩ | ⟨j, hu, rfl⟩ | ⟨hu, rfl⟩ <;> rw [hd] at hu <;> simp only [Option.some.injEq] at hu <;> subst hu <;> cases k <;> simp [plainKey] at hpk <;> cases q <;> simp only [keyEq, reduceCtorEq] at h <;> cases hk <;> cases hq
  · simpa [Instr.sameNow] using h
  · split at h
    · rename_i hkk; subst hkk; simpa [Instr.sameNow] using h
    · simp at h
  · rename_i x y
    simp only [Option.some.injEq] at h; subst h
    simp only [Instr.sameNow]
    have := natsEq_bytes x y
    unfold bytes at this
    rw [this, beq_toListBytes]

theorem mfind_none : ∀ {es : List (AV × AV)} {k : AV}, mfind k es = some none → ∀ p ∈ es, keyEq k p.1 = some false
  | [], _, _, p, hp => by simp at hp
  | (x, v) :: r, k, h, p, hp => by
    simp only [mfind] at h
    split at h
    · simp at h
    · rename_i he
      rcases List.mem_cons.1 hp with rfl | hp
      · exact he
      · exact mfind_none h p hp
    · simp at h
theorem mfind_some : ∀ {es : List (AV × AV)} {k v : AV}, mfind k es = some (some v) → ∃ p ∈ es, keyEq k p.1 = some true ∧ p.2 = v
  | [], _, _, h => by simp [mfind] at h
  | (x, u) :: r, k, v, h => by
    simp only [mfind] at h
    split at h
    · rename_i he
      simp only [Option.some.injEq] at h
      exact ⟨(x, u), by simp, he, h⟩
    · obtain ⟨p, hp, h1, h2⟩ := mfind_some h
      exact ⟨p, by simp [hp], h1, h2⟩
    · simp at h
theorem keys_uniq : ∀ {es : List (AV × AV)} {k : AV}, (es.Pairwise fun p q => keyEq p.1 q.1 = some false) → ∀ p ∈ es, ∀ q ∈ es, keyEq k p.1 = some true → keyEq k q.1 = some true → p = q
  | [], _, _, p, hp, _, _, _, _ => by simp at hp
  | x :: r, k, hw, p, hp, q, hq, h1, h2 => by
    have e1 := keyEq_true h1
    have e2 := keyEq_true h2
    obtain ⟨hx, hr⟩ := List.pairwise_cons.1 hw
    rcases List.mem_cons.1 hp with hp2 | hp2 <;> rcases List.mem_cons.1 hq with hq2 | hq2
    · rw [hp2, hq2]
    · have := hx q hq2
      rw [← hp2, ← e1, h2] at this; simp at this
    · have := hx p hp2
      rw [← hq2, ← e2, h1] at this; simp at this
    · exact keys_uniq hr p hp2 q hq2 h1 h2

theorem findNow_none {d : TypeDesc} {K : Value} : ∀ {es : List MapEntry} {i : Nat}, (∀ e ∈ es, Instr.sameNow d K e.key = some false) → Instr.findNow d K es i = some none
  | [], _, _ => rfl
  | e :: r, i, h => by
    simp only [Instr.findNow, h e (by simp)]
    exact findNow_none fun x hx => h x (by simp [hx])
theorem findNow_some {d : TypeDesc} {K : Value} : ∀ {es : List MapEntry} {i : Nat}, (∀ e ∈ es, ∃ b, Instr.sameNow d K e.key = some b) → (∃ e ∈ es, Instr.sameNow d K e.key = some true) →
    ∃ j e, es[j]? = some e ∧ Instr.sameNow d K e.key = some true ∧ Instr.findNow d K es i = some (some (i + j, e.val)) ∧ ∀ j' e', j' < j → es[j']? = some e' → Instr.sameNow d K e'.key = some false
  | [], _, _, h => by obtain ⟨e, he, _⟩ := h; simp at he
  | e :: r, i, ha, h => by
    obtain ⟨b, hb⟩ := ha e (by simp)
    cases b with
    | true => exact ⟨0, e, rfl, hb, by simp [Instr.findNow, hb], fun j' _ hj => by omega⟩
    | false =>
      obtain ⟨x, hx, hxt⟩ := h
      have hxr : x ∈ r := by
        rcases List.mem_cons.1 hx with rfl | hx
        · rw [hb] at hxt; simp at hxt
        · exact hx
      obtain ⟨j, y, h1, h2, h3, h4⟩ := findNow_some (i := i + 1) (fun e he => ha e (by simp [he])) ⟨x, hxr, hxt⟩
      refine ⟨j + 1, y, by simpa using h1, h2, ?_, ?_⟩
      · simp only [Instr.findNow, hb, h3]
        congr 3; omega
      · intro j' e' hj' he'
        cases j' with
        | zero => simp at he'; subst he'; exact hb
        | succ j' => exact h4 j' e' (by omega) (by simpa using he')

theorem checkKey_plain {t : TypeId} {pk : PK} {K : Value} {e : Bool} {n : Nat} (hp : primT P t = some pk) : (Instr.checkKey e (n + 1) t K).run P w = .ok () w := by
  rcases primT_cases hp with ⟨hu, rfl⟩ | ⟨j, hu, rfl⟩ | ⟨hu, rfl⟩ <;> simp [Instr.checkKey, run_underlying hu]

/-- The pairs behind an abstract map's entries. -/
theorem pair_of {es : List (AV × AV)} {l : List (Value × Value)} {nx : Nat} (hk : VRs ι w Z nx (es.map (·.1)) (l.map (·.1))) (hv : VRs ι w Z nx (es.map (·.2)) (l.map (·.2))) : ∀ x ∈ l, ∃ p ∈ es, VR ι w Z nx p.1 x.1 ∧ VR ι w Z nx p.2 x.2 := by
  induction es generalizing l with
  | nil =>
    cases l with
    | nil => intro x hx; simp at hx
    | cons => have := hk.length; simp at this
  | cons p es ih =>
    cases l with
    | nil => intro x hx; simp at hx
    | cons y l =>
      intro x hx
      cases hk with | cons _ _ _ _ _ h1 h2 => cases hv with | cons _ _ _ _ _ h3 h4 =>
      rcases List.mem_cons.1 hx with rfl | hx
      · exact ⟨p, by simp, h1, h3⟩
      · obtain ⟨q, hq, h5⟩ := ih h2 h4 x hx
        exact ⟨q, by simp [hq], h5⟩
theorem pair_to {es : List (AV × AV)} {l : List (Value × Value)} {nx : Nat} (hk : VRs ι w Z nx (es.map (·.1)) (l.map (·.1))) (hv : VRs ι w Z nx (es.map (·.2)) (l.map (·.2))) : ∀ p ∈ es, ∃ x ∈ l, VR ι w Z nx p.1 x.1 ∧ VR ι w Z nx p.2 x.2 := by
  induction es generalizing l with
  | nil => intro x hx; simp at hx
  | cons p es ih =>
    cases l with
    | nil => have := hk.length; simp at this
    | cons y l =>
      intro x hx
      cases hk with | cons _ _ _ _ _ h1 h2 => cases hv with | cons _ _ _ _ _ h3 h4 =>
      rcases List.mem_cons.1 hx with rfl | hx
      · exact ⟨y, by simp, h1, h3⟩
      · obtain ⟨q, hq, h5⟩ := ih h2 h4 x hx
        exact ⟨q, by simp [hq], h5⟩

theorem wet_lookup {t : TypeId} {m k : Operand} {ok : Bool} {d : Wet} {v : AV} {dst ty pos after guard} (r : Rel ι w Z s.nx s.H.get) (hgl : GlR ι w Z gl) (htm : TmR ι w Z s.nx tm a.tmps)
    (hc : ofOp P (.lookup t m k ok) = some (.wet d)) (hev : evWet gl tm lo s d = some (v, s')) : WOut ι w Z lo s ((execOp a.eval ⟨dst, .lookup t m k ok, ty, pos, after, guard⟩).run P w) v s' := by
  simp only [ofOp] at hc
  split at hc
  · rename_i kt el em ek hu hm hk
    split at hc
    · rename_i z pk hz hpk
      simp only [Option.some.injEq, EOp.wet.injEq] at hc; subst hc
      have hvm := eo_sound (a := a) hgl htm hm
      have hvk := eo_sound (a := a) hgl htm hk
      obtain ⟨zu, hzu, hoz⟩ := zeroT_some hz
      have hzr := ofValue_sound (ι := ι) (w := w) (Z := Z) (nx := s.nx) zu z hoz
      obtain ⟨d', hd⟩ : ∃ d', P.underlying kt = some d' := by rcases primT_cases hpk with ⟨hu, _⟩ | ⟨j, hu, _⟩ | ⟨hu, _⟩ <;> exact ⟨_, hu⟩
      have fin : ∀ {res : AV} {ru : Value} {b : Bool}, VR ι w Z s.nx res ru → VR ι w Z s.nx (if ok then .tup [res, .bool b] else res) (if ok then .tuple #[ru, .bool b] else ru) := by
        intro res ru b h
        cases ok
        · exact h
        · exact .tup _ _ _ (.cons _ _ _ _ _ h (.cons _ _ _ _ _ (.bool _ _) (.nil _)))
      -- from the entries on
      have key : ∀ (es : List (AV × AV)) (ents : Array MapEntry) (l : List (Value × Value)), (es.Pairwise fun p q => keyEq p.1 q.1 = some false) → (∃ c, ∀ p ∈ es, kindOf p.1 = some c) → VRs ι w Z s.nx (es.map (·.1)) (l.map (·.1)) → VRs ι w Z s.nx (es.map (·.2)) (l.map (·.2)) →
          List.Perm l (ents.toList.map fun e => (e.key, e.val)) →
          plainKey pk (ek.ev gl tm) = true →
          (∀ v', mfind (ek.ev gl tm) es = some (some v') → ∃ j u, Instr.findNow d' (a.eval k) ents.toList 0 = some (some (j, u)) ∧ VR ι w Z s.nx v' u) ∧
          (mfind (ek.ev gl tm) es = some none → Instr.findNow d' (a.eval k) ents.toList 0 = some none) := by
        intro es ents l hpw hkind h1 h2 hperm hplain
        have mem : ∀ e ∈ ents.toList, ∃ p ∈ es, VR ι w Z s.nx p.1 e.key ∧ VR ι w Z s.nx p.2 e.val := fun e he =>
          pair_of h1 h2 (e.key, e.val) (hperm.mem_iff.2 (List.mem_map.2 ⟨e, he, rfl⟩))
        have mem' : ∀ p ∈ es, ∃ e ∈ ents.toList, VR ι w Z s.nx p.1 e.key ∧ VR ι w Z s.nx p.2 e.val := fun p hp => by
          obtain ⟨x, hx, hr⟩ := pair_to h1 h2 p hp
          obtain ⟨e, he, rfl⟩ := List.mem_map.1 (hperm.mem_iff.1 hx)
          exact ⟨e, he, hr⟩
        constructor
        · intro v' hf
          obtain ⟨p, hp, hpt, hpv⟩ := mfind_some hf
          obtain ⟨c, hcs⟩ := hkind
          have hkc : kindOf (ek.ev gl tm) = some c := by rw [(keyEq_kind hpt).1]; exact hcs p hp
          obtain ⟨j, e, hj, hje, hfn, _⟩ := findNow_some (d := d') (K := a.eval k) (es := ents.toList) (i := 0) (fun e he => by
            obtain ⟨q, hq, hqk, _⟩ := mem e he
            obtain ⟨b, hb⟩ := keyEq_total (x := ek.ev gl tm) (y := q.1) hkc (hcs q hq)
            exact ⟨b, sameNow_sound hpk hd hplain hvk hqk hb⟩) (by
            obtain ⟨e, he, hek, _⟩ := mem' p hp
            exact ⟨e, he, sameNow_sound hpk hd hplain hvk hek hpt⟩)
          obtain ⟨q, hq, hqk, hqv⟩ := mem e (List.mem_of_getElem? hj)
          obtain ⟨b, hb⟩ := keyEq_total (x := ek.ev gl tm) (y := q.1) hkc (hcs q hq)
          have := sameNow_sound hpk hd hplain hvk hqk hb
          rw [hje] at this
          simp only [Option.some.injEq] at this
          subst this
          have hpq := keys_uniq hpw p hp q hq hpt hb
          subst hpq
          exact ⟨_, _, hfn, hpv ▸ hqv⟩
        · intro hf
          exact findNow_none fun e he => by
            obtain ⟨q, hq, hqk, _⟩ := mem e he
            exact sameNow_sound hpk hd hplain hvk hqk (mfind_none hf q hq)
      -- the run, once the entries are known
      have main : ∀ (es : List (AV × AV)) (ents : Array MapEntry) (l : List (Value × Value)) (mv : Value), a.eval m = mv → ((mv = .map none ∧ ents = #[]) ∨ ∃ b clock, mv = .map (some b) ∧ w.heap[b]? = some (.map ents clock)) →
          (es.Pairwise fun p q => keyEq p.1 q.1 = some false) → (∃ c, ∀ p ∈ es, kindOf p.1 = some c) → VRs ι w Z s.nx (es.map (·.1)) (l.map (·.1)) → VRs ι w Z s.nx (es.map (·.2)) (l.map (·.2)) →
          List.Perm l (ents.toList.map fun e => (e.key, e.val)) →
          (match plainKey pk (ek.ev gl tm), mfind (ek.ev gl tm) es with
            | true, some (some v) => some (if ok then AV.tup [v, .bool true] else v, s)
            | true, some none => some (if ok then AV.tup [z, .bool false] else z, s)
            | _, _ => none) = some (v, s') → WOut ι w Z lo s ((execOp a.eval ⟨dst, .lookup t m k ok, ty, pos, after, guard⟩).run P w) v s' := by
        intro es ents l mv hmv hmap hpw hkind h1 h2 hperm hev
        have hck : ∀ b, (Instr.checkKey b 10000 kt (a.eval k)).run P w = .ok () w := fun b => checkKey_plain (n := 9999) hpk
        have hrun : ∀ (q : Option (Nat × Value)), Instr.findNow d' (a.eval k) ents.toList 0 = some q → (execOp a.eval ⟨dst, .lookup t m k ok, ty, pos, after, guard⟩).run P w =
            .ok (.value (match q with | some (_, u) => if ok then .tuple #[u, .bool true] else u | none => if ok then .tuple #[zu, .bool false] else zu)) w := by
          intro q hq
          have hfk : (Instr.findKey kt (a.eval k) ents.toList).run P w = .ok q w := by
            simp [Instr.findKey, run_underlying hd, hq]
          rcases hmap with ⟨rfl, rfl⟩ | ⟨b, clock, rfl, hb⟩
          · cases q with
            | none => simp [execOp, Instr.lookup, run_underlying hu, hmv, hck, hfk, run_zeroT hzu]
            | some q => simp [Instr.findNow] at hq
          · have hgo : (getObj b).run P w = .ok (.map ents clock) w := by simp [getObj, Sem.run, hb]
            cases q with
            | none => simp [execOp, Instr.lookup, run_underlying hu, hmv, hgo, hck, hfk, run_zeroT hzu]
            | some q => simp [execOp, Instr.lookup, run_underlying hu, hmv, hgo, hck, hfk]
        split at hev
        · rename_i v' hp hf
          simp only [Option.some.injEq, Prod.mk.injEq] at hev
          obtain ⟨rfl, rfl⟩ := hev
          obtain ⟨j, u, hfn, hvu⟩ := (key es ents l hpw hkind h1 h2 hperm hp).1 v' hf
          exact WOut.same r (hrun _ hfn) (fin hvu)
        · rename_i hp hf
          simp only [Option.some.injEq, Prod.mk.injEq] at hev
          obtain ⟨rfl, rfl⟩ := hev
          exact WOut.same r (hrun _ ((key es ents l hpw hkind h1 h2 hperm hp).2 hf)) (fin hzr)
        · simp at hev
      simp only [evWet] at hev
      generalize hmv : a.eval m = mv at hvm
      generalize hme : em.ev gl tm = me at hvm hev
      cases me <;> simp only [reduceCtorEq] at hev
      · -- nil
        cases hvm
        exact main [] #[] [] _ hmv (.inl ⟨rfl, rfl⟩) List.Pairwise.nil ⟨.b, by simp⟩ (.nil _) (.nil _) (by simp) hev
      · rename_i id
        cases hvm with
        | mp _ _ hid =>
          cases hg : s.H.get id with
          | none => rw [hg] at hev; simp at hev
          | some blk =>
            cases blk with
            | cells => rw [hg] at hev; simp at hev
            | map es =>
              rw [hg] at hev
              obtain ⟨_, _, _, hko, ents, clock, hb, l, h1, h2, h3⟩ := r.blk id _ hg
              exact main es ents l _ hmv (.inr ⟨_, clock, rfl, hb⟩) hko.2 hko.1 h1 h2 h3 hev
    · simp at hc
  · simp at hc

/-- Put a pair into a map's list: at the end if its key is new, else at its key's place. -/
theorem mput_cases : ∀ {es es' : List (AV × AV)} {k v : AV}, mput k v es = some es' →
    (mfind k es = some none ∧ es' = es ++ [(k, v)]) ∨ ∃ A u B, es = A ++ (k, u) :: B ∧ es' = A ++ (k, v) :: B ∧ (∀ p ∈ A, keyEq k p.1 = some false) ∧ keyEq k k = some true := by
  intro es
  induction es with
  | nil => intro es' k v h; simp [mput] at h; subst h; exact .inl ⟨rfl, rfl⟩
  | cons p r ih =>
    obtain ⟨x, u⟩ := p
    intro es' k v h
    simp only [mput] at h
    split at h
    · rename_i he
      simp only [Option.some.injEq] at h; subst h
      have := keyEq_true he
      subst this
      exact .inr ⟨[], u, r, rfl, rfl, by simp, he⟩
    · rename_i he
      split at h
      · rename_i r' hr
        simp only [Option.some.injEq] at h; subst h
        rcases ih hr with ⟨h1, h2⟩ | ⟨A, u', B, h1, h2, h3, h4⟩
        · exact .inl ⟨by simp [mfind, he, h1], by rw [h2]; rfl⟩
        · refine .inr ⟨(x, u) :: A, u', B, by rw [h1]; rfl, by rw [h2]; rfl, ?_, h4⟩
          intro p hp
          rcases List.mem_cons.1 hp with rfl | hp
          · exact he
          · exact h3 p hp
      · simp at h
    · simp at h

theorem vrs_split {nx : Nat} : ∀ {A B : List AV} {l : List Value}, VRs ι w Z nx (A ++ B) l → ∃ la lb, l = la ++ lb ∧ VRs ι w Z nx A la ∧ VRs ι w Z nx B lb
  | [], _, l, h => ⟨[], l, rfl, .nil _, h⟩
  | _ :: _, _, _, .cons _ _ u _ us h t => by
    obtain ⟨la, lb, rfl, h1, h2⟩ := vrs_split t
    exact ⟨u :: la, lb, rfl, .cons _ _ _ _ _ h h1, h2⟩
theorem bytes_inj {x y : ByteArray} (h : List.map (fun b => b.toNat) x.data.toList = List.map (fun b => b.toNat) y.data.toList) : x = y := by
  have := map_toNat_inj h
  obtain ⟨⟨x⟩⟩ := x
  obtain ⟨⟨y⟩⟩ := y
  simp only at this
  rw [this]
theorem VR.str_inv {nx : Nat} {l : List Nat} {u : Value} (h : VR ι w Z nx (.str l) u) : ∃ s : ByteArray, u = .string s ∧ l = s.data.toList.map (·.toNat) := by
  cases h; exact ⟨_, rfl, rfl⟩
theorem plain_fun {pk : PK} {k : AV} {K Q : Value} {nx nx' : Nat} (hp : plainKey pk k = true) (h : VR ι w Z nx k K) (h' : VR ι w Z nx' k Q) : K = Q := by
  cases pk <;> cases k <;> simp [plainKey] at hp
  · cases h; cases h'; rfl
  · cases h; cases h'; rfl
  · obtain ⟨x, rfl, hx⟩ := h.str_inv
    obtain ⟨y, rfl, hy⟩ := h'.str_inv
    rw [bytes_inj (hx.symm.trans hy)]
theorem sameBits_plain {pk : PK} {k : AV} {K : Value} {nx n : Nat} (hp : plainKey pk k = true) (h : VR ι w Z nx k K) : Instr.sameBits n K K = true := by
  cases pk <;> cases k <;> simp [plainKey] at hp <;> cases h <;> cases n <;> simp [Instr.sameBits, beq_toListBytes]

theorem plain_kind {pk : PK} {k : AV} (hp : plainKey pk k = true) : ∃ c, kindOf k = some c ∧ keyEq k k = some true := by
  cases pk <;> cases k <;> simp [plainKey] at hp
  · rename_i b; exact ⟨_, rfl, by simp [keyEq]⟩
  · exact ⟨_, rfl, by simp [keyEq]⟩
  · exact ⟨_, rfl, by simp only [keyEq]; rw [natsEq_iff.2 rfl]⟩

theorem run_mapUpdate {t kt et : TypeId} {m k x : Value} {b clock i : Nat} {ents : Array MapEntry} {pk : PK} {d' : TypeDesc} (hu : P.underlying t = some (.map kt et)) (hp : primT P kt = some pk) (hd : P.underlying kt = some d')
    (hm : m = .map (some b)) (hb : w.heap[b]? = some (.map ents clock)) :
    (Instr.findNow d' k ents.toList 0 = some none → (Instr.mapUpdate t m k x).run P w = .ok () { w with heap := w.heap.setIfInBounds b (.map (ents.push { key := k, val := x, born := clock }) (clock + 1)) }) ∧
    (∀ u, Instr.findNow d' k ents.toList 0 = some (some (i, u)) → ∀ e, ents[i]? = some e → Instr.sameBits 10000 e.key k = true →
      (Instr.mapUpdate t m k x).run P w = .ok () { w with heap := w.heap.setIfInBounds b (.map (ents.modify i fun e => { e with key := k, val := x }) clock) }) := by
  have hck : ∀ b, (Instr.checkKey b 10000 kt k).run P w = .ok () w := fun b => checkKey_plain (n := 9999) hp
  have hgo : (getObj b).run P w = .ok (.map ents clock) w := by simp [getObj, Sem.run, hb]
  have hso : ∀ o, (setObj b o).run P w = .ok () { w with heap := w.heap.setIfInBounds b o } := fun o => by simp [setObj, Sem.run, hb]
  subst hm
  constructor
  · intro hf
    have hfk : (Instr.findKey kt k ents.toList).run P w = .ok none w := by simp [Instr.findKey, run_underlying hd, hf]
    simp [Instr.mapUpdate, run_underlying hu, hgo, hck, hfk, hso]
  · intro u hf e he hsb
    have hfk : (Instr.findKey kt k ents.toList).run P w = .ok (some (i, u)) w := by simp [Instr.findKey, run_underlying hd, hf]
    simp [Instr.mapUpdate, run_underlying hu, hgo, hck, hfk, hso, Instr.keyThatStays, he, hsb]

theorem wet_mapset {t : TypeId} {m k x : Operand} {d : Wet} {v : AV} {o : Oper} (r : Rel ι w Z s.nx s.H.get) (hgl : GlR ι w Z gl) (htm : TmR ι w Z s.nx tm a.tmps)
    (ho : o.op = .mapUpdate t m k x ∨ o.op = .insert t m k x)
    (hc : ofOp P o.op = some (.wet d)) (hev : evWet gl tm lo s d = some (v, s')) : WOut ι w Z lo s ((execOp a.eval o).run P w) v s' := by
  have hc' : ofOp P (.mapUpdate t m k x) = some (.wet d) := by
    rcases ho with h | h <;> rw [h] at hc
    · exact hc
    · simpa only [ofOp] using hc
  have hex : ∀ w', (Instr.mapUpdate t (a.eval m) (a.eval k) (a.eval x)).run P w = .ok () w' → (execOp a.eval o).run P w = .ok .skip w' := by
    intro w' h
    rcases ho with h2 | h2 <;> simp [execOp, h2, h]
  simp only [ofOp] at hc'
  split at hc'
  · rename_i kt et em ek ex hu hm hk hx
    simp only [Option.map_eq_some_iff, EOp.wet.injEq] at hc'
    obtain ⟨pk, hpk, rfl⟩ := hc'
    have hvm := eo_sound (a := a) hgl htm hm
    have hvk := eo_sound (a := a) hgl htm hk
    have hvx := eo_sound (a := a) hgl htm hx
    obtain ⟨d', hd⟩ : ∃ d', P.underlying kt = some d' := by rcases primT_cases hpk with ⟨hu, _⟩ | ⟨j, hu, _⟩ | ⟨hu, _⟩ <;> exact ⟨_, hu⟩
    simp only [evWet] at hev
    generalize hmv : a.eval m = mv at hvm
    split at hev
    · rename_i id hid
      rw [hid] at hvm
      split at hev
      · rename_i hlo
        split at hev
        · rename_i es hg
          split at hev
          · rename_i es' hpl hmp
            simp only [Option.some.injEq, Prod.mk.injEq] at hev
            obtain ⟨rfl, rfl⟩ := hev
            obtain ⟨hidlt, hblt, hnz, ⟨⟨c, hcs⟩, hpw⟩, ents, clock, hb, l, h1, h2, h3⟩ := r.blk id _ hg
            obtain ⟨ck, hck, hkk⟩ := plain_kind hpl
            cases hvm with
            | mp _ _ hid' =>
            have put : ∀ (w' : World) (ents' : Array MapEntry) (clock' : Nat) (l' : List (Value × Value)), w' = { w with heap := w.heap.setIfInBounds (ι.blk id) (.map ents' clock') } → KeysOk es' → VRs ι w Z s.nx (es'.map (·.1)) (l'.map (·.1)) → VRs ι w Z s.nx (es'.map (·.2)) (l'.map (·.2)) →
                List.Perm l' (ents'.toList.map fun e => (e.key, e.val)) → (Instr.mapUpdate t (a.eval m) (a.eval k) (a.eval x)).run P w = .ok () w' →
                WOut ι w Z lo s ((execOp a.eval o).run P w) undefA { s with H := s.H.set id (.map es') } := by
              intro w' ents' clock' l' hw' hko hk1 hk2 hp hrun
              have hh : w'.heap = w.heap.setIfInBounds (ι.blk id) (.map ents' clock') := by rw [hw']
              have hz : ∀ q, Z q → Z q ∧ w'.heap[q]? = w.heap[q]? := fun q hq => ⟨hq, by rw [hh, Array.getElem?_setIfInBounds_ne (fun (e : ι.blk id = q) => hnz (by rw [e]; exact hq))]⟩
              obtain ⟨e1, e2⟩ := rel_put (lo := lo) (id := id) (B := ι.blk id) (b := .map es') (G' := (s.H.set id (.map es')).get) (w' := w') (nx' := s.nx) r (.refl _ _) (Nat.le_refl _) (fun q _ hne => by rw [hh, Array.getElem?_setIfInBounds_ne (fun e => hne e.symm)]) (by rw [hh]; simp)
                (fun i y hi hy => by
                  rw [Tr.get_put_ne _ _ hi] at hy
                  exact ⟨hy, r.inj i id _ _ hy hg hi⟩) (Tr.get_put_self _ _ _) hidlt rfl (by rw [hh]; simpa using hblt) hnz
                ⟨hko, ents', clock', by rw [hh]; simp [hblt], l', hk1.mono (.refl _ _) hz (Nat.le_refl _), hk2.mono (.refl _ _) hz (Nat.le_refl _), hp⟩ (.inr ⟨id, hlo, by rw [hg]; rfl, rfl⟩) (by rw [hw']) (by rw [hw']) (by rw [hw'])
              exact ⟨.skip, w', ι, Z, hex w' hrun, .inr ⟨rfl, rfl⟩, e1, e2⟩
            have mem : ∀ e ∈ ents.toList, ∃ p ∈ es, VR ι w Z s.nx p.1 e.key ∧ VR ι w Z s.nx p.2 e.val := fun e he =>
              pair_of h1 h2 (e.key, e.val) (h3.mem_iff.2 (List.mem_map.2 ⟨e, he, rfl⟩))
            rcases mput_cases hmp with ⟨hnone, rfl⟩ | ⟨A, u, B, rfl, rfl, hA, _⟩
            · have hall := mfind_none hnone
              have hfn : Instr.findNow d' (a.eval k) ents.toList 0 = some none := findNow_none fun e he => by
                obtain ⟨q, hq, hqk, _⟩ := mem e he
                exact sameNow_sound hpk hd hpl hvk hqk (hall q hq)
              have hrun := (run_mapUpdate (P := P) (i := 0) (x := a.eval x) hu hpk hd hmv hb).1 hfn
              refine put _ (ents.push { key := a.eval k, val := a.eval x, born := clock }) (clock + 1) (l ++ [(a.eval k, a.eval x)]) rfl ?_ ?_ ?_ ?_ hrun
              · refine ⟨⟨ck, ?_⟩, ?_⟩
                · intro p hp
                  rcases List.mem_append.1 hp with hp | hp
                  · have := (keyEq_kind (hall p hp)).1
                    rw [← this]; exact hck
                  · simp at hp; subst hp; exact hck
                · refine List.pairwise_append.2 ⟨hpw, List.pairwise_singleton _ _, ?_⟩
                  intro p hp q hq
                  simp at hq; subst hq
                  rw [keyEq_comm]; exact hall p hp
              · simp only [List.map_append, List.map_cons, List.map_nil]; exact h1.append (.cons _ _ _ _ _ hvk (.nil _))
              · simp only [List.map_append, List.map_cons, List.map_nil]; exact h2.append (.cons _ _ _ _ _ hvx (.nil _))
              · simp only [Array.toList_push, List.map_append, List.map_cons, List.map_nil]
                exact h3.append_right _
            · -- the key's place
              obtain ⟨hpwA, hpwB, hpwAB⟩ := List.pairwise_append.1 hpw
              obtain ⟨hkB, hpwB'⟩ := List.pairwise_cons.1 hpwB
              simp only [List.map_append, List.map_cons] at h1 h2
              obtain ⟨ka, kb0, hka, h1a, h1b⟩ := vrs_split h1
              obtain ⟨va, vb0, hva, h2a, h2b⟩ := vrs_split h2
              cases h1b with | cons _ _ K1 _ kb h1k h1b =>
              cases h2b with | cons _ _ U1 _ vb h2u h2b =>
              have hK1 : K1 = a.eval k := plain_fun hpl h1k hvk
              subst hK1
              -- the aligned list, in three
              have hlen : l.length = ka.length + 1 + kb.length := by
                have := congrArg List.length hka
                simp at this; omega
              let lA := l.take ka.length
              let lB := l.drop (ka.length + 1)
              have hkal : ka.length < l.length := by omega
              have hval : va.length = ka.length := by
                have e1 := h1a.length
                have e2 := h2a.length
                simp at e1 e2; omega
              have hl : l = lA ++ (a.eval k, U1) :: lB := by
                have e1 : l[ka.length]? = some l[ka.length] := List.getElem?_eq_getElem hkal
                have e2 : (l.map (·.1))[ka.length]? = some (a.eval k) := by rw [hka]; simp
                have e3 : (l.map (·.2))[ka.length]? = some U1 := by rw [hva, ← hval]; simp
                have e4 : l[ka.length] = (a.eval k, U1) := by
                  rw [List.getElem?_map, e1] at e2 e3
                  simp only [Option.map_some, Option.some.injEq] at e2 e3
                  exact Prod.ext e2 e3
                rw [← e4]
                simp only [lA, lB]
                rw [List.getElem_cons_drop, List.take_append_drop]
              have hA1 : lA.map (·.1) = ka := by simp only [lA, List.map_take]; rw [hka]; simp
              have hB1 : lB.map (·.1) = kb := by simp only [lB, List.map_drop]; rw [hka, List.drop_append]; simp
              have hA2 : lA.map (·.2) = va := by simp only [lA, List.map_take]; rw [hva, ← hval]; simp
              have hB2 : lB.map (·.2) = vb := by simp only [lB, List.map_drop]; rw [hva, ← hval, List.drop_append]; simp
              have memA : ∀ y ∈ lA, ∃ p ∈ A, VR ι w Z s.nx p.1 y.1 ∧ VR ι w Z s.nx p.2 y.2 := pair_of (by rw [hA1]; exact h1a) (by rw [hA2]; exact h2a)
              have memB : ∀ y ∈ lB, ∃ p ∈ B, VR ι w Z s.nx p.1 y.1 ∧ VR ι w Z s.nx p.2 y.2 := pair_of (by rw [hB1]; exact h1b) (by rw [hB2]; exact h2b)
              rw [hl] at h3
              -- the entry that is found
              have hsn : ∀ {q : AV} {Q : Value} {b : Bool}, VR ι w Z s.nx q Q → keyEq (ek.ev gl tm) q = some b → Instr.sameNow d' (a.eval k) Q = some b := fun hq hb => sameNow_sound hpk hd hpl hvk hq hb
              obtain ⟨e0, he0, he0k⟩ : ∃ e ∈ ents.toList, (e.key, e.val) = (a.eval k, U1) := by
                have : (a.eval k, U1) ∈ ents.toList.map fun e => (e.key, e.val) := h3.mem_iff.1 (by simp)
                obtain ⟨e, he, h⟩ := List.mem_map.1 this
                exact ⟨e, he, h⟩
              obtain ⟨j, e, hj, hje, hfn, _⟩ := findNow_some (d := d') (K := a.eval k) (es := ents.toList) (i := 0) (fun e he => by
                obtain ⟨q, hq, hqk, _⟩ := mem e he
                obtain ⟨b, hb⟩ := keyEq_total (x := ek.ev gl tm) (y := q.1) (c := c) (by
                  have := hcs (ek.ev gl tm, u) (by simp)
                  exact this) (hcs q hq)
                exact ⟨b, hsn hqk hb⟩) ⟨e0, he0, by
                  have : e0.key = a.eval k := congrArg Prod.fst he0k
                  rw [this]; exact hsn hvk hkk⟩
              have hpair : (e.key, e.val) = (a.eval k, U1) := by
                have hmem : (e.key, e.val) ∈ lA ++ (a.eval k, U1) :: lB := h3.mem_iff.2 (List.mem_map.2 ⟨e, List.mem_of_getElem? hj, rfl⟩)
                rcases List.mem_append.1 hmem with h | h
                · obtain ⟨p, hp, hp1, _⟩ := memA _ h
                  have := hsn hp1 (hA p hp)
                  simp only at this
                  rw [hje] at this; simp at this
                · rcases List.mem_cons.1 h with h | h
                  · exact h
                  · obtain ⟨p, hp, hp1, _⟩ := memB _ h
                    have := hsn hp1 (hkB p hp)
                    simp only at this
                    rw [hje] at this; simp at this
              have hjl : j < ents.toList.length := by
                rcases Nat.lt_or_ge j ents.toList.length with h | h
                · exact h
                · rw [List.getElem?_eq_none h] at hj; simp at hj
              have hekey : e.key = a.eval k := congrArg Prod.fst hpair
              have hrun := (run_mapUpdate (P := P) (i := j) (x := a.eval x) hu hpk hd hmv hb).2 e.val (by simpa using hfn) e (by simpa using hj) (by rw [hekey]; exact sameBits_plain hpl hvk)
              refine put _ (ents.modify j fun e => { e with key := a.eval k, val := a.eval x }) clock (lA ++ (a.eval k, a.eval x) :: lB) rfl ?_ ?_ ?_ ?_ hrun
              · refine ⟨⟨c, ?_⟩, ?_⟩
                · intro p hp
                  have : ∃ p' ∈ A ++ (ek.ev gl tm, u) :: B, p'.1 = p.1 := by
                    rcases List.mem_append.1 hp with h | h
                    · exact ⟨p, by simp [h], rfl⟩
                    · rcases List.mem_cons.1 h with h | h
                      · exact ⟨(ek.ev gl tm, u), by simp, by rw [h]⟩
                      · exact ⟨p, by simp [h], rfl⟩
                  obtain ⟨p', hp', he⟩ := this
                  rw [← he]; exact hcs p' hp'
                · refine List.pairwise_append.2 ⟨hpwA, List.pairwise_cons.2 ⟨hkB, hpwB'⟩, ?_⟩
                  intro p hp q hq
                  rcases List.mem_cons.1 hq with h | h
                  · have := hpwAB p hp (ek.ev gl tm, u) (by simp)
                    rw [h]; exact this
                  · exact hpwAB p hp q (by simp [h])
              · simp only [List.map_append, List.map_cons]; rw [hA1, hB1]; exact h1a.append (.cons _ _ _ _ _ hvk h1b)
              · simp only [List.map_append, List.map_cons]; rw [hA2, hB2]; exact h2a.append (.cons _ _ _ _ _ hvx h2b)
              · -- the entries, in three
                have hsplit : ents.toList = ents.toList.take j ++ e :: ents.toList.drop (j + 1) := by
                  have : ents.toList[j] = e := by rw [List.getElem?_eq_getElem hjl] at hj; simpa using hj
                  rw [← this, List.getElem_cons_drop, List.take_append_drop]
                have hmod : (ents.modify j fun e => { e with key := a.eval k, val := a.eval x }).toList = ents.toList.take j ++ { e with key := a.eval k, val := a.eval x } :: ents.toList.drop (j + 1) := by
                  apply List.ext_getElem?
                  intro q
                  rw [Array.getElem?_toList, Array.getElem?_modify]
                  by_cases hq : j = q
                  · subst hq
                    rw [if_pos rfl, List.getElem?_append_right (by simp; omega)]
                    have : ents[j]? = some e := by simpa using hj
                    rw [this]
                    simp [show j - min j ents.size = 0 by simp at hjl; omega]
                  · rw [if_neg hq]
                    have h0 : ents[q]? = ents.toList[q]? := by simp
                    rw [h0]
                    conv => lhs; rw [hsplit]
                    have hl2 : (List.take j ents.toList).length = j := by simp; simp at hjl; omega
                    by_cases hlt : q < j
                    · rw [List.getElem?_append_left (by omega), List.getElem?_append_left (by omega)]
                    · rw [List.getElem?_append_right (by omega), List.getElem?_append_right (by omega), hl2]
                      have : q - j = (q - j - 1) + 1 := by omega
                      rw [this]; rfl
                rw [hmod]
                rw [hsplit] at h3
                simp only [List.map_append, List.map_cons] at h3 ⊢
                rw [hpair] at h3
                have e1 := (List.perm_middle.symm.trans h3).trans List.perm_middle
                have e2 := e1.cons_inv
                exact (List.perm_middle.trans (e2.cons _)).trans List.perm_middle.symm
          · simp at hev
        · simp at hev
      · simp at hev
    · simp at hev
  · simp at hc'
end
end Go.Ev
