/- Each instruction that only looks at its operands does in the model what the evaluator says: all together. -/
import Derived.Test.YtkakihmhmobgoaaGreatDoorXevI
namespace Go.Ev

section
variable {ι : Emb} {w : World} {Z : Nat → Prop} {nx : Nat} {gl : Nat → AV} {tm : Tr AV} {P : Program} {a : Act}

theorem bytes_len (s : ByteArray) : (bytes s).length = s.size := by rw [size_eq]; exact List.length_map ..
theorem extract_bytes (s : ByteArray) (l h : Nat) : bytes (s.extract l h) = ((bytes s).drop l).take (h - l) := by
  have e : (s.extract l h).data.toList = (s.data.toList.drop l).take (h - l) := by
    rw [ByteArray.data_extract, Array.toList_extract]
    try simp [List.extract_eq_drop_take]
  unfold bytes
  rw [e, List.map_take, List.map_drop]

theorem dry_slice {t : TypeId} {x : Operand} {lo hi : Option Operand} {d : Dry} {v : AV} {dst ty pos after guard} (hgl : GlR ι w Z gl) (htm : TmR ι w Z nx tm a.tmps)
    (hc : ofOp P (.slice t x lo hi none) = some (.dry d)) (hev : evDry gl tm d = some v) : Yes ι w Z nx P a ⟨dst, .slice t x lo hi none, ty, pos, after, guard⟩ v := by
  simp only [ofOp] at hc
  split at hc
  · rename_i e el eh hu hx h1 h2
    simp only [Option.some.injEq, EOp.dry.injEq] at hc
    subst hc
    simp only [evDry] at hev
    have hv := eo_sound (a := a) hgl htm hx
    split at hev
    · rename_i s he
      rw [he] at hv
      split at hev
      · rename_i l h hl hh
        split at hev
        · rename_i hb
          simp only [Option.some.injEq] at hev; subst hev
          generalize hv' : a.eval x = xv at hv
          cases hv with
          | str _ s =>
            have hlen : (bytes s).length = s.size := bytes_len s
            have hh' : evo gl tm eh s.size = some h := by rw [← hlen]; exact hh
            have hsb := sliceBounds_sound (a := a) (P := P) (isS := false) (cap := s.size) hgl htm h1 h2 hl hh' hb.1 (by have := hb.2; unfold bytes at hlen; omega)
            refine ⟨.string (s.extract l h), ?_, ?_⟩
            · simp [execOp, Instr.sliceAt, Instr.slice, run_underlying hu, hv', hsb]
            · have := VR.str (ι := ι) (w := w) (Z := Z) nx (s.extract l h)
              have e := extract_bytes s l h
              unfold bytes at e
              rw [e] at this
              exact this
        · simp at hev
      · simp at hev
    · simp at hev
  · split at hc <;> simp at hc
  · split at hc <;> simp at hc
  · simp at hc

theorem dry_index {t : TypeId} {x i : Operand} {d : Dry} {v : AV} {dst ty pos after guard} (hgl : GlR ι w Z gl) (htm : TmR ι w Z nx tm a.tmps)
    (hc : ofOp P (.index t x i) = some (.dry d)) (hev : evDry gl tm d = some v) : Yes ι w Z nx P a ⟨dst, .index t x i, ty, pos, after, guard⟩ v := by
  simp only [ofOp] at hc
  split at hc
  · rename_i e ei hu hx hi
    simp only [Option.some.injEq, EOp.dry.injEq] at hc
    subst hc
    simp only [evDry] at hev
    have hv := eo_sound (a := a) hgl htm hx
    have hvi := eo_sound (a := a) hgl htm hi
    split at hev
    · rename_i s k he hk
      rw [he] at hv
      obtain ⟨kk, hki⟩ := natOf_sound hk hvi
      split at hev
      · rename_i b hb
        simp only [Option.some.injEq] at hev; subst hev
        generalize hv' : a.eval x = xv at hv
        cases hv with
        | str _ s =>
          have hlt : k < s.size := by
            rw [← bytes_len]
            rcases Nat.lt_or_ge k (bytes s).length with h | h
            · exact h
            · unfold bytes at h; rw [List.getElem?_eq_none h] at hb; simp at hb
          have hs : s[k]? = some s[k] := getElem?_pos s k hlt
          refine ⟨.int .u8 s[k].toNat, by simp [execOp, Instr.index, run_underlying hu, hv', hki, asIntOf, hs], ?_⟩
          have : b = s[k].toNat := by
            simp only [List.getElem?_map, Option.map_eq_some_iff] at hb
            obtain ⟨y, hy, rfl⟩ := hb
            have h2 : s.data.toList[k]? = some s[k] := by
              have hl : k < s.data.toList.length := by have := size_eq s; omega
              rw [List.getElem?_eq_getElem hl]
              rfl
            rw [h2] at hy
            simp only [Option.some.injEq] at hy
            rw [hy]
          rw [this]
          exact .int _ _ _
      · simp at hev
    · simp at hev
  · rename_i n el e ei hu hx hi
    split at hc
    · rename_i sz g hs hg
      simp only [Option.some.injEq, EOp.dry.injEq] at hc
      subst hc
      simp only [evDry] at hev
      have hv := eo_sound (a := a) hgl htm hx
      have hvi := eo_sound (a := a) hgl htm hi
      split at hev
      · rename_i cs k he hk
        rw [he] at hv
        obtain ⟨kk, hki⟩ := natOf_sound hk hvi
        split at hev
        · rename_i hlt
          split at hev
          · rename_i c hcut
            generalize hv' : a.eval x = xv at hv
            cases hv with
            | agg _ _ vs hv =>
              obtain ⟨u, hr, hu'⟩ := run_part (P := P) hs hg hv hcut hev
              exact ⟨u, by simp [execOp, Instr.index, run_underlying hu, hv', hki, asIntOf, hlt, run_sizeT hs, hr], hu'⟩
          · simp at hev
        · simp at hev
      · simp at hev
    · simp at hc
  · simp at hc

theorem dry_builtin {b : Builtin} {args : Array Operand} {ts : Array TypeId} {d : Dry} {v : AV} {dst ty pos after guard} (hgl : GlR ι w Z gl) (htm : TmR ι w Z nx tm a.tmps)
    (hc : ofOp P (.call ⟨.builtin b, args, ts⟩) = some (.dry d)) (hev : evDry gl tm d = some v) : Yes ι w Z nx P a ⟨dst, .call ⟨.builtin b, args, ts⟩, ty, pos, after, guard⟩ v := by
  simp only [ofOp] at hc
  unfold ofBuiltin at hc
  split at hc
  · rename_i t x hts has
    have hts' : ts = #[t] := Array.ext' hts
    have has' : args = #[x] := Array.ext' has
    subst hts' has'
    split at hc
    · simp at hc
    · rename_i e hu hx
      simp only [Option.some.injEq, EOp.dry.injEq] at hc; subst hc
      simp only [evDry] at hev
      have hv := eo_sound (a := a) hgl htm hx
      split at hev
      · rename_i s he
        rw [he] at hv
        simp only [Option.some.injEq] at hev; subst hev
        generalize hv' : a.eval x = xv at hv
        cases hv with
        | str _ s =>
          rw [show (List.map (fun x => x.toNat) s.data.toList).length = s.size from bytes_len s]
          exact ⟨goInt s.size, by simp [execOp, resolve, invoke, builtin, Builtin.len_, run_underlying hu, hv'], .int _ _ _⟩
      · simp at hev
    · rename_i el e hu hx
      simp only [Option.some.injEq, EOp.dry.injEq] at hc; subst hc
      simp only [evDry] at hev
      have hv := eo_sound (a := a) hgl htm hx
      have hex : ∀ A n c, a.eval x = .slice A n c → Yes ι w Z nx P a ⟨dst, .call ⟨.builtin .len, #[x], #[t]⟩, ty, pos, after, guard⟩ (gint n) := fun A n c hs =>
        ⟨goInt n, by simp [execOp, resolve, invoke, builtin, Builtin.len_, run_underlying hu, hs], .int _ _ _⟩
      generalize hv' : a.eval x = xv at hv
      split at hev <;> (try rename_i he) <;> (try rw [he] at hv) <;> simp only [Option.some.injEq, reduceCtorEq] at hev <;> subst hev
      · cases hv; exact hex _ _ _ hv'
      · cases hv <;> exact hex _ _ _ hv'
      · cases hv <;> exact hex _ _ _ hv'
    · rename_i n el e hu hx
      simp only [Option.some.injEq, EOp.dry.injEq] at hc; subst hc
      simp only [evDry, Eo.ev, Option.some.injEq] at hev
      subst hev
      exact ⟨goInt n, by simp [execOp, resolve, invoke, builtin, Builtin.len_, run_underlying hu], .int _ _ _⟩
    · simp at hc
  · split at hc
    · split at hc <;> simp at hc
    · split at hc <;> simp at hc
    · simp at hc
  · split at hc
    · split at hc <;> simp at hc
    · simp at hc
  · split at hc
    · split at hc
      · split at hc <;> simp at hc
      · simp at hc
    · simp at hc
  · rename_i xs
    simp only [Option.map_eq_some_iff] at hc
    obtain ⟨es, hes, hc⟩ := hc
    simp only [EOp.dry.injEq] at hc; subst hc
    simp only [evDry] at hev
    have hvs := eos_sound (a := a) hgl htm hes
    split at hev
    · rename_i y r hr
      rw [hr] at hvs
      generalize hu : (List.map a.eval args.toList) = us at hvs
      cases hvs with
      | cons _ _ u _ us h1 h2 =>
        obtain ⟨r', hr', hv'⟩ := mmAll_sound (P := P) (mx := false) hev h1 h2
        refine ⟨r', ?_, hv'⟩
        simp only [Bool.false_eq_true, if_false] at hr'
        simp [execOp, resolve, invoke, builtin, Builtin.min_, hu, hr']
    · simp at hev
  · rename_i xs
    simp only [Option.map_eq_some_iff] at hc
    obtain ⟨es, hes, hc⟩ := hc
    simp only [EOp.dry.injEq] at hc; subst hc
    simp only [evDry] at hev
    have hvs := eos_sound (a := a) hgl htm hes
    split at hev
    · rename_i y r hr
      rw [hr] at hvs
      generalize hu : (List.map a.eval args.toList) = us at hvs
      cases hvs with
      | cons _ _ u _ us h1 h2 =>
        obtain ⟨r', hr', hv'⟩ := mmAll_sound (P := P) (mx := true) hev h1 h2
        refine ⟨r', ?_, hv'⟩
        simp only [if_true] at hr'
        simp [execOp, resolve, invoke, builtin, Builtin.max_, hu, hr']
    · simp at hev
  · simp at hc
  · simp at hc

/-- Every instruction that only looks at its operands. -/
theorem dry_sound {o : Oper} {d : Dry} {v : AV} (hgl : GlR ι w Z gl) (htm : TmR ι w Z nx tm a.tmps) (hc : ofOp P o.op = some (.dry d)) (hev : evDry gl tm d = some v) : Yes ι w Z nx P a o v := by
  obtain ⟨dst, op, ty, pos, after, guard⟩ := o
  simp only at hc
  cases op with
  | move x =>
    simp only [ofOp, Option.map_eq_some_iff, EOp.dry.injEq] at hc
    obtain ⟨e, he, rfl⟩ := hc
    simp only [evDry, Option.some.injEq] at hev; subst hev
    exact ⟨_, rfl, eo_sound (a := a) hgl htm he⟩
  | assign x =>
    simp only [ofOp, Option.map_eq_some_iff, EOp.dry.injEq] at hc
    obtain ⟨e, he, rfl⟩ := hc
    simp only [evDry, Option.some.injEq] at hev; subst hev
    exact ⟨_, rfl, eo_sound (a := a) hgl htm he⟩
  | pick c x y =>
    simp only [ofOp] at hc
    split at hc
    · rename_i ec ex ey h1 h2 h3
      simp only [Option.some.injEq, EOp.dry.injEq] at hc; subst hc
      have hc1 := eo_sound (a := a) hgl htm h1
      simp only [evDry] at hev
      split at hev
      · rename_i he
        simp only [Option.some.injEq] at hev; subst hev
        rw [he] at hc1
        generalize hv' : a.eval c = xv at hc1
        cases hc1
        exact ⟨_, by simp [execOp, hv', asBool], eo_sound (a := a) hgl htm h2⟩
      · rename_i he
        simp only [Option.some.injEq] at hev; subst hev
        rw [he] at hc1
        generalize hv' : a.eval c = xv at hc1
        cases hc1
        exact ⟨_, by simp [execOp, hv', asBool], eo_sound (a := a) hgl htm h3⟩
      · simp at hev
    · simp at hc
  | build t parts => exact dry_build hgl htm hc hev
  | nilCheck x =>
    simp only [ofOp, Option.map_eq_some_iff, EOp.dry.injEq] at hc
    obtain ⟨e, he, rfl⟩ := hc
    have hv := eo_sound (a := a) hgl htm he
    simp only [evDry] at hev
    generalize hv' : a.eval x = xv at hv
    split at hev <;> simp only [Option.some.injEq, reduceCtorEq] at hev <;> subst hev
    · rename_i h; rw [h] at hv; cases hv with | ptr _ _ _ hid => exact ⟨_, by simp [execOp, hv'], .ptr _ _ _ hid⟩
    · rename_i h; rw [h] at hv; cases hv with | cptr _ _ _ _ _ h1 h2 h3 => exact ⟨_, by simp [execOp, hv'], .cptr _ _ _ _ _ h1 h2 h3⟩
    · rename_i h; rw [h] at hv; cases hv with | fn _ _ _ _ _ _ h1 h2 => exact ⟨_, by simp [execOp, hv'], .fn _ _ _ _ _ _ h1 h2⟩
    · rename_i h; rw [h] at hv; cases hv with | ifc _ _ _ _ h1 => exact ⟨_, by simp [execOp, hv'], .ifc _ _ _ _ h1⟩
  | binOp op t x y yt =>
    simp only [ofOp] at hc
    split at hc
    · rename_i ex ey hx hy
      have hvx := eo_sound (a := a) hgl htm hx
      have hvy := eo_sound (a := a) hgl htm hy
      have hk : ∀ {z : Operand} {ez : Eo}, ofOperand z = some ez → isK ez = true → ∃ v, z = .const v := by
        intro z ez hz hkz
        cases z with
        | tmp => simp [ofOperand] at hz; subst hz; simp [isK] at hkz
        | const v => exact ⟨v, rfl⟩
        | global => simp [ofOperand] at hz; subst hz; simp [isK] at hkz
        | func f => simp [ofOperand] at hz; subst hz; simp [isK] at hkz
      split at hc
      · split at hc
        · rename_i k hkk
          split at hc
          · simp at hc
          · rename_i hif
            simp only [Option.some.injEq, EOp.dry.injEq] at hc; subst hc
            simp only [evDry] at hev
            split at hev
            · rename_i b hb
              simp only [Option.some.injEq, Bool.false_eq_true, if_false] at hev; subst hev
              have := eqAV_sound (P := P) (op := .eql) (xo := x) (yo := y) hkk hb hvx hvy (by
                intro hk0; subst hk0
                simp only [decide_true, Bool.true_and, Bool.and_eq_true, Bool.not_eq_true', not_and, Bool.not_eq_false] at hif
                by_cases h1 : isK ex = true
                · exact .inl (hk hx h1)
                · exact .inr (hk hy (hif (by simpa using h1)))) (.inl rfl)
              refine ⟨.bool b, ?_, .bool _ _⟩
              simp only [reduceCtorEq, if_false] at this
              simp only [execOp, Sem.run_bind] at this ⊢
              rw [this]; rfl
            · simp at hev
        · simp at hc
      · split at hc
        · rename_i k hkk
          split at hc
          · simp at hc
          · rename_i hif
            simp only [Option.some.injEq, EOp.dry.injEq] at hc; subst hc
            simp only [evDry] at hev
            split at hev
            · rename_i b hb
              simp only [Option.some.injEq, if_true] at hev; subst hev
              have := eqAV_sound (P := P) (op := .neq) (xo := x) (yo := y) hkk hb hvx hvy (by
                intro hk0; subst hk0
                simp only [decide_true, Bool.true_and, Bool.and_eq_true, Bool.not_eq_true', not_and, Bool.not_eq_false] at hif
                by_cases h1 : isK ex = true
                · exact .inl (hk hx h1)
                · exact .inr (hk hy (hif (by simpa using h1)))) (.inr rfl)
              refine ⟨.bool !b, ?_, .bool _ _⟩
              simp only [if_true] at this
              simp only [execOp, Sem.run_bind] at this ⊢
              rw [this]; rfl
            · simp at hev
        · simp at hc
      · rename_i hne hne'
        simp only [Option.some.injEq, EOp.dry.injEq] at hc; subst hc
        simp only [evDry] at hev
        obtain ⟨r, hr, hv⟩ := binAV_sound (P := P) (fun h => hne h) (fun h => hne' h) hev hvx hvy t
        refine ⟨r, ?_, hv⟩
        have hg : (eqGuard op t x y (a.eval x) (a.eval y)).run P w = .ok () w := by
          unfold eqGuard
          rw [if_pos (by cases op <;> first | rfl | exact absurd rfl hne | exact absurd rfl hne')]
          rfl
        simp only [execOp, Sem.run_bind, hg, Result.andThen_ok, hr, Sem.run_pure]
    · simp at hc
  | unOp op t x =>
    simp only [ofOp] at hc
    split at hc <;> simp only [Option.some.injEq, EOp.dry.injEq, reduceCtorEq] at hc <;> subst hc <;> rename_i e he <;> have hv := eo_sound (a := a) hgl htm he <;> simp only [evDry] at hev <;>
      split at hev <;> (try simp only [Option.some.injEq, reduceCtorEq] at hev) <;> rename_i h <;> rw [h] at hv <;> generalize hv' : a.eval x = xv at hv <;> cases hv
    · subst hev; exact ⟨_, by simp [execOp, Op.unary, hv'], .bool _ _⟩
    · subst hev; exact ⟨_, by simp [execOp, Op.unary, hv', Op.intArith], .int _ _ _⟩
    · simp only [binInt, Option.some.injEq] at hev; subst hev
      exact ⟨_, by simp only [execOp, Op.unary, hv', Op.intBits, Sem.run_bind, Sem.run_pure, Result.andThen_ok], .int _ _ _⟩
  | convert src dst' x =>
    simp only [ofOp] at hc
    split at hc
    · rename_i d1 k e hs hd he
      simp only [Option.some.injEq, EOp.dry.injEq] at hc; subst hc
      have hv := eo_sound (a := a) hgl htm he
      simp only [evDry] at hev
      split at hev
      · rename_i h
        simp only [Option.some.injEq] at hev; subst hev
        rw [h] at hv
        generalize hv' : a.eval x = xv at hv
        cases hv
        refine ⟨_, by simp [execOp, convert, run_underlying hs, run_underlying hd, hv', Conv.intToInt], .int _ _ _⟩
      · simp at hev
    · rename_i e hs hd he
      simp only [Option.some.injEq, EOp.dry.injEq] at hc; subst hc
      simp only [evDry, evo] at hev
      have hv := eo_sound (a := a) hgl htm he
      split at hev
      · rename_i s h
        rw [h] at hv
        generalize hv' : a.eval x = xv at hv
        cases hv with
        | str _ s =>
          simp at hev
          subst hev
          rw [List.take_of_length_le (by simp)]
          exact ⟨_, by simp [execOp, convert, run_underlying hs, run_underlying hd, hv'], .str _ _⟩
      · simp at hev
    · split at hc <;> simp at hc
    · simp at hc
  | makeInterface t x =>
    simp only [ofOp] at hc
    split at hc
    · simp at hc
    · rename_i d1 e hn hu he
      simp only [Option.some.injEq, EOp.dry.injEq] at hc; subst hc
      simp only [evDry, Option.some.injEq] at hev; subst hev
      refine ⟨.iface t (a.eval x), ?_, .ifc _ _ _ _ (eo_sound (a := a) hgl htm he)⟩
      simp only [execOp, Instr.makeInterface, Sem.run_bind, run_underlying hu, Result.andThen_ok]
      rfl
    · simp at hc
  | makeFunc f xs ys =>
    cases f <;> simp only [ofOp, reduceCtorEq] at hc
    split at hc
    · rename_i f ex ey hx hy
      simp only [Option.some.injEq, EOp.dry.injEq] at hc; subst hc
      simp only [evDry, Option.some.injEq] at hev; subst hev
      refine ⟨.func (.func _) (xs.map a.eval) (ys.map a.eval), rfl, .fn _ _ _ _ _ _ ?_ ?_⟩
      · simpa using eos_sound (a := a) hgl htm hx
      · simpa using eos_sound (a := a) hgl htm hy
    · simp at hc
  | slice t x lo hi mx =>
    cases mx with
    | none => exact dry_slice hgl htm hc hev
    | some => simp [ofOp] at hc
  | fieldAddr t x f => exact dry_fieldAddr hgl htm hc hev
  | field t x f => exact dry_field hgl htm hc hev
  | indexAddr t x i => exact dry_indexAddr hgl htm hc hev
  | index t x i => exact dry_index hgl htm hc hev
  | extract x i =>
    simp only [ofOp, Option.map_eq_some_iff, EOp.dry.injEq] at hc
    obtain ⟨e, he, rfl⟩ := hc
    have hv := eo_sound (a := a) hgl htm he
    simp only [evDry] at hev
    split at hev
    · rename_i vs h
      rw [h] at hv
      generalize hv' : a.eval x = xv at hv
      cases hv with
      | tup _ _ us hv =>
        obtain ⟨u, hu, hvu⟩ := hv.get hev
        refine ⟨u, ?_, hvu⟩
        have : us[i]? = some u := by simpa using hu
        simp [execOp, Instr.extract, hv', this]
    · simp at hev
  | typeAssert x xt t ok =>
    simp only [ofOp] at hc
    split at hc
    · simp at hc
    · rename_i d1 e z hn hu he hz
      simp only [Option.some.injEq, EOp.dry.injEq] at hc; subst hc
      have hv := eo_sound (a := a) hgl htm he
      obtain ⟨zu, hzu, hoz⟩ := zeroT_some hz
      have hzr := ofValue_sound (ι := ι) (w := w) (Z := Z) (nx := nx) zu z hoz
      have hni : ∀ ms, d1 ≠ .interface ms := fun ms h => hn ms h
      cases ok with
      | false =>
        simp only [Bool.false_eq_true, if_false, evDry] at hev
        split at hev
        · rename_i u v' h
          split at hev
          · rename_i hut
            simp only [Option.some.injEq] at hev; subst hev
            rw [h] at hv
            generalize hv' : a.eval x = xv at hv
            cases hv with
            | ifc _ _ _ y hy =>
              subst hut
              refine ⟨y, ?_, hy⟩
              cases d1 <;> first | exact absurd rfl (hni _) | simp [execOp, Instr.typeAssert, run_underlying hu, hv']
          · simp at hev
        · simp at hev
      | true =>
        simp only [if_true, evDry] at hev
        split at hev
        · rename_i u v' h
          rw [h] at hv
          generalize hv' : a.eval x = xv at hv
          cases hv with
          | ifc _ _ _ y hy =>
            split at hev
            · rename_i hut
              simp only [Option.some.injEq] at hev; subst hev
              subst hut
              refine ⟨.tuple #[y, .bool true], ?_, .tup _ _ _ (.cons _ _ _ _ _ hy (.cons _ _ _ _ _ (.bool _ _) (.nil _)))⟩
              cases d1 <;> first | exact absurd rfl (hni _) | simp [execOp, Instr.typeAssert, run_underlying hu, hv']
            · rename_i hut
              simp only [Option.some.injEq] at hev; subst hev
              refine ⟨.tuple #[zu, .bool false], ?_, .tup _ _ _ (.cons _ _ _ _ _ hzr (.cons _ _ _ _ _ (.bool _ _) (.nil _)))⟩
              cases d1 <;> first | exact absurd rfl (hni _) | simp [execOp, Instr.typeAssert, run_underlying hu, hv', hut, run_zeroT hzu]
        · rename_i h
          simp only [Option.some.injEq] at hev; subst hev
          rw [h] at hv
          generalize hv' : a.eval x = xv at hv
          cases hv
          refine ⟨.tuple #[zu, .bool false], ?_, .tup _ _ _ (.cons _ _ _ _ _ hzr (.cons _ _ _ _ _ (.bool _ _) (.nil _)))⟩
          cases d1 <;> first | exact absurd rfl (hni _) | simp [execOp, Instr.typeAssert, run_underlying hu, hv', run_zeroT hzu]
        · simp at hev
    · simp at hc
  | call c =>
    obtain ⟨callee, args, ts⟩ := c
    cases callee with
    | builtin b => exact dry_builtin hgl htm hc hev
    | value f =>
      simp only [ofOp, ofCallee] at hc
      split at hc <;> simp at hc
    | invoke r m => simp [ofOp] at hc
  | _ => exfalso; simp only [ofOp] at hc <;> (repeat' (split at hc)) <;> first | (simp at hc; done) | contradiction | (simp_all; done)
end
end Go.Ev
