/- Each instruction that looks at memory, or makes some, does in the model what the evaluator says: copies, new rows by number, maps. -/
import Derived.Test.YtkakihmhmobgoaaGreatDoorXevO
import Derived.Laws.BytesArg
namespace Go.Ev

section
variable {ι : Emb} {w : World} {Z : Nat → Prop} {lo : Nat} {gl : Nat → AV} {tm : Tr AV} {P : Program} {a : Act} {s s' : St}

theorem rel_same {nx : Nat} {G G' : Nat → Option ABlk} (r : Rel ι w Z nx G) (h : ∀ i, G' i = G i) : Rel ι w Z nx G' ∧ Ext ι w Z nx lo G ι w Z nx G' := by
  have : G' = G := funext h
  subst this
  exact ⟨r, .refl⟩

theorem wet_copy {args : Array Operand} {ts : Array TypeId} {d : Wet} {v : AV} {dst ty pos after guard} (r : Rel ι w Z s.nx s.H.get) (hgl : GlR ι w Z gl) (htm : TmR ι w Z s.nx tm a.tmps)
    (hc : ofOp P (.call ⟨.builtin .copy, args, ts⟩) = some (.wet d)) (hev : evWet gl tm lo s d = some (v, s')) : WOut ι w Z lo s ((execOp a.eval ⟨dst, .call ⟨.builtin .copy, args, ts⟩, ty, pos, after, guard⟩).run P w) v s' := by
  simp only [ofOp] at hc
  unfold ofBuiltin at hc
  split at hc <;> (try contradiction)
  rename_i t t2 x y _ hts has
  have hts' : ts = #[t, t2] := Array.ext' hts
  have has' : args = #[x, y] := Array.ext' has
  subst hts' has'
  split at hc
  · rename_i el ex ey hut hx hy
    split at hc
    · rename_i sz hs
      simp only [Option.some.injEq, EOp.wet.injEq] at hc; subst hc
      simp only [evWet] at hev
      have hvx := eo_sound (a := a) hgl htm hx
      have hvy := eo_sound (a := a) hgl htm hy
      split at hev
      · rename_i id off len n ys hxe hn hcs
        rw [hxe] at hvx
        obtain ⟨vs, hvs, hvl, hcells, hlens, hpre⟩ := cellsOf_sound (P := P) r hn hcs hvy
        split at hev
        · rename_i hcond
          split at hev
          · rename_i cs z exa hrow
            split at hev
            · rename_i cs' hz hall hov
              simp only [Option.some.injEq, Prod.mk.injEq] at hev
              obtain ⟨rfl, rfl⟩ := hev
              have hzz : z = sz := Nat.eq_of_beq_eq_true hz
              subst hzz
              have hmn : min n len ≤ n := Nat.min_le_left _ _
              have hpre' := hpre hcond.2 (min n len) hmn
              have hsub := hvs.take (min n len * z)
              have hrun : ∀ {A : Option Addr} {cap : Nat} {w' : World}, a.eval x = .slice A len cap → (match A with | some b => (storeCells b (vs.take (min n len * z))).run P w | none => .ok () w) = .ok () w' →
                  (execOp a.eval ⟨dst, .call ⟨.builtin .copy, #[x, y], #[t, t2]⟩, ty, pos, after, guard⟩).run P w = .ok (.value (goInt ((min n len : Nat) : Int))) w' := by
                intro A cap w' hA hst
                cases A with
                | none =>
                  simp only [Result.ok.injEq, true_and] at hst; subst hst
                  have hp2 : (Builtin.firstCells z (Nat.min n len) (a.eval y)).run P w = .ok (vs.take (min n len * z)).toArray w := hpre'
                  simp [execOp, resolve, invoke, builtin, Builtin.copy_, run_underlying hut, hA, hlens, run_sizeT hs, hp2]
                | some b =>
                  simp only at hst
                  have hp2 : (Builtin.firstCells z (Nat.min n len) (a.eval y)).run P w = .ok (vs.take (min n len * z)).toArray w := hpre'
                  simp [execOp, resolve, invoke, builtin, Builtin.copy_, run_underlying hut, hA, hlens, run_sizeT hs, hp2, hst]
              generalize hxv : a.eval x = xv at hvx
              cases hvx with
              | sl _ _ _ _ cap hid hlc hcp =>
                obtain ⟨w', hst, h1, h2⟩ := rel_write (P := P) r hrow hcond.1 hov hsub hall
                exact ⟨_, w', ι, Z, hrun hxv hst, .inl ⟨_, rfl, .int _ _ _⟩, h1, h2⟩
              | sl0 _ _ _ A hid =>
                have h0 : min n 0 = 0 := Nat.min_zero _
                rw [h0, Nat.zero_mul, List.take_zero] at hov hall
                obtain ⟨hle, rfl⟩ := over_some hov
                obtain ⟨h1, h2⟩ := rel_same (lo := lo) (G' := (s.H.set id (.cells (List.take off cs ++ [] ++ List.drop (off + ([] : List AV).length) cs) z exa)).get) r (fun i => by
                  simp only [Tr.set]
                  rw [Tr.get_put]
                  split
                  · rename_i hi; subst hi; rw [row_some hrow]; simp
                  · rfl)
                refine ⟨_, w, ι, Z, hrun hxv ?_, .inl ⟨_, rfl, .int _ _ _⟩, h1, h2⟩
                cases A <;> simp [storeCells]
            · simp at hev
          · simp at hev
        · simp at hev
      · rename_i n ys hxe hn hcs
        rw [hxe] at hvx
        split at hev
        · rename_i hstr
          simp only [Option.some.injEq, Prod.mk.injEq] at hev
          obtain ⟨rfl, rfl⟩ := hev
          obtain ⟨vs, hvs, hvl, hcells, hlens, hpre⟩ := cellsOf_sound (P := P) r hn hcs hvy
          generalize hxv : a.eval x = xv at hvx
          cases hvx
          refine WOut.same (u := goInt 0) r ?_ (.int _ _ _)
          have hp := hpre hstr 0 (Nat.zero_le _)
          simp only [Nat.zero_mul, List.take_zero] at hp
          have hp2 : (Builtin.firstCells sz 0 (a.eval y)).run P w = .ok #[] w := by simpa using hp
          simp [execOp, resolve, invoke, builtin, Builtin.copy_, run_underlying hut, hxv, hlens, run_sizeT hs, hp2]
        · simp at hev
      · simp at hev
    · simp at hc
  · simp at hc

theorem wet_clear {args : Array Operand} {ts : Array TypeId} {d : Wet} {v : AV} {dst ty pos after guard} (r : Rel ι w Z s.nx s.H.get) (hgl : GlR ι w Z gl) (htm : TmR ι w Z s.nx tm a.tmps)
    (hc : ofOp P (.call ⟨.builtin .clear, args, ts⟩) = some (.wet d)) (hev : evWet gl tm lo s d = some (v, s')) : WOut ι w Z lo s ((execOp a.eval ⟨dst, .call ⟨.builtin .clear, args, ts⟩, ty, pos, after, guard⟩).run P w) v s' := by
  simp only [ofOp] at hc
  unfold ofBuiltin at hc
  split at hc <;> (try contradiction)
  rename_i t x _ hts has
  have hts' : ts = #[t] := Array.ext' hts
  have has' : args = #[x] := Array.ext' has
  subst hts' has'
  split at hc
  · rename_i el ex hut hx
    split at hc
    · rename_i sz z hs hz
      split at hc
      · rename_i hzs
        simp only [Option.some.injEq, EOp.wet.injEq] at hc; subst hc
        simp only [evWet] at hev
        have hvx := eo_sound (a := a) hgl htm hx
        obtain ⟨zu, hzu, hoz⟩ := zeroT_some hz
        have hzr := (ofValue_sound (ι := ι) (w := w) (Z := Z) (nx := s.nx) zu z hoz).flat
        split at hev
        · rename_i hxe
          rw [hxe] at hvx
          simp only [Option.some.injEq, Prod.mk.injEq] at hev
          obtain ⟨rfl, rfl⟩ := hev
          generalize hxv : a.eval x = xv at hvx
          cases hvx
          exact WOut.same (u := .tuple #[]) r (by simp [execOp, resolve, invoke, builtin, Builtin.clear_, run_underlying hut, hxv]) (.tup _ _ _ (.nil _))
        · rename_i id off len hxe
          rw [hxe] at hvx
          split at hev
          · rename_i hlo
            split at hev
            · rename_i cs z' exa hrow
              split at hev
              · rename_i cs' hz' hok hov
                simp only [Option.some.injEq, Prod.mk.injEq] at hev
                obtain ⟨rfl, rfl⟩ := hev
                have hzz : z' = sz := Nat.eq_of_beq_eq_true hz'
                subst hzz
                have hzl : zu.cells.size = z' := by have := hzr.length; simp at this; omega
                obtain ⟨w', hst, h1, h2⟩ := rel_write (P := P) r hrow hlo hov (rep_vrs hzr len) hok
                have hzc : (Builtin.zeroCells zu.cells len).toList = (List.replicate len zu.cells.toList).flatten := by
                  simp only [Builtin.zeroCells]
                  exact rep_range len zu.cells
                generalize hxv : a.eval x = xv at hvx
                cases hvx with
                | sl _ _ _ _ cap hid hlc hcp =>
                  refine ⟨.value (.tuple #[]), w', ι, Z, ?_, .inl ⟨_, rfl, .tup _ _ _ (.nil _)⟩, h1, h2⟩
                  cases len with
                  | zero =>
                    simp only [List.replicate_zero, List.flatten_nil, storeCells, Sem.run_pure, Result.ok.injEq, true_and] at hst
                    subst hst
                    simp [execOp, resolve, invoke, builtin, Builtin.clear_, run_underlying hut, hxv]
                  | succ len => simp [execOp, resolve, invoke, builtin, Builtin.clear_, run_underlying hut, hxv, run_zeroT hzu, hzc, hst]
                | sl0 _ _ _ A hid =>
                  simp only [List.replicate_zero, List.flatten_nil] at hov
                  obtain ⟨hle, rfl⟩ := over_some hov
                  obtain ⟨h1, h2⟩ := rel_same (lo := lo) (G' := (s.H.set id (.cells (List.take off cs ++ [] ++ List.drop (off + ([] : List AV).length) cs) z' exa)).get) r (fun i => by
                    simp only [Tr.set]
                    rw [Tr.get_put]
                    split
                    · rename_i hi; subst hi; rw [row_some hrow]; simp
                    · rfl)
                  refine ⟨.value (.tuple #[]), w, ι, Z, ?_, .inl ⟨_, rfl, .tup _ _ _ (.nil _)⟩, h1, h2⟩
                  cases A <;> simp [execOp, resolve, invoke, builtin, Builtin.clear_, run_underlying hut, hxv]
              · simp at hev
            · simp at hev
          · simp at hev
        · simp at hev
      · simp at hc
    · simp at hc
  · simp at hc

theorem wet_makeSlice {t : TypeId} {l c : Operand} {d : Wet} {v : AV} {dst ty pos after guard} (r : Rel ι w Z s.nx s.H.get) (hgl : GlR ι w Z gl) (htm : TmR ι w Z s.nx tm a.tmps)
    (hc : ofOp P (.makeSlice t l c) = some (.wet d)) (hev : evWet gl tm lo s d = some (v, s')) : WOut ι w Z lo s ((execOp a.eval ⟨dst, .makeSlice t l c, ty, pos, after, guard⟩).run P w) v s' := by
  simp only [ofOp] at hc
  split at hc
  · rename_i el ex ey hu hx hy
    split at hc
    · rename_i sz by_ z hs hb hz
      split at hc
      · rename_i hzs
        simp only [Option.some.injEq, EOp.wet.injEq] at hc; subst hc
        simp only [evWet] at hev
        have hvx := eo_sound (a := a) hgl htm hx
        have hvy := eo_sound (a := a) hgl htm hy
        split at hev
        · rename_i n m hn hm
          split at hev
          · rename_i hro
            simp only [Option.some.injEq, Prod.mk.injEq] at hev
            obtain ⟨rfl, rfl⟩ := hev
            obtain ⟨k1, hki⟩ := natOf_sound hn hvx
            obtain ⟨k2, hkj⟩ := natOf_sound hm hvy
            obtain ⟨zu, hzu, hoz⟩ := zeroT_some hz
            have hzr := (ofValue_sound (ι := ι) (w := w) (Z := Z) (nx := s.nx) zu z hoz).flat
            have hzl : zu.cells.size = sz := by have := hzr.length; simp at this; omega
            cases hi : P.info? el with
            | none => rw [hi] at hzu; simp at hzu
            | some info =>
              have hs' : info.size = sz := by simpa [sizeT, hi] using hs
              have hb' : info.bytes = by_ := by simpa [bytesT, hi] using hb
              have hz' : info.zero = some zu := by simpa [hi] using hzu
              have hro' := roomy_le hro.2
              have hm63 : m ≤ 68719476736 := by have : m ≤ m * (by_ + 1) := Nat.le_mul_of_pos_right _ (by omega); omega
              have hwm : IntKind.i64.wrap (m : Int) = m := by rw [IntKind.wrap_i64]; omega
              have hwn : IntKind.i64.wrap (n : Int) = n := by rw [IntKind.wrap_i64]; omega
              have hmb : m * by_ ≤ 68719476736 := Nat.le_trans (Nat.mul_le_mul_left _ (Nat.le_succ _)) hro'
              have hnm := hro.1
              have h48 : ¬ (281474976710656 < (by_ : Int) * (m : Int)) := by rw [← Int.natCast_mul, Nat.mul_comm]; omega
              let zero : Array Value := if m * sz = 0 then #[] else zu.cells
              have hzero : ((Array.range (m * sz)).map fun i => zero[i % zero.size]!).toList = (List.replicate m zu.cells.toList).flatten := by
                by_cases h0 : m * sz = 0
                · rw [h0]
                  have e0 : (Array.range 0) = #[] := rfl
                  rw [e0]
                  simp only [Array.map_empty]
                  rcases Nat.mul_eq_zero.1 h0 with h | h
                  · simp [h]
                  · have : zu.cells.toList = [] := by
                      apply List.eq_nil_of_length_eq_zero
                      rw [Array.length_toList]; omega
                    rw [this]; simp
                · have : zero = zu.cells := by simp [zero, h0]
                  rw [this, ← hzl]
                  exact rep_range m zu.cells
              let us : Array Value := (Array.range (m * sz)).map fun i => zero[i % zero.size]!
              have hv : VRs ι w Z s.nx (List.replicate m (flat z)).flatten us.toList := by
                simp only [us]; rw [hzero]; exact rep_vrs hzr m
              have hrun : (execOp a.eval ⟨dst, .makeSlice t l c, ty, pos, after, guard⟩).run P w = .ok (.value (.slice (some ⟨w.heap.size, 0, none⟩) n m)) (w.alloc (.cells us el (0, 0))) := by
                have hroom : ∀ W : World, (askRoom (m * by_)).run P W = .ok () W := by
                  intro W
                  unfold askRoom
                  rw [if_neg (by unfold roomBytes; omega)]
                  rfl
                by_cases h0 : m * sz = 0
                · have hz0 : us = #[] := by simp only [us]; rw [h0]; simp [show Array.range 0 = #[] from rfl]
                  rw [hz0]
                  simp [execOp, Instr.makeSlice, run_underlying hu, asInt, asIntOf, hki, hkj, typeInfo, hi, hb', hwm, hwn, h48, hnm, hroom, run_sizeT hs, h0, run_newRow, sizeOf, hs']
                  rw [if_neg (by omega)]
                  simp [show Array.range 0 = #[] from rfl]
                · have hz0 : zero = zu.cells := by simp [zero, h0]
                  simp [execOp, Instr.makeSlice, run_underlying hu, asInt, asIntOf, hki, hkj, typeInfo, hi, hb', hwm, hwn, h48, hnm, hroom, run_sizeT hs, h0, run_newRow, sizeOf, hs', zeroValue, hz', us, hz0]
                  intro h; omega
              have hl := hv.length
              obtain ⟨h1, h2⟩ := rel_new (lo := lo) (w' := w.alloc (.cells us el (0, 0))) (sz := sz) (ex := 1) (el := el) r rfl hv (fun i v hi => by simpa using hi) (by simp at hl ⊢; omega) (fun _ => by simp at hl ⊢; omega) (fun h => by omega) rfl rfl rfl
              refine ⟨_, _, _, _, hrun, .inl ⟨_, rfl, ?_⟩, h1, h2⟩
              have := VR.sl (ι := ι.set s.nx w.heap.size 0 us.size sz) (w := w.alloc (.cells us el (0, 0))) (Z := Z) (s.nx + 1) s.nx 0 n m (Nat.lt_succ_self _) hnm (by simp [Emb.set, us])
              simpa [Emb.set, St.new] using this
          · simp at hev
        · simp at hev
      · simp at hc
    · simp at hc
  · simp at hc

theorem bytesOf_sound : ∀ {cs : List AV} {l : List Nat} {vs : List Value} {nx : Nat}, bytesOf cs = some l → VRs ι w Z nx cs vs → vs = (l.map Int.ofNat).map (Value.int .u8) ∧ (strOfNums (l.map Int.ofNat)).data.toList.map (·.toNat) = l
  | [], l, vs, nx, h, hv => by
    simp only [bytesOf, Option.some.injEq] at h; subst h
    cases hv
    exact ⟨rfl, rfl⟩
  | c :: r, l, vs, nx, h, hv => by
    unfold bytesOf at h
    split at h
    · rename_i heq; simp at heq
    · rename_i n r' heq
      simp only [List.cons.injEq] at heq
      obtain ⟨rfl, rfl⟩ := heq
      split at h
      · rename_i l' hlt hr
        simp only [Option.some.injEq] at h; subst h
        cases hv with
        | cons _ _ u _ us h1 h2 =>
          obtain ⟨e1, e2⟩ := bytesOf_sound hr h2
          cases h1
          subst e1
          refine ⟨rfl, ?_⟩
          have hlt' : n < 256 := Nat.le_of_ble_eq_true hlt
          rw [strOfNums_data] at e2 ⊢
          simp only [List.map_cons]
          rw [e2]
          congr 1
          show (UInt8.ofNat (Int.toNat (Int.ofNat n))).toNat = n
          have e3 : Int.toNat (Int.ofNat n) = n := rfl
          rw [e3]
          exact UInt8.toNat_ofNat_of_lt hlt'
      · simp at h
    · simp at h

theorem wet_b2s {src dst' : TypeId} {x : Operand} {d : Wet} {v : AV} {dst ty pos after guard} (r : Rel ι w Z s.nx s.H.get) (hgl : GlR ι w Z gl) (htm : TmR ι w Z s.nx tm a.tmps)
    (hc : ofOp P (.convert src dst' x) = some (.wet d)) (hev : evWet gl tm lo s d = some (v, s')) : WOut ι w Z lo s ((execOp a.eval ⟨dst, .convert src dst' x, ty, pos, after, guard⟩).run P w) v s' := by
  simp only [ofOp] at hc
  split at hc
  · simp at hc
  · simp at hc
  · rename_i el ex hu hd hx
    split at hc
    · rename_i hel
      simp only [Option.some.injEq, EOp.wet.injEq] at hc; subst hc
      simp only [evWet] at hev
      have hvx := eo_sound (a := a) hgl htm hx
      split at hev
      · rename_i hxe
        rw [hxe] at hvx
        simp only [Option.some.injEq, Prod.mk.injEq] at hev
        obtain ⟨rfl, rfl⟩ := hev
        generalize hxv : a.eval x = xv at hvx
        cases hvx
        refine WOut.same (u := .string .empty) r ?_ ?_
        · have := run_convert_bytes_nil (P := P) w src el hu hel 0 0 dst' hd
          simp [execOp, hxv, this]
        · exact VR.str (ι := ι) (w := w) (Z := Z) s.nx ByteArray.empty
      · rename_i v' hne
        split at hev
        · rename_i cs hns hcs
          split at hev
          · rename_i l hl
            simp only [Option.some.injEq, Prod.mk.injEq] at hev
            obtain ⟨rfl, rfl⟩ := hev
            have hlen : ∃ n, lenOf (ex.ev gl tm) = some n := by
              unfold cellsOf at hcs
              split at hcs
              · exact ⟨_, by rename_i h; rw [h]; rfl⟩
              · exact ⟨_, by rename_i h; rw [h]; rfl⟩
              · exact ⟨_, by rename_i h; rw [h]; rfl⟩
              · rename_i h; rw [h] at hns; simp [isStr] at hns
              · simp at hcs
            obtain ⟨n, hn⟩ := hlen
            obtain ⟨vs, hvs, hvl, hcells, hlens, _⟩ := cellsOf_sound (P := P) r hn hcs hvx
            obtain ⟨hvv, hll⟩ := bytesOf_sound hl hvs
            have hsl : ∃ A cap, a.eval x = .slice A n cap ∧ (A = none → n = 0) := by
              generalize hxv : a.eval x = xv at hvx
              revert hn hne hns hcs
              generalize ex.ev gl tm = y at hvx
              intro hne hns hcs hn
              cases hvx <;> simp only [lenOf, Option.some.injEq, reduceCtorEq] at hn <;> (try (simp [isStr] at hns; done))
              · subst hn; exact ⟨_, _, rfl, fun _ => rfl⟩
              · subst hn; exact ⟨_, _, rfl, fun h => by simp at h⟩
              · subst hn; exact ⟨_, _, rfl, fun _ => rfl⟩
              · subst hn; exact ⟨_, _, rfl, fun _ => rfl⟩
              · subst hn; exact ⟨_, _, rfl, fun h => by simp at h⟩
            obtain ⟨A, cap, hA, hA0⟩ := hsl
            refine WOut.same (u := .string (strOfNums (l.map Int.ofNat))) r ?_ ?_
            · have hfc := hcells w rfl
              rw [hA] at hfc
              cases A with
              | none =>
                have h0 := hA0 rfl
                subst h0
                have hl0 : l = [] := by
                  have : vs.length = 0 := by omega
                  rw [hvv] at this
                  simpa using this
                subst hl0
                have := run_convert_bytes_nil (P := P) w src el hu hel 0 cap dst' hd
                simp [execOp, hA, this]
                rfl
              | some b =>
                have hlc : (loadCells b n).run P w = .ok ((l.map Int.ofNat).map (Value.int .u8)).toArray w := by
                  simp only [Builtin.firstCells, Nat.mul_one] at hfc
                  rw [hfc, hvv]
                have hr := run_convert_bytes_string (P := P) w src dst' el (some b) n cap hu hel hd
                have hb := run_bytesToString (P := P) w b n cap (l.map Int.ofNat) hlc
                have : (convert src dst' (.slice (some b) n cap)).run P w = .ok (.string (strOfNums (l.map Int.ofNat))) w := by
                  rw [hr, hb, foldl_push_bytes]
                  simp [strOfNums, ByteArray.empty, ByteArray.emptyWithCapacity]
                  rfl
                simp [execOp, hA, this]
            · have := VR.str (ι := ι) (w := w) (Z := Z) s.nx (strOfNums (l.map Int.ofNat))
              rw [hll] at this
              exact this
          · simp at hev
        · simp at hev
    · simp at hc
  · simp at hc
end
end Go.Ev
