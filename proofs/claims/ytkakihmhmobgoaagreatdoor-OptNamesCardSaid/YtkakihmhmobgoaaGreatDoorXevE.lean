/- Each instruction that only looks at its operands does in the model what the evaluator says. -/
import Derived.Test.YtkakihmhmobgoaaGreatDoorXevD
import Derived.Calls
import Derived.Laws.Entries
namespace Go.Ev

def GlR (ι : Emb) (w : World) (Z : Nat → Prop) (gl : Nat → AV) : Prop := ∀ g, VR ι w Z 0 (gl g) (.pointer (some ⟨g, 0, none⟩))
def TmR (ι : Emb) (w : World) (Z : Nat → Prop) (nx : Nat) (tm : Tr AV) (tmps : Array Value) : Prop := ∀ t, VR ι w Z nx ((tm.get t).getD undefA) (tmps.getD t undef)

section sems
variable {P : Program} {w : World} {t : TypeId}
theorem run_typeInfo' {i : TypeInfo} (h : P.info? t = some i) : (typeInfo t).run P w = .ok i w := by
  simp [typeInfo, program, Sem.run, h]
theorem run_sizeT {n : Nat} (h : sizeT P t = some n) : (sizeOf t).run P w = .ok n w := by
  unfold sizeT at h
  cases hi : P.info? t with
  | none => simp [hi] at h
  | some i =>
    simp [hi] at h
    simp [sizeOf, run_typeInfo' hi, h]
theorem run_underlying' {d : TypeDesc} (h : P.underlying t = some d) : (underlying t).run P w = .ok d w := by
  simp [underlying, program, Sem.run, h]
theorem run_aggT {b : Bool} (h : aggT P t = some b) : (isAgg t).run P w = .ok b w := by
  unfold aggT at h
  cases hu : P.underlying t with
  | none => simp [hu] at h
  | some d =>
    rw [hu] at h
    simp only [Option.map_some, Option.some.injEq] at h
    subst h
    simp only [isAgg, Sem.run_bind, run_underlying' hu, Result.andThen_ok]
    cases d <;> rfl
theorem run_zeroT {z : Value} (h : (P.info? t).bind (·.zero) = some z) : (zeroValue t).run P w = .ok z w := by
  cases hi : P.info? t with
  | none => simp [hi] at h
  | some i =>
    simp [hi] at h
    simp [zeroValue, run_typeInfo' hi, h]
end sems

section
variable {ι : Emb} {w : World} {Z : Nat → Prop} {nx : Nat} {gl : Nat → AV} {tm : Tr AV} {P : Program} {a : Act}

theorem eo_sound (hgl : GlR ι w Z gl) (htm : TmR ι w Z nx tm a.tmps) {x : Operand} {e : Eo} (h : ofOperand x = some e) : VR ι w Z nx (e.ev gl tm) (a.eval x) := by
  cases x with
  | tmp t => simp [ofOperand] at h; subst h; exact htm t
  | const v =>
    simp only [ofOperand, Option.map_eq_some_iff] at h
    obtain ⟨y, hy, rfl⟩ := h
    exact ofValue_sound v y hy
  | global g =>
    simp [ofOperand] at h; subst h
    exact (hgl g).mono (fun i hi => absurd hi (Nat.not_lt_zero i)) (fun b hb => ⟨hb, rfl⟩) (Nat.zero_le _)
  | func f => simp [ofOperand] at h; subst h; exact .fn _ _ _ _ _ _ (.nil _) (.nil _)
theorem eos_sound (hgl : GlR ι w Z gl) (htm : TmR ι w Z nx tm a.tmps) : ∀ {xs : List Operand} {es : List Eo}, ofOperands xs = some es → VRs ι w Z nx (evs gl tm es) (xs.map a.eval)
  | [], es, h => by simp [ofOperands] at h; subst h; exact .nil _
  | x :: r, es, h => by
    simp only [ofOperands] at h
    cases h1 : ofOperand x with
    | none => simp [h1] at h
    | some e =>
      cases h2 : ofOperands r with
      | none => simp [h1, h2] at h
      | some es' =>
        simp [h1, h2] at h
        subst h
        exact .cons _ _ _ _ _ (eo_sound hgl htm h1) (eos_sound hgl htm h2)

theorem natOf_sound {v : AV} {u : Value} {n : Nat} (h : natOf v = some n) (hv : VR ι w Z nx v u) : ∃ k, u = .int k n := by
  cases v with
  | int k m =>
    cases m with
    | ofNat m => simp [natOf] at h; subst h; cases hv; exact ⟨k, rfl⟩
    | negSucc m => simp [natOf] at h
  | _ => simp [natOf] at h

/-- A part of a struct or an array. -/
theorem cut_some {cs c : List AV} {off n : Nat} (h : cut cs off n = some c) : c = (cs.drop off).take n ∧ c.length = n := by
  unfold cut at h
  simp only at h
  cases hb : Nat.beq ((cs.drop off).take n).length n with
  | true => rw [hb] at h; simp at h; subst h; exact ⟨rfl, Nat.eq_of_beq_eq_true hb⟩
  | false => rw [hb] at h; simp at h
theorem cut_le {cs c : List AV} {off n : Nat} (h : cut cs off n = some c) : n = 0 ∨ off + n ≤ cs.length := by
  obtain ⟨rfl, hl⟩ := cut_some h
  simp at hl
  omega
theorem flat_unflat {g : Bool} {c : List AV} {v : AV} (h : unflat g c = some v) : flat v = c := by
  unfold unflat at h
  split at h
  · simp at h; subst h; rfl
  · simp at h
  · simp at h; subst h
    rename_i c hn
    unfold flat
    split
    · rename_i cs; exact absurd rfl (hn cs)
    · rfl
  · simp at h
theorem unflat_sound {g : Bool} {c : List AV} {v : AV} {vs : List Value} (h : unflat g c = some v) (hv : VRs ι w Z nx c vs) :
    (g = true ∧ VR ι w Z nx v (.agg vs.toArray)) ∨ (g = false ∧ ∃ u, vs = [u] ∧ c = [v] ∧ VR ι w Z nx v u) := by
  unfold unflat at h
  split at h
  · simp at h; subst h; exact .inl ⟨rfl, .agg _ _ _ (by simpa using hv)⟩
  · simp at h
  · simp at h; subst h
    cases hv with
    | cons _ _ u _ us h t => cases t; exact .inr ⟨rfl, u, rfl, rfl, h⟩
  · simp at h
theorem run_part {t : TypeId} {g : Bool} {n off : Nat} {cs : Array Value} {xs c : List AV} {v : AV} (hs : sizeT P t = some n) (ha : aggT P t = some g) (hv : VRs ι w Z nx xs cs.toList)
    (hc : cut xs off n = some c) (hu : unflat g c = some v) : ∃ u, (part t cs off).run P w = .ok u w ∧ VR ι w Z nx v u := by
  obtain ⟨rfl, hl⟩ := cut_some hc
  have hv' := (hv.drop off).take n
  rcases unflat_sound hu hv' with ⟨rfl, h⟩ | ⟨rfl, u, he, hce, h⟩
  · refine ⟨_, ?_, h⟩
    simp only [part, Sem.run_bind, run_aggT ha, Result.andThen_ok, if_true, run_sizeT hs]
    simp only [Sem.run_pure]
    congr 2
    apply Array.ext'
    simp
  · refine ⟨u, ?_, h⟩
    have hn : n = 1 := by rw [hce] at hl; simpa using hl.symm
    subst hn
    have hg : cs[off]? = some u := by
      have h1 : (cs.toList.drop off)[0]? = some u := by
        have := congrArg (fun l => l[0]?) he
        simpa using this
      simpa using h1
    simp only [part, Sem.run_bind, run_aggT ha, Result.andThen_ok, Bool.false_eq_true, if_false, hg]
    rfl

theorem fills_sound {place : Nat → Option (Nat × Nat)} (hgl : GlR ι w Z gl) (htm : TmR ι w Z nx tm a.tmps) : ∀ {ps : List (Nat × Operand)} {qs : List (Nat × Nat × Eo)} {cs ds : List AV} {vs : Array Value},
    ofParts place ps = some qs → fills cs (qs.map fun p => (p.1, p.2.1, p.2.2.ev gl tm)) = some ds → VRs ι w Z nx cs vs.toList →
    ∃ us, Instr.fill place vs (ps.map fun p => (p.1, a.eval p.2)) = some us ∧ VRs ι w Z nx ds us.toList := by
  intro ps
  induction ps with
  | nil => intro qs cs ds vs h hf hv; simp [ofParts] at h; subst h; simp [fills] at hf; subst hf; exact ⟨vs, rfl, hv⟩
  | cons p r ih =>
    obtain ⟨i, x⟩ := p
    intro qs cs ds vs h hf hv
    simp only [ofParts] at h
    cases h1 : place i with
    | none => simp [h1] at h
    | some on =>
      obtain ⟨off, n⟩ := on
      cases h2 : ofOperand x with
      | none => simp [h1, h2] at h
      | some e =>
        cases h3 : ofParts place r with
        | none => simp [h1, h2, h3] at h
        | some qs' =>
          simp [h1, h2, h3] at h
          subst h
          have hx := eo_sound (a := a) hgl htm h2
          have hfl := hx.flat
          have hlen := hfl.length
          simp only [List.map_cons, fills] at hf
          cases hb1 : Nat.beq (flat (e.ev gl tm)).length n with
          | false => rw [hb1] at hf; simp at hf
          | true =>
            rw [hb1] at hf
            have hn := Nat.eq_of_beq_eq_true hb1
            cases ho : over cs off (flat (e.ev gl tm)) with
            | none => rw [ho] at hf; simp at hf
            | some cs' =>
              rw [ho] at hf
              simp only at hf
              unfold over at ho
              cases hle : Nat.ble (off + (flat (e.ev gl tm)).length) cs.length with
              | false => rw [hle] at ho; simp at ho
              | true =>
                rw [hle] at ho
                simp at ho
                have hle' := Nat.le_of_ble_eq_true hle
                have hcl := hv.length
                let u := a.eval x
                let us : Array Value := ((vs.toList.take off) ++ u.cells.toList ++ vs.toList.drop (off + u.cells.size)).toArray
                have hus : VRs ι w Z nx cs' us.toList := by
                  subst ho
                  have hsz : u.cells.size = (flat (e.ev gl tm)).length := by simpa [u] using hlen.symm
                  simp only [us, hsz]
                  rw [← List.append_assoc]
                  exact ((hv.take off).append hfl).append (hv.drop _)
                obtain ⟨us', hfu, hvu⟩ := ih h3 hf hus
                refine ⟨us', ?_, hvu⟩
                simp only [List.map_cons, Instr.fill, h1]
                have hsz : u.cells.size = n := by rw [← hn]; simpa [u] using hlen.symm
                have hcl' : vs.size = cs.length := by simpa using hcl.symm
                have hsz' : (a.eval x).cells.size = n := hsz
                rw [if_neg (by
                  intro hh
                  rcases (Bool.or_eq_true _ _).mp hh with h | h
                  · exact of_decide_eq_true h hsz'
                  · have := of_decide_eq_true h
                    omega)]
                rw [← hfu]
                congr 1
                apply Array.ext_getElem?
                intro j
                have key : ∀ (l : List Value) (k : Nat) (b : Array Value), (l.zipIdx k).foldl (fun cs (c, j) => cs.setIfInBounds (off + j) c) b =
                    b.mapIdx fun m v => if off + k ≤ m ∧ m < off + k + l.length then l.getD (m - off - k) undef else v := by
                  intro l
                  induction l with
                  | nil =>
                    intro k b
                    apply Array.ext_getElem?
                    intro m
                    simp only [List.zipIdx_nil, List.foldl_nil, Array.getElem?_mapIdx, List.length_nil]
                    cases b[m]? with
                    | none => rfl
                    | some v => simp only [Option.map_some]; rw [if_neg (by omega)]
                  | cons c l ihl =>
                    intro k b
                    simp only [List.zipIdx_cons, List.foldl_cons]
                    rw [ihl]
                    apply Array.ext_getElem?
                    intro m
                    simp only [Array.getElem?_mapIdx, Array.getElem?_setIfInBounds, Array.size_setIfInBounds]
                    by_cases hm : off + k = m
                    · subst hm
                      by_cases hsz2 : off + k < b.size
                      · simp [hsz2]
                        omega
                      · simp [hsz2, Array.getElem?_eq_none (Nat.le_of_not_lt hsz2)]
                    · simp only [hm, if_false]
                      cases b[m]? with
                      | none => rfl
                      | some v =>
                        simp only [Option.map_some, List.length_cons]
                        congr 1
                        by_cases h1 : off + (k + 1) ≤ m ∧ m < off + (k + 1) + l.length
                        · rw [if_pos h1, if_pos (by omega)]
                          have : m - off - k = (m - off - (k + 1)) + 1 := by omega
                          rw [this]; simp
                        · rw [if_neg h1, if_neg (by omega)]
                have h0 := key u.cells.toList 0 vs
                have harr : (u.cells.zipIdx.foldl (fun cs (c, j) => cs.setIfInBounds (off + j) c) vs) = (u.cells.toList.zipIdx 0).foldl (fun cs (c, j) => cs.setIfInBounds (off + j) c) vs := by
                  rw [← Array.foldl_toList]; simp
                show ((a.eval x).cells.zipIdx.foldl (fun cs (c, j) => cs.setIfInBounds (off + j) c) vs)[j]? = us[j]?
                rw [show (a.eval x) = u from rfl, harr, h0]
                simp only [Array.getElem?_mapIdx, Nat.add_zero, us, List.getElem?_toArray]
                have hu2 : u.cells.toList.length = n := by simpa using hsz
                by_cases hj1 : j < off
                · rw [List.append_assoc, List.getElem?_append_left (by simp; omega)]
                  simp [hj1, Nat.not_le.2 hj1]
                · by_cases hj2 : j < off + n
                  · rw [List.append_assoc, List.getElem?_append_right (by simp; omega), List.getElem?_append_left (by simp; omega)]
                    simp only [List.length_take, Array.length_toList]
                    have hjv : j < vs.size := by omega
                    have e1 : j - min off vs.size = j - off := by omega
                    rw [e1]
                    simp only [Array.getElem?_eq_getElem hjv, Option.map_some, hu2]
                    rw [if_pos (by omega)]
                    have : j - off < u.cells.toList.length := by omega
                    simp [List.getD, List.getElem?_eq_getElem this]
                  · rw [List.append_assoc, List.getElem?_append_right (by simp; omega), List.getElem?_append_right (by simp; omega)]
                    simp only [List.length_take, Array.length_toList, List.getElem?_drop, hsz, Nat.sub_zero]
                    have e1 : off + n + (j - min off vs.size - n) = j := by omega
                    rw [e1]
                    have e2 : vs.toList[j]? = vs[j]? := by simp
                    rw [e2]
                    cases hvj : vs[j]? with
                    | none => rfl
                    | some v =>
                      simp only [Option.map_some]
                      rw [if_neg (by omega)]
end
end Go.Ev
