/- One operation of a region whose order is open: it looks at few places. -/
import Derived.Test.YtkakihmhmobgoaaGreatDoorXevW
namespace Go.Ev

section congr
variable {gl : Nat → AV} {tm tm' : Tr AV}
theorem ev_congr {x : Eo} (h : ∀ t ∈ x.tmps, (tm.get t).getD undefA = (tm'.get t).getD undefA) : x.ev gl tm = x.ev gl tm' := by
  cases x with
  | t i => exact h i (by simp [Eo.tmps])
  | k v => rfl
  | g n => rfl
theorem evs_congr {xs : List Eo} (h : ∀ t ∈ xs.flatMap Eo.tmps, (tm.get t).getD undefA = (tm'.get t).getD undefA) : evs gl tm xs = evs gl tm' xs := by
  unfold evs
  exact List.map_congr_left fun x hx => ev_congr fun t ht => h t (List.mem_flatMap.2 ⟨x, hx, ht⟩)
theorem evo_congr {x : Option Eo} {n : Nat} (h : ∀ t ∈ optTmps x, (tm.get t).getD undefA = (tm'.get t).getD undefA) : evo gl tm x n = evo gl tm' x n := by
  cases x with
  | none => rfl
  | some x => simp only [evo]; rw [ev_congr h]
theorem evDry_congr {d : Dry} (h : ∀ t ∈ d.tmps, (tm.get t).getD undefA = (tm'.get t).getD undefA) : evDry gl tm d = evDry gl tm' d := by
  cases d with
  | build zero ps =>
    have : (ps.map fun p => (p.1, p.2.1, p.2.2.ev gl tm)) = ps.map fun p => (p.1, p.2.1, p.2.2.ev gl tm') :=
      List.map_congr_left fun p hp => by rw [ev_congr (x := p.2.2) fun t ht => h t (List.mem_flatMap.2 ⟨p, hp, ht⟩)]
    simp only [evDry, this]
  | pick c a b =>
    simp only [Dry.tmps, List.mem_append] at h
    simp only [evDry, ev_congr (x := c) fun t ht => h t (.inl (.inl ht)), ev_congr (x := a) fun t ht => h t (.inl (.inr ht)), ev_congr (x := b) fun t ht => h t (.inr ht)]
  | bin op x y | eq _ _ x y | iaddr _ x y | aaddr _ _ _ x y | aidx _ _ _ x y | sidx x y =>
    simp only [Dry.tmps, List.mem_append] at h
    simp only [evDry, ev_congr (x := x) fun t ht => h t (.inl ht), ev_congr (x := y) fun t ht => h t (.inr ht)]
  | mkfn f a b =>
    simp only [Dry.tmps, List.mem_append] at h
    simp only [evDry, evs_congr (xs := a) fun t ht => h t (.inl ht), evs_congr (xs := b) fun t ht => h t (.inr ht)]
  | strsl x lo hi =>
    simp only [Dry.tmps, List.mem_append] at h
    simp only [evDry, ev_congr (x := x) fun t ht => h t (.inl (.inl ht)), evo_congr (x := lo) fun t ht => h t (.inl (.inr ht)), evo_congr (x := hi) fun t ht => h t (.inr ht)]
  | mm mx xs => simp only [evDry, evs_congr (xs := xs) h]
  | mov x | nilchk x | not x | neg x | xor x | conv _ x | mkifc _ x | faddr _ _ _ x | fld _ _ _ x | extract x _ | len x | slen x | assert _ x | assertok _ _ x =>
    simp only [evDry, ev_congr (x := x) h]
theorem evWet_congr {lo : Nat} {s : St} {d : Wet} (h : ∀ t ∈ d.tmps, (tm.get t).getD undefA = (tm'.get t).getD undefA) : evWet gl tm lo s d = evWet gl tm' lo s d := by
  cases d with
  | bsl sz len zero ps =>
    have : (ps.map fun p => (p.1, sz, p.2.ev gl tm)) = ps.map fun p => (p.1, sz, p.2.ev gl tm') :=
      List.map_congr_left fun p hp => by rw [ev_congr (x := p.2) fun t ht => h t (List.mem_flatMap.2 ⟨p, hp, ht⟩)]
    simp only [evWet, this]
  | alloc _ _ _ | mkmap => rfl
  | store _ x y | mksl _ _ _ x y | lookup _ _ _ x y | append _ _ _ x y | appz _ _ _ x y | copy _ x y =>
    simp only [Wet.tmps, List.mem_append] at h
    simp only [evWet, ev_congr (x := x) fun t ht => h t (.inl ht), ev_congr (x := y) fun t ht => h t (.inr ht)]
  | mapset _ x y z =>
    simp only [Wet.tmps, List.mem_append] at h
    simp only [evWet, ev_congr (x := x) fun t ht => h t (.inl (.inl ht)), ev_congr (x := y) fun t ht => h t (.inl (.inr ht)), ev_congr (x := z) fun t ht => h t (.inr ht)]
  | aslice _ _ x lo hi | slice _ x lo hi =>
    simp only [Wet.tmps, List.mem_append] at h
    simp only [evWet, ev_congr (x := x) fun t ht => h t (.inl (.inl ht)), evo_congr (x := lo) fun t ht => h t (.inl (.inr ht)), evo_congr (x := hi) fun t ht => h t (.inr ht)]
  | box _ x | load _ _ x | mlen x | b2s x | clr _ _ x => simp only [evWet, ev_congr (x := x) h]
theorem footOf_congr {d : Wet} (h : ∀ t ∈ d.tmps, (tm.get t).getD undefA = (tm'.get t).getD undefA) : footOf gl tm d = footOf gl tm' d := by
  cases d with
  | store _ x y =>
    simp only [Wet.tmps, List.mem_append] at h
    simp only [footOf, ev_congr (x := x) fun t ht => h t (.inl ht)]
  | slice _ x lo hi =>
    simp only [Wet.tmps, List.mem_append] at h
    simp only [footOf, ev_congr (x := x) fun t ht => h t (.inl (.inl ht))]
  | load _ _ x => simp only [footOf, ev_congr (x := x) h]
  | _ => rfl
end congr

/-! ### Few places -/
def trOn (tm : Tr AV) : List Nat → Tr AV
  | [] => .lf
  | t :: r => (trOn tm r).put t (tm.get t)
theorem trOn_get (tm : Tr AV) : ∀ (U : List Nat) (t : Nat), (trOn tm U).get t = if t ∈ U then tm.get t else none
  | [], t => by simp [trOn]
  | u :: r, t => by
    simp only [trOn, Tr.get_put, trOn_get tm r t, List.mem_cons]
    by_cases h : t = u
    · simp [h]
    · simp [h]
def Act.on (a : Act) (U : List Nat) : Act := { a with tmps := a.tmps.mapIdx fun i v => if i ∈ U then v else undef }
theorem Act.on_get (a : Act) (U : List Nat) (t : Nat) : (Act.on a U).tmps.getD t undef = if t ∈ U then a.tmps.getD t undef else undef := by
  simp only [Act.on, Array.getD_eq_getD_getElem?, Array.getElem?_mapIdx]
  cases a.tmps[t]? <;> simp

section
variable {P : Program} {E : Env} {ι : Emb} {w : World} {Z : Nat → Prop} {lo nx : Nat} {s s' : St} {tm : Tr AV} {a : Act} {ops : Array Oper} {o : Oper} {eo : EOper}

/-- Of a frame's places those of a list are known. -/
def TmU (ι : Emb) (w : World) (Z : Nat → Prop) (nx : Nat) (tm : Tr AV) (U : List Nat) (tmps : Array Value) : Prop := ∀ t ∈ U, VR ι w Z nx ((tm.get t).getD undefA) (tmps.getD t undef)
theorem TmU.on {U : List Nat} (h : TmU ι w Z nx tm U a.tmps) : TmR ι w Z nx (trOn tm U) (Act.on a U).tmps := by
  intro t
  rw [Act.on_get, trOn_get]
  by_cases ht : t ∈ U
  · rw [if_pos ht, if_pos ht]; exact h t ht
  · rw [if_neg ht, if_neg ht]; exact undefR
theorem trOn_same {U : List Nat} {ts : List Nat} (h : ∀ t ∈ ts, t ∈ U) : ∀ t ∈ ts, (tm.get t).getD undefA = ((trOn tm U).get t).getD undefA := fun t ht => by rw [trOn_get, if_pos (h t ht)]

theorem eval_on {x : Operand} (h : ∀ t, x = .tmp t → t ∈ o.looksAt ops) : (Act.on a (o.looksAt ops)).eval x = a.eval x := by
  cases x with
  | tmp t =>
    show (Act.on a (o.looksAt ops)).tmps.getD t undef = a.tmps.getD t undef
    rw [Act.on_get, if_pos (h t rfl)]
  | _ => rfl
theorem execOp_on (hs : ∀ cs b, o.op ≠ .select cs b) : execOp (Act.on a (o.looksAt ops)).eval o = execOp a.eval o :=
  execOp_congr o hs fun x hx => eval_on fun t ht => by
    subst ht
    exact List.mem_append_left _ (List.mem_filterMap.2 ⟨.tmp t, by simpa using hx, rfl⟩)
theorem yielded_on {g : Nat} {want : Bool} (hg : o.guard = some (g, want)) : yielded ops (Act.on a (o.looksAt ops)).tmps g = yielded ops a.tmps g := by
  unfold yielded
  cases ht : (ops[g]?).bind (·.dst) with
  | none => rfl
  | some t =>
    have hm : t ∈ o.looksAt ops := by simp [Oper.looksAt, hg, ht]
    simp only [Option.bind_some, Act.on, Array.getElem?_mapIdx]
    cases a.tmps[t]? <;> simp [hm]
theorem wanted_on : Region.wanted o (yielded ops (Act.on a (o.looksAt ops)).tmps) = Region.wanted o (yielded ops a.tmps) := by
  unfold Region.wanted
  cases hg : o.guard with
  | none => rfl
  | some gw => obtain ⟨g, want⟩ := gw; simp only [yielded_on hg]
theorem wanted_tm {U : List Nat} {g : Option (Nat × Bool)} (h : ∀ t b, g = some (t, b) → t ∈ U) : wanted tm g = wanted (trOn tm U) g := by
  cases g with
  | none => rfl
  | some gw => obtain ⟨t, b⟩ := gw; simp only [wanted]; rw [trOn_get, if_pos (h t b rfl)]
theorem noSel {op : Op} {e : EOp} (h : ofOp P op = some e) : ∀ cs b, op ≠ .select cs b := by
  rintro cs b rfl
  simp [ofOp] at h

/-- The operation, by what it looks at. -/
structure OneOk (P : Program) (ops : Array Oper) (o : Oper) (eo : EOper) : Prop where
  c : ofOper P ops o = some eo
  uses : ∀ t ∈ eo.uses, t ∈ o.looksAt ops

theorem OneOk.guard (h : OneOk P ops o eo) : ∀ t b, eo.guard = some (t, b) → t ∈ o.looksAt ops := fun t b hg => h.uses t (by simp [EOper.uses, hg])
theorem OneOk.tmps (h : OneOk P ops o eo) : ∀ t ∈ eo.op.tmps, t ∈ o.looksAt ops := fun t ht => h.uses t (by simp [EOper.uses, ht])
theorem OneOk.wanted {b : Bool} (h : OneOk P ops o eo) (ht : TmU ι w Z nx tm (o.looksAt ops) a.tmps) (hw : wanted tm eo.guard = some b) : Region.wanted o (yielded ops a.tmps) = b := by
  rw [← wanted_on]
  exact wanted_sound ht.on h.c (by rw [← wanted_tm h.guard]; exact hw)
theorem OneOk.dry {d : Dry} {v : AV} (h : OneOk P ops o eo) (ht : TmU ι w Z nx tm (o.looksAt ops) a.tmps) (hgl : GlR ι w Z E.gl) (hd : eo.op = .dry d) (hev : evDry E.gl tm d = some v) :
    ∃ u, (execOp a.eval o).run P w = .ok (.value u) w ∧ VR ι w Z nx v u := by
  have hop := ofOper_op h.c hd (by simp)
  have hu := h.tmps
  rw [hd] at hu
  obtain ⟨u, hr, hv⟩ := dry_sound hgl ht.on hop (by rw [← evDry_congr (trOn_same hu)]; exact hev)
  rw [execOp_on (noSel hop)] at hr
  exact ⟨u, hr, hv⟩
theorem OneOk.wet {d : Wet} {v : AV} (h : OneOk P ops o eo) (r : Rel ι w Z s.nx s.H.get) (ht : TmU ι w Z s.nx tm (o.looksAt ops) a.tmps) (hgl : GlR ι w Z E.gl) (hd : eo.op = .wet d) (hev : evWet E.gl tm lo s d = some (v, s')) :
    WOut ι w Z lo s ((execOp a.eval o).run P w) v s' := by
  have hop := ofOper_op h.c hd (by simp)
  have hu := h.tmps
  rw [hd] at hu
  have := wet_sound r hgl ht.on hop (by rw [← evWet_congr (trOn_same hu)]; exact hev)
  rw [execOp_on (noSel hop)] at this
  exact this
theorem OneOk.call {f : Eo} {args : List Eo} {g : FuncId} {xs ys : List AV} (he : EnvOk P E) (h : OneOk P ops o eo) (r : Rel ι w Z s.nx s.H.get) (ht : TmU ι w Z s.nx tm (o.looksAt ops) a.tmps) (hgl : GlR ι w Z E.gl) (hF : ∃ F, E.fns g = some F)
    (hd : eo.op = .call f args) (hf : f.ev E.gl tm = .fn g xs ys) :
    ∃ us : List Value, (execOp a.eval o).run P w = .ok (.enter g us.toArray) w ∧ VRs ι w Z s.nx (xs ++ evs E.gl tm args ++ ys) us := by
  have hop := ofOper_op h.c hd (by simp)
  have hu := h.tmps
  rw [hd] at hu
  simp only [EOp.tmps, List.mem_append] at hu
  have hsr : SR E.gl 0 ι w Z s ⟨trOn tm (o.looksAt ops), []⟩ { Act.on a (o.looksAt ops) with defers := [] } := ⟨r, hgl, ht.on, .nil, Nat.zero_le _⟩
  obtain ⟨us, hr, hv⟩ := run_call he hF hsr rfl hop (by rw [← ev_congr (trOn_same fun t ht => hu t (.inl ht))]; exact hf)
  have e1 : ({ Act.on a (o.looksAt ops) with defers := [] } : Act).eval = (Act.on a (o.looksAt ops)).eval := by funext x; cases x <;> rfl
  rw [e1, execOp_on (noSel hop)] at hr
  refine ⟨us, hr, ?_⟩
  rw [evs_congr (trOn_same fun t ht => hu t (.inr ht))]
  exact hv
end
end Go.Ev
