/- What abstract values and the abstract memory say of a world. -/
import Derived.Test.YtkakihmhmobgoaaGreatDoorXevC
import Derived.Laws.World
import Derived.Laws.Sem
namespace Go.Ev

/-- Where the evaluator's blocks lie: the real block, the cell at which it begins there, the real row's cells, the cells of an element. -/
structure Emb where
  blk : Nat → Nat
  off : Nat → Nat
  size : Nat → Nat
  sz : Nat → Nat

def Emb.agree (a b : Emb) (nx : Nat) : Prop := ∀ i, i < nx → a.blk i = b.blk i ∧ a.off i = b.off i ∧ a.size i = b.size i ∧ a.sz i = b.sz i

def At (w : World) (b o : Nat) (vs : List Value) : Prop := ∀ i v, vs[i]? = some v → w.cell? ⟨b, o + i, none⟩ = some v

/-- A value of one cell. -/
def one : Value → Bool
  | .agg _ | .tuple _ => false
  | _ => true

mutual
/-- An abstract value tells a value; 'Z': the blocks that nothing writes any more; numbers of blocks below nx. -/
inductive VR (ι : Emb) (w : World) (Z : Nat → Prop) : Nat → AV → Value → Prop where
  | bad (nx : Nat) (a : Option Addr) : VR ι w Z nx .bad (.pointer a)
  | bool (nx : Nat) (b : Bool) : VR ι w Z nx (.bool b) (.bool b)
  | int (nx : Nat) (k : IntKind) (n : Int) : VR ι w Z nx (.int k n) (.int k n)
  | str (nx : Nat) (s : ByteArray) : VR ι w Z nx (.str (s.data.toList.map (·.toNat))) (.string s)
  | nilp (nx : Nat) : VR ι w Z nx .nilp (.pointer none)
  | ptr (nx id off : Nat) (h : id < nx) : VR ι w Z nx (.ptr id off) (.pointer (some ⟨ι.blk id, ι.off id + off, none⟩))
  | cptr (nx : Nat) (v : AV) (b o : Nat) (vs : List Value) (hz : Z b) (ha : At w b o vs) (hv : VRs ι w Z 0 (flat v) vs) : VR ι w Z nx (.cptr v) (.pointer (some ⟨b, o, none⟩))
  | nils (nx : Nat) : VR ι w Z nx .nils (.slice none 0 0)
  | sl (nx id off len cap : Nat) (h : id < nx) (hl : len ≤ cap) (hc : ι.off id + off + cap * ι.sz id ≤ ι.size id) :
      VR ι w Z nx (.sl id off len) (.slice (some ⟨ι.blk id, ι.off id + off, none⟩) len cap)
  | sl0 (nx id off : Nat) (a : Option Addr) (h : id < nx) : VR ι w Z nx (.sl id off 0) (.slice a 0 0)
  | lst0 (nx : Nat) (a : Option Addr) (cap : Nat) : VR ι w Z nx (.lst []) (.slice a 0 cap)
  | lst (nx : Nat) (es : List AV) (b o cap sz : Nat) (vs : List Value) (hl : es.length ≤ cap) (hz : Z b) (ha : At w b o vs) (hs : ∀ e ∈ es, (flat e).length = sz)
      (hv : VRs ι w Z 0 (es.flatMap flat) vs) : VR ι w Z nx (.lst es) (.slice (some ⟨b, o, none⟩) es.length cap)
  | nilm (nx : Nat) : VR ι w Z nx .nilm (.map none)
  | mp (nx id : Nat) (h : id < nx) : VR ι w Z nx (.mp id) (.map (some (ι.blk id)))
  | nilf (nx : Nat) : VR ι w Z nx .nilf .nilFunc
  | fn (nx : Nat) (f : FuncId) (xs ys : List AV) (us vs : Array Value) (hx : VRs ι w Z nx xs us.toList) (hy : VRs ι w Z nx ys vs.toList) : VR ι w Z nx (.fn f xs ys) (.func (.func f) us vs)
  | nili (nx : Nat) : VR ι w Z nx .nili .nilIface
  | ifc (nx : Nat) (t : TypeId) (v : AV) (u : Value) (h : VR ι w Z nx v u) : VR ι w Z nx (.ifc t v) (.iface t u)
  | agg (nx : Nat) (cs : List AV) (vs : Array Value) (h : VRs ι w Z nx cs vs.toList) : VR ι w Z nx (.agg cs) (.agg vs)
  | tup (nx : Nat) (cs : List AV) (vs : Array Value) (h : VRs ι w Z nx cs vs.toList) : VR ι w Z nx (.tup cs) (.tuple vs)
  | any (nx : Nat) (u : Value) (h : one u = true) : VR ι w Z nx .any u
  | mint (nx : Nat) (k : IntKind) (b m : Nat) (n : Int) (h : n % (2 ^ b : Nat) = m) : VR ι w Z nx (.mint k b m) (.int k n)
inductive VRs (ι : Emb) (w : World) (Z : Nat → Prop) : Nat → List AV → List Value → Prop where
  | nil (nx : Nat) : VRs ι w Z nx [] []
  | cons (nx : Nat) (v : AV) (u : Value) (vs : List AV) (us : List Value) (h : VR ι w Z nx v u) (t : VRs ι w Z nx vs us) : VRs ι w Z nx (v :: vs) (u :: us)
end

theorem cell_of_heap {w w' : World} {a : Addr} (h : w'.heap[a.block]? = w.heap[a.block]?) : w'.cell? a = w.cell? a := by
  unfold World.cell?; rw [h]
theorem frozen_of_heap {w w' : World} {a : Addr} (h : w'.heap[a.block]? = w.heap[a.block]?) : w'.frozen? a = w.frozen? a := by
  unfold World.frozen?; rw [h]
theorem At.keep {w w' : World} {b o : Nat} {vs : List Value} (h : At w b o vs) (k : w'.heap[b]? = w.heap[b]?) : At w' b o vs :=
  fun i v hi => (cell_of_heap (a := ⟨b, o + i, none⟩) k).trans (h i v hi)

mutual
theorem VR.mono' {ι ι' : Emb} {w w' : World} {Z Z' : Nat → Prop} (hz : ∀ b, Z b → Z' b ∧ w'.heap[b]? = w.heap[b]?) {nx : Nat} {v : AV} {u : Value} (h : VR ι w Z nx v u) :
    ∀ nx', ι'.agree ι nx → nx ≤ nx' → VR ι' w' Z' nx' v u :=
  match h with
  | .bad _ v => fun _ _ _ => .bad _ _
  | .bool _ b => fun _ _ _ => .bool _ _
  | .int _ k n => fun _ _ _ => .int _ _ _
  | .str _ s => fun _ _ _ => .str _ _
  | .nilp _ => fun _ _ _ => .nilp _
  | .ptr _ id off h => fun nx' ha hn => by
    obtain ⟨e1, e2, _, _⟩ := ha id h
    have := VR.ptr (ι := ι') (w := w') (Z := Z') nx' id off (Nat.lt_of_lt_of_le h hn)
    rw [e1, e2] at this
    exact this
  | .cptr _ v b o vs h1 h2 h3 => fun _ _ _ => .cptr _ _ _ _ vs (hz b h1).1 (h2.keep (hz b h1).2) (VRs.mono' hz h3 0 (fun i hi => absurd hi (Nat.not_lt_zero i)) (Nat.le_refl 0))
  | .nils _ => fun _ _ _ => .nils _
  | .sl _ id off len cap h hl hc => fun nx' ha hn => by
    obtain ⟨e1, e2, e3, e4⟩ := ha id h
    have := VR.sl (ι := ι') (w := w') (Z := Z') nx' id off len cap (Nat.lt_of_lt_of_le h hn) hl (by rw [e2, e3, e4]; exact hc)
    rw [e1, e2] at this
    exact this
  | .sl0 _ id off a h => fun _ _ hn => .sl0 _ _ _ _ (Nat.lt_of_lt_of_le h hn)
  | .lst0 _ a cap => fun _ _ _ => .lst0 _ _ _
  | .lst _ es b o cap sz vs hl h1 h2 hs h3 => fun _ _ _ => .lst _ es b o cap sz vs hl (hz b h1).1 (h2.keep (hz b h1).2) hs (VRs.mono' hz h3 0 (fun i hi => absurd hi (Nat.not_lt_zero i)) (Nat.le_refl 0))
  | .nilm _ => fun _ _ _ => .nilm _
  | .mp _ id h => fun nx' ha hn => by
    obtain ⟨e1, _, _, _⟩ := ha id h
    have := VR.mp (ι := ι') (w := w') (Z := Z') nx' id (Nat.lt_of_lt_of_le h hn)
    rw [e1] at this
    exact this
  | .nilf _ => fun _ _ _ => .nilf _
  | .fn _ f xs ys us vs hx hy => fun nx' ha hn => .fn _ f xs ys us vs (VRs.mono' hz hx nx' ha hn) (VRs.mono' hz hy nx' ha hn)
  | .nili _ => fun _ _ _ => .nili _
  | .ifc _ t v u h => fun nx' ha hn => .ifc _ t v u (VR.mono' hz h nx' ha hn)
  | .agg _ cs vs h => fun nx' ha hn => .agg _ cs vs (VRs.mono' hz h nx' ha hn)
  | .tup _ cs vs h => fun nx' ha hn => .tup _ cs vs (VRs.mono' hz h nx' ha hn)
  | .any _ u h => fun _ _ _ => .any _ u h
  | .mint _ k b m n h => fun _ _ _ => .mint _ k b m n h
theorem VRs.mono' {ι ι' : Emb} {w w' : World} {Z Z' : Nat → Prop} (hz : ∀ b, Z b → Z' b ∧ w'.heap[b]? = w.heap[b]?) {nx : Nat} {v : List AV} {u : List Value} (h : VRs ι w Z nx v u) :
    ∀ nx', ι'.agree ι nx → nx ≤ nx' → VRs ι' w' Z' nx' v u :=
  match h with
  | .nil _ => fun _ _ _ => .nil _
  | .cons _ v u vs us h t => fun nx' ha hn => .cons _ v u vs us (VR.mono' hz h nx' ha hn) (VRs.mono' hz t nx' ha hn)
end
theorem VR.mono {ι ι' : Emb} {w w' : World} {Z Z' : Nat → Prop} {nx nx' : Nat} {v : AV} {u : Value} (ha : ι'.agree ι nx) (hz : ∀ b, Z b → Z' b ∧ w'.heap[b]? = w.heap[b]?) (hn : nx ≤ nx')
    (h : VR ι w Z nx v u) : VR ι' w' Z' nx' v u := VR.mono' hz h nx' ha hn
theorem VRs.mono {ι ι' : Emb} {w w' : World} {Z Z' : Nat → Prop} {nx nx' : Nat} {v : List AV} {u : List Value} (ha : ι'.agree ι nx) (hz : ∀ b, Z b → Z' b ∧ w'.heap[b]? = w.heap[b]?) (hn : nx ≤ nx')
    (h : VRs ι w Z nx v u) : VRs ι' w' Z' nx' v u := VRs.mono' hz h nx' ha hn

section
variable {ι : Emb} {w : World} {Z : Nat → Prop} {nx : Nat}
theorem VRs.length {v : List AV} {u : List Value} (h : VRs ι w Z nx v u) : v.length = u.length := by
  induction v generalizing u with
  | nil => cases h; rfl
  | cons a r ih => cases h with | cons _ _ _ _ _ h t => simp [ih t]
theorem VRs.append {v v' : List AV} {u u' : List Value} (h : VRs ι w Z nx v u) (h' : VRs ι w Z nx v' u') : VRs ι w Z nx (v ++ v') (u ++ u') := by
  induction v generalizing u with
  | nil => cases h; exact h'
  | cons a r ih => cases h with | cons _ _ _ _ _ h t => exact .cons _ _ _ _ _ h (ih t)
theorem VRs.get {v : List AV} {u : List Value} (h : VRs ι w Z nx v u) {i : Nat} {a : AV} (hi : v[i]? = some a) : ∃ x, u[i]? = some x ∧ VR ι w Z nx a x := by
  induction v generalizing u i with
  | nil => simp at hi
  | cons b r ih =>
    cases h with
    | cons _ _ x _ us h t =>
      cases i with
      | zero => simp at hi; subst hi; exact ⟨x, rfl, h⟩
      | succ i => simpa using ih t (by simpa using hi)
theorem VRs.take {v : List AV} {u : List Value} (h : VRs ι w Z nx v u) (n : Nat) : VRs ι w Z nx (v.take n) (u.take n) := by
  induction v generalizing u n with
  | nil => cases h; simp; exact .nil _
  | cons b r ih =>
    cases h with
    | cons _ _ x _ us h t =>
      cases n with
      | zero => exact .nil _
      | succ n => exact .cons _ _ _ _ _ h (ih t n)
theorem VRs.drop {v : List AV} {u : List Value} (h : VRs ι w Z nx v u) (n : Nat) : VRs ι w Z nx (v.drop n) (u.drop n) := by
  induction v generalizing u n with
  | nil => cases h; simp; exact .nil _
  | cons b r ih =>
    cases h with
    | cons _ _ x _ us h t =>
      cases n with
      | zero => exact .cons _ _ _ _ _ h t
      | succ n => exact ih t n
theorem VRs.ofGet {v : List AV} {u : List Value} (hl : v.length = u.length) (h : ∀ (i : Nat) (a : AV) (x : Value), v[i]? = some a → u[i]? = some x → VR ι w Z nx a x) : VRs ι w Z nx v u := by
  induction v generalizing u with
  | nil => cases u with | nil => exact .nil _ | cons => simp at hl
  | cons a r ih =>
    cases u with
    | nil => simp at hl
    | cons x us => exact .cons _ _ _ _ _ (h 0 a x rfl rfl) (ih (by simpa using hl) fun i b y hb hy => h (i + 1) b y (by simpa using hb) (by simpa using hy))
theorem VRs.single {a : AV} {x : Value} (h : VR ι w Z nx a x) : VRs ι w Z nx [a] [x] := .cons _ _ _ _ _ h (.nil _)
theorem VR.flat {v : AV} {u : Value} (h : VR ι w Z nx v u) : VRs ι w Z nx (flat v) u.cells.toList := by
  cases h with
  | agg _ cs vs h => exact h
  | any _ u h => cases u <;> simp [one] at h <;> exact VRs.single (.any _ _ rfl)
  | _ => exact VRs.single (by constructor <;> assumption)
end

inductive KK where
  | b | s | i (k : IntKind)
def kindOf : AV → Option KK
  | .bool _ => some .b
  | .str _ => some .s
  | .int k _ => some (.i k)
  | _ => none
/-- The keys of a map of the evaluator's are plain, of one kind, and unlike. -/
def KeysOk (es : List (AV × AV)) : Prop := (∃ c, ∀ p ∈ es, kindOf p.1 = some c) ∧ es.Pairwise fun p q => keyEq p.1 q.1 = some false
/-- What a block of the evaluator's says of the world. -/
def BR (ι : Emb) (w : World) (Z : Nat → Prop) (nx id : Nat) : ABlk → Prop
  | .cells cs sz ex => ι.sz id = sz ∧ ∃ c el fz, w.heap[ι.blk id]? = some (.cells c el fz) ∧ c.size = ι.size id ∧ ι.off id + cs.length ≤ c.size ∧ ((ex % 2 = 1 → ι.off id + cs.length = c.size) ∧ (2 ≤ ex → ι.off id = 0 ∧ ex / 2 = el + 1)) ∧
      (∀ i, i < c.size → ¬ (fz.1 ≤ i ∧ i < fz.2)) ∧ ∃ vs, VRs ι w Z nx cs vs ∧ ∀ i v, vs[i]? = some v → c[ι.off id + i]? = some v
  | .map es => KeysOk es ∧ ∃ (ents : Array MapEntry) (clock : Nat), w.heap[ι.blk id]? = some (.map ents clock) ∧
      ∃ l : List (Value × Value), VRs ι w Z nx (es.map (·.1)) (l.map (·.1)) ∧ VRs ι w Z nx (es.map (·.2)) (l.map (·.2)) ∧ List.Perm l (ents.toList.map fun e => (e.key, e.val))

/-- The world holds what the evaluator's memory says. -/
structure Rel (ι : Emb) (w : World) (Z : Nat → Prop) (nx : Nat) (G : Nat → Option ABlk) : Prop where
  blk : ∀ id b, G id = some b → id < nx ∧ ι.blk id < w.heap.size ∧ ¬ Z (ι.blk id) ∧ BR ι w Z nx id b
  inj : ∀ i j b c, G i = some b → G j = some c → i ≠ j → ι.blk i ≠ ι.blk j
  zlt : ∀ b, Z b → b < w.heap.size

/-- What a step may have done to the world. -/
structure Ext (ι : Emb) (w : World) (Z : Nat → Prop) (nx lo : Nat) (G : Nat → Option ABlk) (ι' : Emb) (w' : World) (Z' : Nat → Prop) (nx' : Nat) (G' : Nat → Option ABlk) : Prop where
  agree : ι'.agree ι nx
  nxle : nx ≤ nx'
  zmono : ∀ b, Z b → Z' b
  znew : ∀ b, Z' b → Z b ∨ w.heap.size ≤ b ∨ ∃ id, lo ≤ id ∧ (G id).isSome ∧ ι.blk id = b
  kept : ∀ b, b < w.heap.size → (∀ id, lo ≤ id → (G id).isSome → ι.blk id ≠ b) → w'.heap[b]? = w.heap[b]?
  size : w.heap.size ≤ w'.heap.size
  img : ∀ id, (G' id).isSome → w.heap.size ≤ ι'.blk id ∨ ∃ id0, (G id0).isSome ∧ ι.blk id0 = ι'.blk id ∧ (lo ≤ id0 ∨ id0 = id)
  os : w'.os = w.os
  tape : w'.tape = w.tape
  output : w'.output = w.output

theorem Emb.agree.refl (ι : Emb) (nx : Nat) : ι.agree ι nx := fun _ _ => ⟨rfl, rfl, rfl, rfl⟩
theorem Emb.agree.trans {a b c : Emb} {n m : Nat} (h : b.agree a n) (h' : c.agree b m) (hn : n ≤ m) : c.agree a n := fun i hi => by
  obtain ⟨a1, a2, a3, a4⟩ := h i hi
  obtain ⟨b1, b2, b3, b4⟩ := h' i (Nat.lt_of_lt_of_le hi hn)
  exact ⟨b1.trans a1, b2.trans a2, b3.trans a3, b4.trans a4⟩

section
variable {ι : Emb} {w : World} {Z : Nat → Prop} {nx lo : Nat} {G : Nat → Option ABlk} {ι' : Emb} {w' : World} {Z' : Nat → Prop} {nx' : Nat} {G' : Nat → Option ABlk}
theorem Ext.refl : Ext ι w Z nx lo G ι w Z nx G :=
  ⟨.refl _ _, Nat.le_refl _, fun _ h => h, fun _ h => .inl h, fun _ _ _ => rfl, Nat.le_refl _, fun id h => .inr ⟨id, h, rfl, .inr rfl⟩, rfl, rfl, rfl⟩
theorem Ext.trans {ι2 : Emb} {w2 : World} {Z2 : Nat → Prop} {nx2 : Nat} {G2 : Nat → Option ABlk} (h : Ext ι w Z nx lo G ι' w' Z' nx' G') (k : Ext ι' w' Z' nx' lo G' ι2 w2 Z2 nx2 G2) :
    Ext ι w Z nx lo G ι2 w2 Z2 nx2 G2 := by
  refine ⟨h.agree.trans k.agree h.nxle, Nat.le_trans h.nxle k.nxle, fun b hb => k.zmono b (h.zmono b hb), ?_, ?_, Nat.le_trans h.size k.size, ?_, k.os.trans h.os, k.tape.trans h.tape, k.output.trans h.output⟩
  · intro b hb
    rcases k.znew b hb with hb | hb | ⟨id, hl, hi, he⟩
    · exact h.znew b hb
    · exact .inr (.inl (Nat.le_trans h.size hb))
    · rcases h.img id hi with hs | ⟨id0, h0, he0, hl0⟩
      · exact .inr (.inl (he ▸ hs))
      · exact .inr (.inr ⟨id0, by rcases hl0 with hl0 | hl0 <;> omega, h0, he0.trans he⟩)
  · intro b hb hn
    have h1 := h.kept b hb hn
    refine (k.kept b (Nat.lt_of_lt_of_le hb h.size) ?_).trans h1
    intro id hl hi he
    rcases h.img id hi with hs | ⟨id0, h0, he0, hl0⟩
    · omega
    · exact hn id0 (by rcases hl0 with hl0 | hl0 <;> omega) h0 (he0.trans he)
  · intro id hi
    rcases k.img id hi with hs | ⟨id0, h0, he0, hl0⟩
    · exact .inl (Nat.le_trans h.size hs)
    · rcases h.img id0 h0 with hs | ⟨id1, h1, he1, hl1⟩
      · exact .inl (he0 ▸ hs)
      · refine .inr ⟨id1, h1, he1.trans he0, ?_⟩
        rcases hl0 with hl0 | hl0
        · rcases hl1 with hl1 | hl1
          · exact .inl hl1
          · exact .inl (by omega)
        · subst hl0; exact hl1
/-- Blocks that nothing writes any more are as they were. -/
theorem Ext.zkept (h : Ext ι w Z nx lo G ι' w' Z' nx' G') (r : Rel ι w Z nx G) : ∀ b, Z b → Z' b ∧ w'.heap[b]? = w.heap[b]? := by
  intro b hb
  refine ⟨h.zmono b hb, h.kept b (r.zlt b hb) ?_⟩
  intro id _ hi he
  obtain ⟨x, hx⟩ := Option.isSome_iff_exists.1 hi
  exact (r.blk id x hx).2.2.1 (he ▸ hb)
theorem VR.ext {v : AV} {u : Value} (e : Ext ι w Z nx lo G ι' w' Z' nx' G') (r : Rel ι w Z nx G) (h : VR ι w Z nx v u) : VR ι' w' Z' nx' v u := h.mono e.agree (e.zkept r) e.nxle
theorem VRs.ext {v : List AV} {u : List Value} (e : Ext ι w Z nx lo G ι' w' Z' nx' G') (r : Rel ι w Z nx G) (h : VRs ι w Z nx v u) : VRs ι' w' Z' nx' v u := h.mono e.agree (e.zkept r) e.nxle
/-- A memory that says less. -/
theorem Rel.sub (r : Rel ι w Z nx G) (h : ∀ id b, G' id = some b → G id = some b) : Rel ι w Z nx G' :=
  ⟨fun id b hb => r.blk id b (h id b hb), fun i j b c hb hc => r.inj i j b c (h i b hb) (h j c hc), r.zlt⟩
end

/-! ### Values of the code -/
mutual
theorem ofValue_sound {ι : Emb} {w : World} {Z : Nat → Prop} {nx : Nat} : ∀ (u : Value) (v : AV), ofValue u = some v → VR ι w Z nx v u
  | .bool b, v, h => by simp [ofValue] at h; subst h; exact .bool _ _
  | .int k n, v, h => by simp [ofValue] at h; subst h; exact .int _ _ _
  | .string s, v, h => by simp [ofValue] at h; subst h; exact .str _ _
  | .pointer none, v, h => by simp [ofValue] at h; subst h; exact .nilp _
  | .slice none 0 0, v, h => by simp [ofValue] at h; subst h; exact .nils _
  | .map none, v, h => by simp [ofValue] at h; subst h; exact .nilm _
  | .nilFunc, v, h => by simp [ofValue] at h; subst h; exact .nilf _
  | .nilIface, v, h => by simp [ofValue] at h; subst h; exact .nili _
  | .func (.func f) ⟨[]⟩ ⟨[]⟩, v, h => by simp [ofValue] at h; subst h; exact .fn _ _ _ _ _ _ (.nil _) (.nil _)
  | .agg ⟨cs⟩, v, h => by
    simp only [ofValue, Option.map_eq_some_iff] at h
    obtain ⟨x, hx, rfl⟩ := h
    exact .agg _ _ _ (ofValues_sound cs x hx)
  | .tuple ⟨[]⟩, v, h => by simp [ofValue] at h; subst h; exact .tup _ _ _ (.nil _)
  | .float .., v, h => by simp [ofValue] at h
  | .complex .., v, h => by simp [ofValue] at h
  | .pointer (some _), v, h => by simp [ofValue] at h
  | .slice (some _) _ _, v, h => by simp [ofValue] at h
  | .slice none (_ + 1) _, v, h => by simp [ofValue] at h
  | .slice none 0 (_ + 1), v, h => by simp [ofValue] at h
  | .map (some _), v, h => by simp [ofValue] at h
  | .chan _, v, h => by simp [ofValue] at h
  | .iface _ _, v, h => by simp [ofValue] at h
  | .tuple ⟨_ :: _⟩, v, h => by simp [ofValue] at h
  | .func (.method _) _ _, v, h => by simp [ofValue] at h
  | .func (.methodOf _ _) _ _, v, h => by simp [ofValue] at h
  | .func (.via _ _ _ _) _ _, v, h => by simp [ofValue] at h
  | .func (.yield _) _ _, v, h => by simp [ofValue] at h
  | .func (.func _) ⟨_ :: _⟩ _, v, h => by simp [ofValue] at h
  | .func (.func _) ⟨[]⟩ ⟨_ :: _⟩, v, h => by simp [ofValue] at h
theorem ofValues_sound {ι : Emb} {w : World} {Z : Nat → Prop} {nx : Nat} : ∀ (u : List Value) (v : List AV), ofValues u = some v → VRs ι w Z nx v u
  | [], v, h => by simp [ofValues] at h; subst h; exact .nil _
  | a :: r, v, h => by
    simp only [ofValues] at h
    cases h1 : ofValue a with
    | none => simp [h1] at h
    | some x =>
      cases h2 : ofValues r with
      | none => simp [h1, h2] at h
      | some y =>
        simp [h1, h2] at h
        subst h
        exact .cons _ _ _ _ _ (ofValue_sound a x h1) (ofValues_sound r y h2)
end

end Go.Ev
