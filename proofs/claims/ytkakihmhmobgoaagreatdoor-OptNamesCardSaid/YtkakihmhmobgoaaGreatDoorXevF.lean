/- Each instruction that only looks at its operands does in the model what the evaluator says: the run. -/
import Derived.Test.YtkakihmhmobgoaaGreatDoorXevE
import Derived.Laws.Slices
namespace Go.Ev

section
variable {ι : Emb} {w : World} {Z : Nat → Prop} {nx : Nat} {gl : Nat → AV} {tm : Tr AV} {P : Program} {a : Act}

theorem isShift_iff {op : BinOp} : isShift op = true ↔ op = .shl ∨ op = .shr := by cases op <;> simp [isShift]

theorem binInt_sound {op : BinOp} {k k' : IntKind} {x y : Int} {v : AV} (hk : isShift op = true ∨ k = k') (h : binInt op k x y = some v) (t : TypeId) :
    ∃ u, (binOp op t (.int k x) (.int k' y)).run P w = .ok u w ∧ VR ι w Z nx v u := by
  cases op <;> simp only [binInt] at h
  case quo =>
    by_cases hy : y = 0
    · simp [hy] at h
    · simp [hy] at h; subst h
      obtain rfl : k = k' := by simpa [isShift] using hk
      exact ⟨_, by simp [binOp, Op.intDiv, hy], .int _ _ _⟩
  case rem =>
    by_cases hy : y = 0
    · simp [hy] at h
    · simp [hy] at h; subst h
      obtain rfl : k = k' := by simpa [isShift] using hk
      exact ⟨_, by simp [binOp, Op.intDiv, hy], .int _ _ _⟩
  case shl =>
    by_cases hy : y < 0
    · simp [hy] at h
    · simp [hy] at h; subst h
      exact ⟨_, by simp [binOp, Op.shift, hy], .int _ _ _⟩
  case shr =>
    by_cases hy : y < 0
    · simp [hy] at h
    · simp [hy] at h; subst h
      exact ⟨_, by simp [binOp, Op.shift, hy], .int _ _ _⟩
  all_goals
    obtain rfl : k = k' := by simpa [isShift] using hk
    simp only [Option.some.injEq] at h
    subst h
    first
      | exact ⟨_, by simp only [binOp, ne_eq, not_true_eq_false, if_false]; rfl, .int _ _ _⟩
      | exact ⟨_, by simp only [binOp, ne_eq, not_true_eq_false, if_false]; rfl, .bool _ _⟩

theorem natsEq_iff : ∀ {a b : List Nat}, natsEq a b = true ↔ a = b
  | [], [] => by simp [natsEq]
  | [], _ :: _ => by simp [natsEq]
  | _ :: _, [] => by simp [natsEq]
  | x :: a, y :: b => by
    simp only [natsEq, Bool.and_eq_true, natsEq_iff (a := a) (b := b)]
    constructor
    · rintro ⟨h, rfl⟩; rw [Nat.eq_of_beq_eq_true h]
    · intro h; cases h; exact ⟨Nat.beq_refl _, rfl⟩
def bytes (s : ByteArray) : List Nat := s.data.toList.map (·.toNat)
theorem size_eq (s : ByteArray) : s.size = s.data.toList.length := (Array.length_toList).symm
theorem toList_data (s : ByteArray) : s.toList = s.data.toList := by
  have key : ∀ (n i : Nat) (r : List UInt8), s.size - i = n → ByteArray.toList.loop s i r = r.reverse ++ s.data.toList.drop i := by
    intro n
    induction n with
    | zero =>
      intro i r h
      unfold ByteArray.toList.loop
      rw [if_neg (by omega)]
      have : s.data.toList.length ≤ i := by
        have := size_eq s
        omega
      simp [List.drop_eq_nil_of_le this]
    | succ n ih =>
      intro i r h
      unfold ByteArray.toList.loop
      have hi : i < s.size := by omega
      rw [if_pos hi, ih (i + 1) _ (by omega)]
      have hl : i < s.data.toList.length := by have := size_eq s; omega
      have : s.get! i = s.data.toList[i] := by
        have hs : i < s.data.size := hi
        show s.data[i]! = _
        rw [getElem!_pos s.data i hs]
        rfl
      rw [List.drop_eq_getElem_cons hl, this]
      simp
  have := key s.size 0 [] (by omega)
  simpa [ByteArray.toList] using this
theorem map_toNat_inj : ∀ {a b : List UInt8}, a.map (·.toNat) = b.map (·.toNat) → a = b
  | [], [], _ => rfl
  | [], _ :: _, h => by simp at h
  | _ :: _, [], h => by simp at h
  | x :: a, y :: b, h => by
    simp only [List.map_cons, List.cons.injEq] at h
    rw [UInt8.toNat_inj.1 h.1, map_toNat_inj h.2]
theorem natsEq_bytes (s t : ByteArray) : natsEq (bytes s) (bytes t) = (s.toList == t.toList) := by
  rw [Bool.eq_iff_iff, natsEq_iff, toList_data, toList_data, beq_iff_eq]
  exact ⟨map_toNat_inj, fun h => by simp [bytes, h]⟩
theorem natsLess_bytes : ∀ (a b : List UInt8), natsLess (a.map (·.toNat)) (b.map (·.toNat)) = Op.bytesLess a b
  | [], [] => rfl
  | _ :: _, [] => rfl
  | [], _ :: _ => rfl
  | x :: a, y :: b => by
    simp only [List.map_cons, natsLess, Op.bytesLess, natsLess_bytes a b]
    congr 1
    · rw [Bool.eq_iff_iff, Nat.blt_eq]; simp [UInt8.lt_iff_toNat_lt]
    · congr 1
      rw [Bool.eq_iff_iff]
      simp only [beq_iff_eq]
      exact ⟨fun h => UInt8.toNat_inj.1 (Nat.eq_of_beq_eq_true h), fun h => by rw [h]; exact Nat.beq_refl _⟩
theorem binStr_sound {op : BinOp} {x y : ByteArray} {v : AV} (h : binStr op (bytes x) (bytes y) = some v) (t : TypeId) :
    ∃ u, (binOp op t (.string x) (.string y)).run P w = .ok u w ∧ VR ι w Z nx v u := by
  have hl : natsLess (bytes x) (bytes y) = Op.bytesLess x.toList y.toList := by rw [toList_data, toList_data]; exact natsLess_bytes _ _
  cases op <;> simp only [binStr, natsEq_bytes, hl, reduceCtorEq] at h
  case add =>
    split at h
    · rename_i hlt
      simp only [Option.some.injEq] at h; subst h
      have hx : (bytes x).length = x.size := by rw [size_eq]; exact List.length_map ..
      have hy : (bytes y).length = y.size := by rw [size_eq]; exact List.length_map ..
      refine ⟨.string (x ++ y), ?_, ?_⟩
      · have : ¬ ((x.size + y.size : Nat) : Int) > IntKind.i64.max := by
          have : IntKind.i64.max = 9223372036854775807 := by decide
          rw [this]; omega
        simp only [binOp, Op.stringOp, this, if_false]
        rfl
      · have := VR.str (ι := ι) (w := w) (Z := Z) nx (x ++ y)
        have e : (x ++ y).data.toList.map (·.toNat) = bytes x ++ bytes y := by simp [bytes]
        rw [e] at this
        exact this
    · simp at h
  all_goals
    simp only [Option.some.injEq] at h
    subst h
    exact ⟨_, by simp only [binOp, Op.stringOp]; rfl, .bool _ _⟩

theorem wrap_small {k : IntKind} {b x : Nat} (hb : b < k.bits) (hx : x < 2 ^ b) : k.wrap (x : Int) = x := by
  have h1 : x < 2 ^ (k.bits - 1) := Nat.lt_of_lt_of_le hx (Nat.pow_le_pow_right (by omega) (by omega))
  have h2 : x < 2 ^ k.bits := Nat.lt_of_lt_of_le h1 (Nat.pow_le_pow_right (by omega) (by omega))
  have e : (x : Int) % (2 ^ k.bits : Int) = x := Int.emod_eq_of_lt (by omega) (by exact_mod_cast h2)
  have h3 : ¬ ((x : Int) ≥ (2 ^ (k.bits - 1) : Int)) := by
    have : (x : Int) < (2 ^ (k.bits - 1) : Int) := by exact_mod_cast h1
    omega
  unfold IntKind.wrap
  simp only [e, h3, and_false, if_false, decide_false, Bool.and_false, Bool.false_eq_true]
theorem and_low {W b m c : Nat} {n : Int} (hb : b ≤ W) (hc : c < 2 ^ b) (hm : n % (2 ^ b : Nat) = m) : (BitVec.ofInt W n &&& BitVec.ofInt W (c : Int)).toNat = m &&& c := by
  have hcW : c < 2 ^ W := Nat.lt_of_lt_of_le hc (Nat.pow_le_pow_right (by omega) hb)
  have h1 : (BitVec.ofInt W (c : Int)).toNat = c := by
    rw [BitVec.toNat_ofInt, ← Int.natCast_emod]; simp [Nat.mod_eq_of_lt hcW]
  have h2 : (BitVec.ofInt W n).toNat % 2 ^ b = m := by
    rw [BitVec.toNat_ofInt]
    have hd : ((2 ^ b : Nat) : Int) ∣ ((2 ^ W : Nat) : Int) := by exact_mod_cast Nat.pow_dvd_pow 2 hb
    have h3 : ((n % ((2 ^ W : Nat) : Int)).toNat : Int) = n % ((2 ^ W : Nat) : Int) := Int.toNat_of_nonneg (Int.emod_nonneg _ (by have := Nat.two_pow_pos W; omega))
    have h4 : (((n % ((2 ^ W : Nat) : Int)).toNat % 2 ^ b : Nat) : Int) = m := by
      rw [Int.natCast_emod, h3, Int.emod_emod_of_dvd _ hd]; exact hm
    exact_mod_cast h4
  rw [BitVec.toNat_and, h1, ← h2]
  apply Nat.eq_of_testBit_eq
  intro i
  simp only [Nat.testBit_and, Nat.testBit_mod_two_pow]
  by_cases hi : i < b
  · simp [hi]
  · have : c.testBit i = false := Nat.testBit_lt_two_pow (Nat.lt_of_lt_of_le hc (Nat.pow_le_pow_right (by omega) (by omega)))
    simp [this]
theorem shr_low {b m c : Nat} {n : Int} (hc : c ≤ b) (hm : n % (2 ^ b : Nat) = m) : (n.fdiv (2 ^ c : Nat)) % (2 ^ (b - c) : Nat) = (m / 2 ^ c : Nat) := by
  have hp : (0 : Int) < ((2 ^ c : Nat) : Int) := by exact_mod_cast Nat.two_pow_pos c
  rw [Int.fdiv_eq_ediv_of_nonneg _ (Int.le_of_lt hp)]
  have e : ((2 ^ b : Nat) : Int) = ((2 ^ c : Nat) : Int) * ((2 ^ (b - c) : Nat) : Int) := by
    rw [← Int.natCast_mul, ← Nat.pow_add]; congr 2; omega
  have hn : n = (m : Int) + ((2 ^ c : Nat) : Int) * (((2 ^ (b - c) : Nat) : Int) * (n / ((2 ^ b : Nat) : Int))) := by
    rw [← Int.mul_assoc, ← e, ← hm]
    have := Int.emod_add_mul_ediv n ((2 ^ b : Nat) : Int)
    omega
  have hd : (0 : Int) < ((2 ^ (b - c) : Nat) : Int) := by have := Nat.two_pow_pos (b - c); omega
  have hm2 : (m : Int) < ((2 ^ b : Nat) : Int) := by rw [← hm]; exact Int.emod_lt_of_pos _ (by have := Nat.two_pow_pos b; omega)
  rw [hn, Int.add_mul_ediv_left _ _ (by omega), Int.add_mul_emod_self_left, Int.natCast_ediv]
  refine Int.emod_eq_of_lt (Int.ediv_nonneg (by omega) (by omega)) ?_
  refine Int.ediv_lt_of_lt_mul hp ?_
  rw [Int.mul_comm, ← e]; exact hm2
theorem binMint_sound {op : BinOp} {k k' : IntKind} {b m c : Nat} {n : Int} {v : AV} (h : binMint op k b m k' c = some v) (hn : n % (2 ^ b : Nat) = m) (t : TypeId) :
    ∃ u, (binOp op t (.int k n) (.int k' (c : Int))).run P w = .ok u w ∧ VR ι w Z nx v u := by
  cases op <;> simp only [binMint, reduceCtorEq] at h
  case and =>
    split at h
    · rename_i hk
      obtain ⟨rfl, hc, hb⟩ := hk
      simp only [Option.some.injEq] at h; subst h
      obtain ⟨u, hu, hv⟩ := binInt_sound (P := P) (w := w) (ι := ι) (Z := Z) (nx := nx) (op := .and) (k := k) (k' := k) (x := n) (y := c) (.inr rfl) rfl t
      refine ⟨u, hu, ?_⟩
      rw [and_low (Nat.le_of_lt hb) hc hn, wrap_small hb (Nat.lt_of_le_of_lt Nat.and_le_right hc)] at hv
      exact hv
    · simp at h
  case shr =>
    split at h
    · rename_i hk
      obtain ⟨hc, hb⟩ := hk
      simp only [Option.some.injEq] at h; subst h
      obtain ⟨u, hu, hv⟩ := binInt_sound (P := P) (w := w) (ι := ι) (Z := Z) (nx := nx) (op := .shr) (k := k) (k' := k') (x := n) (y := c) (v := .int k (n.fdiv (2 ^ c : Nat))) (.inl rfl) (by
        simp only [binInt]
        rw [if_neg (by omega)]
        rw [show (c : Int).toNat = c from rfl, Nat.min_eq_left (by omega)]
        norm_cast) t
      refine ⟨u, hu, ?_⟩
      cases hv
      exact .mint _ _ _ _ _ (shr_low hc hn)
    · simp at h
theorem binAV_sound {op : BinOp} {x y v : AV} {u s : Value} (hne : op ≠ .eql) (hne' : op ≠ .neq) (h : binAV op x y = some v) (hx : VR ι w Z nx x u) (hy : VR ι w Z nx y s) (t : TypeId) :
    ∃ r, (binOp op t u s).run P w = .ok r w ∧ VR ι w Z nx v r := by
  cases x <;> cases y <;> simp only [binAV, reduceCtorEq] at h
  case int.int k a k' b =>
    cases hx; cases hy
    split at h
    · rename_i hk
      exact binInt_sound (by simpa using hk) h t
    · simp at h
  case str.str a b =>
    cases hx; cases hy
    exact binStr_sound h t
  case mint.int k b m k' c =>
    cases hx with | mint _ _ _ _ n hn =>
    cases hy
    cases c with
    | ofNat c => exact binMint_sound h hn t
    | negSucc c => simp at h
end
end Go.Ev
