/- LowerChecks: what the law's argument holds, as the evaluator's values. -/
import Derived.Test.YtkalflplonnhmaaGreatDoorRows
import Derived.Test.YtkalflplonnhmaaGreatDoorLcE
import Derived.KernelRfl
namespace Go.Proofs.YtkalflplonnhmaaGreatDoor.lowerChecks
open Go.Ev Go.Ev.Lc
set_option maxRecDepth 100000
section
variable {H : Type} {n : Nat} {d : DataW H}
theorem z3 : sizeT Tryz.prog 3 = some 1 := by kernel_rfl
theorem z4 : sizeT Tryz.prog 4 = some 1 := by kernel_rfl
theorem z61 : sizeT Tryz.prog 61 = some 1 := by kernel_rfl
theorem z22 : sizeT Tryz.prog 22 = some 1 := by kernel_rfl
theorem z23 : sizeT Tryz.prog 23 = some 1 := by kernel_rfl
theorem z24 : sizeT Tryz.prog 24 = some 1 := by kernel_rfl
theorem z27 : sizeT Tryz.prog 27 = some 1 := by kernel_rfl
theorem z32 : sizeT Tryz.prog 32 = some 1 := by kernel_rfl
theorem z31 : sizeT Tryz.prog 31 = some 2 := by kernel_rfl
theorem z26 : sizeT Tryz.prog 26 = some 5 := by kernel_rfl
theorem z34 : sizeT Tryz.prog 34 = some 5 := by kernel_rfl
theorem z63 : sizeT Tryz.prog 63 = some 5 := by kernel_rfl
theorem z29 : sizeT Tryz.prog 29 = some 6 := by kernel_rfl
theorem short_of {α : Type} {l : List α} (h : l.length ≤ maxLen) : short l = true := by
  unfold short
  simp only [maxLen] at h
  simp only [decide_eq_true_eq]
  omega
theorem sh3 (h : Shape Tryz.prog n 3 d) : ∃ x, word x ∧ avs Tryz.prog 1 3 d = some [K x] := by
  cases n with
  | zero => exact h.elim
  | succ n =>
    simp only [Shape, Tryz.underlying3] at h
    obtain ⟨m, rfl, hw⟩ := h
    refine ⟨m, ?_, by simp only [avs, Tryz.underlying3]⟩
    simp [Lit.wf, IntKind.min, IntKind.max, IntKind.signed, IntKind.bits] at hw
    unfold word
    omega
theorem sh61 (h : Shape Tryz.prog n 61 d) : ∃ x : Nat, x < 18446744073709551616 ∧ avs Tryz.prog 1 61 d = some [.int .u64 (x : Int)] := by
  cases n with
  | zero => exact h.elim
  | succ n =>
    simp only [Shape, Tryz.underlying61] at h
    obtain ⟨m, rfl, hw⟩ := h
    simp [Lit.wf, IntKind.min, IntKind.max, IntKind.signed, IntKind.bits] at hw
    refine ⟨m.toNat, by omega, ?_⟩
    simp only [avs, Tryz.underlying61]
    rw [Int.toNat_of_nonneg (by omega)]
theorem sh4 (h : Shape Tryz.prog n 4 d) : ∃ x : Bool, avs Tryz.prog 1 4 d = some [.bool x] := by
  cases n with
  | zero => exact h.elim
  | succ n =>
    simp only [Shape, Tryz.underlying4] at h
    obtain ⟨b, rfl⟩ := h
    exact ⟨b, by simp only [avs, Tryz.underlying4]⟩
theorem sh23 (h : Shape Tryz.prog n 23 d) : ∃ l : List Int, short l = true ∧ avs Tryz.prog 2 23 d = some [ints l] := by
  cases n with
  | zero => exact h.elim
  | succ n =>
    simp only [Shape, Tryz.underlying23] at h
    obtain ⟨l, h1, _, h3⟩ := avs_slice (m := 1) (g := fun x : Int => [K x]) (good := word) Tryz.underlying23 z3 (by decide) (fun _ => ⟨rfl, rfl⟩) (h.imp id fun ⟨el, sp, e, hl, hx⟩ => ⟨el, sp, e, hl, fun x hx' => sh3 (hx x hx')⟩)
    exact ⟨l, short_of h1, h3⟩
theorem sh24 (h : Shape Tryz.prog n 24 d) : ∃ l : List Bool, short l = true ∧ avs Tryz.prog 2 24 d = some [bools l] := by
  cases n with
  | zero => exact h.elim
  | succ n =>
    simp only [Shape, Tryz.underlying24] at h
    obtain ⟨l, h1, _, h3⟩ := avs_slice (m := 1) (g := fun x : Bool => [.bool x]) (good := fun _ => True) Tryz.underlying24 z4 (by decide) (fun _ => ⟨rfl, rfl⟩) (h.imp id fun ⟨el, sp, e, hl, hx⟩ => ⟨el, sp, e, hl, fun x hx' => (sh4 (hx x hx')).imp fun _ h => ⟨trivial, h⟩⟩)
    exact ⟨l, short_of h1, h3⟩
theorem sh31 (h : Shape Tryz.prog n 31 d) : ∃ s : Sig, sigShort s = true ∧ avs Tryz.prog 3 31 d = some [ints s.inp, ints s.out] := by
  cases n with
  | zero => exact h.elim
  | succ n =>
    simp only [Shape, Tryz.underlying31] at h
    obtain ⟨parts, rfl, hp⟩ := h
    match parts, hp with
    | [a, b], ⟨h1, h2, _⟩ =>
      obtain ⟨l1, s1, e1⟩ := sh23 h1
      obtain ⟨l2, s2, e2⟩ := sh23 h2
      refine ⟨⟨l1, l2⟩, by simp only [sigShort, s1, s2, Bool.and_self], ?_⟩
      exact avs_struct (cs := [ints l1] ++ ([ints l2] ++ ([]))) Tryz.underlying31 z31 (fieldsM_cons z23 e1 rfl rfl (fieldsM_cons z23 e2 rfl rfl (rfl : fieldsM _ _ _ [] [] = some []))) rfl
theorem sh63 (h : Shape Tryz.prog n 63 d) : ∃ c : Code', (codeShort c = true ∧ c.n < 18446744073709551616 ∧ word c.op) ∧ avs Tryz.prog 3 63 d = some [K c.op, .int .u64 (c.n : Int), ints c.args, ints c.outs, ints c.to] := by
  cases n with
  | zero => exact h.elim
  | succ n =>
    simp only [Shape, Tryz.underlying63] at h
    obtain ⟨parts, rfl, hp⟩ := h
    match parts, hp with
    | [a, b, c, d, e], ⟨h1, h2, h3, h4, h5, _⟩ =>
      obtain ⟨op, w1, e1⟩ := sh3 h1
      obtain ⟨m, w2, e2⟩ := sh61 h2
      obtain ⟨l3, s3, e3⟩ := sh23 h3
      obtain ⟨l4, s4, e4⟩ := sh23 h4
      obtain ⟨l5, s5, e5⟩ := sh23 h5
      have e1 := avs_succ _ e1
      have e2 := avs_succ _ e2
      refine ⟨⟨op, m, l3, l4, l5⟩, ⟨by simp only [codeShort, s3, s4, s5, Bool.and_self], w2, w1⟩, ?_⟩
      exact avs_struct (cs := [K op] ++ ([.int .u64 (m : Int)] ++ ([ints l3] ++ ([ints l4] ++ ([ints l5] ++ ([])))))) Tryz.underlying63 z63 (fieldsM_cons z3 e1 rfl rfl (fieldsM_cons z61 e2 rfl rfl (fieldsM_cons z23 e3 rfl rfl (fieldsM_cons z23 e4 rfl rfl (fieldsM_cons z23 e5 rfl rfl (rfl : fieldsM _ _ _ [] [] = some [])))))) rfl
theorem sh32 (h : Shape Tryz.prog n 32 d) : ∃ l : List Code', short l = true ∧ (∀ c ∈ l, codeShort c = true ∧ c.n < 18446744073709551616 ∧ word c.op) ∧ avs Tryz.prog 4 32 d = some [codes l] := by
  cases n with
  | zero => exact h.elim
  | succ n =>
    simp only [Shape, Tryz.underlying32] at h
    obtain ⟨l, h1, h2, h3⟩ := avs_slice (m := 3) (g := fun c : Code' => [K c.op, .int .u64 (c.n : Int), ints c.args, ints c.outs, ints c.to]) (good := fun c => codeShort c = true ∧ c.n < 18446744073709551616 ∧ word c.op) Tryz.underlying32 z63 (by decide) (fun _ => ⟨rfl, rfl⟩)
      (h.imp id fun ⟨el, sp, e, hl, hx⟩ => ⟨el, sp, e, hl, fun x hx' => sh63 (hx x hx')⟩)
    exact ⟨l, short_of h1, h2, h3⟩
theorem sh34 (h : Shape Tryz.prog n 34 d) : ∃ r : Row, RowOk r ∧ avs Tryz.prog 5 34 d = some (rowCells r) := by
  cases n with
  | zero => exact h.elim
  | succ n =>
    simp only [Shape, Tryz.underlying34] at h
    obtain ⟨parts, rfl, hp⟩ := h
    match parts, hp with
    | [a, b, c, d], ⟨h1, h2, h3, h4, _⟩ =>
      obtain ⟨s, s1, e1⟩ := sh31 h1
      obtain ⟨pl, w2, e2⟩ := sh3 h2
      obtain ⟨l3, s3, e3⟩ := sh23 h3
      obtain ⟨l4, s4, g4, e4⟩ := sh32 h4
      have e1 := avs_le (m := 4) (by decide) e1
      have e2 := avs_le (m := 4) (by decide) e2
      have e3 := avs_le (m := 4) (by decide) e3
      simp only [sigShort, Bool.and_eq_true] at s1
      refine ⟨⟨s, pl, l3, l4⟩, ⟨s1.1, s1.2, s3, s4, fun i c hc => ⟨(g4 c (List.mem_of_getElem? hc)).1, (g4 c (List.mem_of_getElem? hc)).2.1⟩, fun c hc => (g4 c hc).2.2⟩, ?_⟩
      exact avs_struct (cs := [ints s.inp, ints s.out] ++ ([K pl] ++ ([ints l3] ++ ([codes l4] ++ ([]))))) Tryz.underlying34 z34 (fieldsM_cons z31 e1 rfl rfl (fieldsM_cons z3 e2 rfl rfl (fieldsM_cons z23 e3 rfl rfl (fieldsM_cons z32 e4 rfl rfl (rfl : fieldsM _ _ _ [] [] = some []))))) rfl
theorem sh27 (h : Shape Tryz.prog n 27 d) : ∃ l : List Row, short l = true ∧ (∀ r ∈ l, RowOk r) ∧ avs Tryz.prog 6 27 d = some [rows l] := by
  cases n with
  | zero => exact h.elim
  | succ n =>
    simp only [Shape, Tryz.underlying27] at h
    obtain ⟨l, h1, h2, h3⟩ := avs_slice (m := 5) (g := rowCells) (good := RowOk) Tryz.underlying27 z34 (by decide) (fun _ => ⟨rfl, rfl⟩)
      (h.imp id fun ⟨el, sp, e, hl, hx⟩ => ⟨el, sp, e, hl, fun x hx' => sh34 (hx x hx')⟩)
    exact ⟨l, short_of h1, h2, h3⟩
theorem sh22 (h : Shape Tryz.prog n 22 d) : ∃ l : List Sig, short l = true ∧ l.all sigShort = true ∧ avs Tryz.prog 4 22 d = some [sigs l] := by
  cases n with
  | zero => exact h.elim
  | succ n =>
    simp only [Shape, Tryz.underlying22] at h
    obtain ⟨l, h1, h2, h3⟩ := avs_slice (m := 3) (g := fun s : Sig => [ints s.inp, ints s.out]) (good := fun s => sigShort s = true) Tryz.underlying22 z31 (by decide) (fun _ => ⟨rfl, rfl⟩)
      (h.imp id fun ⟨el, sp, e, hl, hx⟩ => ⟨el, sp, e, hl, fun x hx' => sh31 (hx x hx')⟩)
    exact ⟨l, short_of h1, List.all_eq_true.2 h2, h3⟩
theorem sh26 (h : Shape Tryz.prog n 26 d) : ∃ e : Env', (envShort e = true ∧ word e.imports) ∧ avs Tryz.prog 5 26 d = some (envCells e) := by
  cases n with
  | zero => exact h.elim
  | succ n =>
    simp only [Shape, Tryz.underlying26] at h
    obtain ⟨parts, rfl, hp⟩ := h
    match parts, hp with
    | [a, b, c, d, e], ⟨h1, h2, h3, h4, h5, _⟩ =>
      obtain ⟨l1, s1, g1, e1⟩ := sh22 h1
      obtain ⟨im, w2, e2⟩ := sh3 h2
      obtain ⟨l3, s3, e3⟩ := sh23 h3
      obtain ⟨l4, s4, e4⟩ := sh24 h4
      obtain ⟨b5, e5⟩ := sh4 h5
      have e2 := avs_le (m := 4) (by decide) e2
      have e3 := avs_le (m := 4) (by decide) e3
      have e4 := avs_le (m := 4) (by decide) e4
      have e5 := avs_le (m := 4) (by decide) e5
      refine ⟨⟨l1, im, l3, l4, b5⟩, ⟨by simp only [envShort, s1, s3, s4, g1, Bool.and_self], w2⟩, ?_⟩
      exact avs_struct (cs := [sigs l1] ++ ([K im] ++ ([ints l3] ++ ([bools l4] ++ ([.bool b5] ++ ([])))))) Tryz.underlying26 z26 (fieldsM_cons z22 e1 rfl rfl (fieldsM_cons z3 e2 rfl rfl (fieldsM_cons z23 e3 rfl rfl (fieldsM_cons z24 e4 rfl rfl (fieldsM_cons z4 e5 rfl rfl (rfl : fieldsM _ _ _ [] [] = some [])))))) rfl
theorem sh29 (h : Shape Tryz.prog n 29 d) : ∃ p : Go.Ev.Lc.Rows, RowsOk p ∧ avs Tryz.prog 7 29 d = some (rowsCells p) := by
  cases n with
  | zero => exact h.elim
  | succ n =>
    simp only [Shape, Tryz.underlying29] at h
    obtain ⟨parts, rfl, hp⟩ := h
    match parts, hp with
    | [a, b], ⟨h1, h2, _⟩ =>
      obtain ⟨e, ⟨s1, w1⟩, e1⟩ := sh26 h1
      obtain ⟨l, s2, g2, e2⟩ := sh27 h2
      have e1 := avs_le (m := 6) (by decide) e1
      refine ⟨⟨e, l⟩, ⟨s1, s2, w1, g2⟩, ?_⟩
      exact avs_struct (cs := envCells e ++ ([rows l] ++ ([]))) Tryz.underlying29 z29 (fieldsM_cons z26 e1 rfl rfl (fieldsM_cons z27 e2 rfl rfl (rfl : fieldsM _ _ _ [] [] = some []))) rfl
end
end Go.Proofs.YtkalflplonnhmaaGreatDoor.lowerChecks
