/- With more fuel the evaluator answers the same. -/
import Derived.Test.YtkakihmhmobgoaaGreatDoorXevZf
namespace Go.Ev

section
variable (E : Env)
structure Mono (n : Nat) : Prop where
  exec : ∀ {lo c fr s r}, exec E n lo c fr s = some r → exec E (n + 1) lo c fr s = some r
  scope : ∀ {lo b c fr s r}, scopeRun E n lo b c fr s = some r → scopeRun E (n + 1) lo b c fr s = some r
  ops : ∀ {lo es fr s r}, execOps E n lo es fr s = some r → execOps E (n + 1) lo es fr s = some r
  draw : ∀ {lo k es fr H ds od nx r}, execDraw E n lo k es fr H ds od nx = some r → execDraw E (n + 1) lo k es fr H ds od nx = some r
  call : ∀ {lo f args s r}, callF E n lo f args s = some r → callF E (n + 1) lo f args s = some r
  leave : ∀ {lo F tm df p s r}, leave E n lo F tm df p s = some r → leave E (n + 1) lo F tm df p s = some r
  callD : ∀ {lo f args p s r}, callD E n lo f args p s = some r → callD E (n + 1) lo f args p s = some r

theorem mono : ∀ n, Mono E n := by
  intro n
  induction n with
  | zero => exact ⟨fun h => by simp [exec] at h, fun h => by simp [scopeRun] at h, fun h => by simp [execOps] at h, fun h => by simp [execDraw] at h, fun h => by simp [callF] at h, fun h => by simp [leave] at h, fun h => by simp [callD] at h⟩
  | succ n ih =>
    refine ⟨?_, ?_, ?_, ?_, ?_, ?_, ?_⟩
    · intro lo c fr s r h
      cases c with
      | seq a b =>
        rw [exec] at h ⊢
        cases h1 : exec E n lo a fr s with
        | none => rw [h1] at h; simp at h
        | some q =>
          rw [ih.exec h1]
          rw [h1] at h
          obtain ⟨e, fr1, s1⟩ := q
          cases e <;> first | exact ih.exec h | exact h
      | cond c a b =>
        rw [exec] at h ⊢
        split at h <;> first | exact ih.exec h | simp at h
      | block id b =>
        rw [exec] at h ⊢
        cases h1 : exec E n lo b fr s with
        | none => rw [h1] at h; simp at h
        | some q => rw [ih.exec h1]; rw [h1] at h; exact h
      | loop b =>
        rw [exec] at h ⊢
        cases h1 : exec E n lo b fr s with
        | none => rw [h1] at h; simp at h
        | some q =>
          rw [ih.exec h1]
          rw [h1] at h
          obtain ⟨e, fr1, s1⟩ := q
          cases e <;> first | exact ih.exec h | exact h
      | scope b =>
        rw [exec] at h ⊢
        cases h1 : exec E n lo b fr s with
        | none => rw [h1] at h; simp at h
        | some q =>
          rw [ih.exec h1]
          rw [h1] at h
          obtain ⟨e, fr1, s1⟩ := q
          cases e with
          | goto l =>
            simp only at h ⊢
            split at h
            · exact ih.scope h
            · exact h
          | _ => exact h
      | reg ops => rw [exec] at h ⊢; exact ih.ops h
      | draw ops => rw [exec] at h ⊢; exact ih.draw h
      | _ => rw [exec] at h ⊢; exact h
    · intro lo b c fr s r h
      rw [scopeRun] at h ⊢
      cases h1 : exec E n lo c fr s with
      | none => rw [h1] at h; simp at h
      | some q =>
        rw [ih.exec h1]
        rw [h1] at h
        obtain ⟨e, fr1, s1⟩ := q
        cases e with
        | goto l =>
          simp only at h ⊢
          split at h
          · exact ih.scope h
          · exact h
        | _ => exact h
    · intro lo es fr s r h
      cases es with
      | nil => simp only [execOps] at h ⊢; exact h
      | cons o es =>
        simp only [execOps] at h ⊢
        split at h
        · exact ih.ops h
        · split at h
          · split at h
            · exact ih.ops h
            · simp at h
          · split at h
            · exact ih.ops h
            · simp at h
          · split at h
            · split at h
              · rename_i hc
                rw [ih.call hc]; exact ih.ops h
              · rename_i hc
                rw [ih.call hc]; exact h
              · simp at h
            · simp at h
          · split at h
            · exact ih.ops h
            · simp at h
          · exact h
          · simp at h
          · simp at h
        · simp at h
    · intro lo k es fr H ds od nx r h
      cases es with
      | nil => simp only [execDraw] at h ⊢; exact h
      | cons x es =>
        obtain ⟨o, bf, wr⟩ := x
        simp only [execDraw] at h ⊢
        split at h
        · exact ih.draw h
        · split at h
          · split at h
            · split at h
              · exact ih.draw h
              · simp at h
            · simp at h
          · split at h
            · split at h
              · split at h
                · exact ih.draw h
                · simp at h
              · simp at h
            · split at h
              · split at h
                · split at h
                  · exact ih.draw h
                  · simp at h
                · simp at h
              · simp at h
          · split at h
            · split at h
              · split at h
                · rename_i hc
                  rw [ih.call hc]
                  simp only
                  split at h
                  · exact ih.draw h
                  · simp at h
                · simp at h
              · split at h
                · split at h
                  · rename_i hc
                    rw [ih.call hc]
                    simp only
                    split at h
                    · exact ih.draw h
                    · simp at h
                  · simp at h
                · simp at h
            · simp at h
          · simp at h
        · simp at h
    · intro lo f args s r h
      rw [callF] at h ⊢
      split at h
      · simp at h
      · split at h
        · exact h
        · split at h
          · rename_i e fr s1 hx
            rw [ih.exec hx]
            simp only
            cases e with
            | exit id => simp at h
            | goto l => simp at h
            | _ =>
              simp only at h ⊢
              split at h
              · rename_i hc; rw [ih.leave hc]; exact h
              · rename_i hc; rw [ih.leave hc]; exact h
              · simp at h
          · simp at h
    · intro lo F tm df p s r h
      cases df with
      | nil => cases p <;> (simp only [leave] at h ⊢; exact h)
      | cons d df =>
        obtain ⟨g, args⟩ := d
        simp only [leave] at h ⊢
        split at h
        · rename_i hc; rw [ih.callD hc]; exact ih.leave h
        · rename_i hc; rw [ih.callD hc]; exact ih.leave h
        · simp at h
    · intro lo f args p s r h
      rw [callD] at h ⊢
      split at h
      · simp at h
      · split at h
        · split at h
          · split at h
            · rename_i hc
              rw [ih.ops hc]
              simp only
              obtain ⟨b', s'⟩ := r
              obtain ⟨_, e, fr2, vs, hx, _⟩ := left_some h
              rw [ih.exec hx]; rw [hx] at h; exact h
            · simp at h
          · obtain ⟨b', s'⟩ := r
            obtain ⟨_, e, fr2, vs, hx, _⟩ := left_some h
            rw [ih.exec hx]; rw [hx] at h; exact h
        · simp at h
end
end Go.Ev
