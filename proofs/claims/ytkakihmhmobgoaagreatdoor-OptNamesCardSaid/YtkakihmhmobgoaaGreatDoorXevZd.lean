/- From a table of the evaluator's functions to what may be said of calls. -/
import Derived.Test.YtkakihmhmobgoaaGreatDoorXevZc
namespace Go.Ev

def Tr.keys {α : Type} : Tr α → List Nat
  | .lf => []
  | .nd l v r => (match v with | some _ => [0] | none => []) ++ (l.keys.map fun m => 2 * m + 1) ++ (r.keys.map fun m => 2 * m + 2)
theorem Tr.get_keys {α : Type} : ∀ {t : Tr α} {n : Nat} {x : α}, t.get n = some x → n ∈ t.keys
  | .lf, _, _, h => by simp at h
  | .nd l v r, n, x, h => by
    simp only [Tr.get] at h
    simp only [Tr.keys, List.mem_append, List.mem_map]
    split at h
    · rename_i h0
      have : n = 0 := Nat.eq_of_beq_eq_true h0
      subst this
      rw [h]; simp
    · rename_i h0
      have hn : n ≠ 0 := Nat.ne_of_beq_eq_false h0
      split at h
      · rename_i h1
        have : n % 2 = 1 := Nat.eq_of_beq_eq_true h1
        exact .inl (.inr ⟨n / 2, Tr.get_keys h, by omega⟩)
      · rename_i h1
        have : n % 2 ≠ 1 := Nat.ne_of_beq_eq_false h1
        exact .inr ⟨n / 2 - 1, Tr.get_keys h, by omega⟩

/-- The evaluator's function for a program's. -/
def codeOf (P : Program) (k : Nat) : Option EFunc :=
  match P.funcs[k]? with
  | some fn => if fn.name == "runtime.NumGoroutine" || fn.body.isNone then none else ofFunc P false fn
  | none => none
def tblOk (t : Tr EFunc) (ks : List Nat) : Bool := ks.all fun k => match t.get k with | some F => F.body.ok F.ntmps | none => true
def OwnOk (P : Program) (gl : Nat → AV) (f : FuncId) (o : Own) : Prop := ∀ (lo : Nat) (args : List AV) (s : St) (out : AOut) (s' : St) (us : List Value) (ι : Emb) (w : World) (Z : Nat → Prop),
    ownRun lo s o args = some (out, s') → Rel ι w Z s.nx s.H.get → GlR ι w Z gl → VRs ι w Z s.nx args us → Calls P f us.toArray w (PostC lo ι w Z s out s')
/-- The functions of a table that aren't run by their text. -/
def owns (t : Tr EFunc) : List (Nat × Own) := t.keys.filterMap fun k => match t.get k with | some F => F.own.map (k, ·) | none => none

theorem envOk_of {P : Program} {t : Tr EFunc} {gl : Nat → AV} (h : t.keys.map (codeOf P) = t.keys.map t.get) (hok : tblOk t t.keys = true) (hm : P.follows .mixedOrders = true) (hown : ∀ p ∈ owns t, OwnOk P gl p.1 p.2) : EnvOk P { gl, fns := t.get } := by
  have key : ∀ f F, t.get f = some F → codeOf P f = some F ∧ F.body.ok F.ntmps = true := by
    intro f F hF
    have hk := Tr.get_keys hF
    refine ⟨?_, ?_⟩
    · rw [← hF]
      exact (List.map_inj_left.1 h) f hk
    · simp only [tblOk, List.all_eq_true] at hok
      have := hok f hk
      rw [hF] at this
      exact this
  refine ⟨?_, ?_, hm⟩
  · intro f F hF
    obtain ⟨h1, h2⟩ := key f F hF
    unfold codeOf at h1
    split at h1
    · rename_i fn hfn
      split at h1
      · simp at h1
      · rename_i hc
        simp only [Bool.or_eq_true, not_or, Bool.not_eq_true] at hc
        refine ⟨fn, hfn, hc.1, hc.2, fun h3 => ?_⟩
        unfold ofFunc at h1
        split at h1
        · simp only [Option.map_eq_some_iff] at h1; obtain ⟨_, _, rfl⟩ := h1; simp at h3
        · split at h1
          · simp only [Option.map_eq_some_iff] at h1; obtain ⟨_, _, rfl⟩ := h1; simp at h3
          · split at h1
            · rename_i c r hb hr
              simp only [Option.some.injEq] at h1; subst h1
              simp only [Option.bind_eq_some_iff] at hb
              obtain ⟨cc, hb1, hb2⟩ := hb
              exact ⟨cc, hb1, hb2, hr, h2⟩
            · simp at h1
    · simp at h1
  · intro f F o hF ho
    exact hown (f, o) (List.mem_filterMap.2 ⟨f, Tr.get_keys hF, by
      have hF' : t.get f = some F := hF
      simp [hF', ho]⟩)

/-- A world of which nothing is known but some memory that isn't written. -/
theorem rel_start {ι : Emb} {w : World} {Z : Nat → Prop} (hz : ∀ b, Z b → b < w.heap.size) : Rel ι w Z 0 (Tr.lf : Tr ABlk).get :=
  ⟨fun id b h => by simp at h, fun i j b c h => by simp at h, hz⟩
theorem glR_bad {ι : Emb} {w : World} {Z : Nat → Prop} : GlR ι w Z (fun _ => .bad) := fun g => .bad _ _

/-- What a call without arguments that answers a plain truth leaves: all that was there. -/
theorem truth_of {P : Program} {E : Env} (he : EnvOk P E) {n : Nat} {f : FuncId} {b : Bool} {s' : St} (h : callF E n 0 f [] ⟨.lf, 0⟩ = some (.ret (.bool b), s')) {ι : Emb} {w : World} {Z : Nat → Prop} (hz : ∀ b, Z b → b < w.heap.size) (hgl : GlR ι w Z E.gl) :
    Calls P f #[] w fun e w' => e = .returned (.bool b) ∧ (∀ k, k < w.heap.size → w'.heap[k]? = w.heap[k]?) ∧ w.heap.size ≤ w'.heap.size ∧ w'.os = w.os ∧ w'.tape = w.tape ∧ w'.output = w.output := by
  have := callF_sound he h (rel_start hz) hgl (us := []) (.nil _)
  refine Calls.mono this ?_
  rintro e w' ⟨ι', Z', h1, _, h3⟩
  cases h1 with
  | ret _ u hv =>
    cases hv
    exact ⟨rfl, fun k hk => h3.kept k hk fun id _ hs => by simp at hs, h3.size, h3.os, h3.tape, h3.output⟩
/-- Whether a call answers so. -/
def answers (b : Bool) : Option (AOut × St) → Bool
  | some (.ret (.bool c), _) => b == c
  | _ => false
theorem answers_some {b : Bool} {r : Option (AOut × St)} (h : answers b r = true) : ∃ s', r = some (.ret (.bool b), s') := by
  unfold answers at h
  split at h
  · simp at h; subst h; exact ⟨_, rfl⟩
  · simp at h
end Go.Ev
