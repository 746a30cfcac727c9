/- From an evaluated call to what a law's claim asks: the call answers true, and the arguments read as they read before. -/
import Derived.Test.YtkakihmhmobgoaaGreatDoorXevZh
import Derived.ProofKit
import Derived.OpenShut
import Derived.ChangeSame
namespace Go.Ev
open Go.ChangeShapes Go.WideShapes Go.ChangeAt Go.RowKit

section
variable {H : Type} {enc : TypeId × Value → H} {P : Program}

/-- All memory that was there is as it was. -/
structure Kept (W W' : World) : Prop where
  heap : ∀ k, k < W.heap.size → W'.heap[k]? = W.heap[k]?
  size : W.heap.size ≤ W'.heap.size
  os : W'.os = W.os
  output : W'.output = W.output

theorem Kept.frame {W W' : World} (h : Kept W W') (may : MemPlace → Prop) : W.keptBut W' may := by
  refine ⟨h.os, h.output, fun i hi => ?_⟩
  rw [h.heap i hi]
  cases hx : W.heap[i]? with
  | none => rfl
  | some o => cases o <;> first | exact ⟨rfl, rfl, rfl, fun _ _ => rfl⟩ | exact .inr ⟨rfl, rfl⟩ | rfl
theorem Kept.same {W W' : World} (h : Kept W W') {p : MemPlace} (hp : p.block < W.heap.size) : W.sameAt W' p := by
  cases p with
  | cell b o => exact cell_of_heap (a := ⟨b, o, none⟩) (h.heap b hp)
  | map b => exact h.heap b hp

theorem trodAll_kept {W W' : World} (h : Kept W W') (K : Kids P (· < P.types.size)) (hz : ∀ t e, t < P.types.size → P.underlying t = some (.slice e) → 0 < P.cellsOf e) {spare : Nat → Bool} :
    ∀ {ts : List TypeId} {vs : List Value} {ds : List (DataW H)} {ps : List MemPlace}, (∀ t ∈ ts, t < P.types.size) → DataW.TrodAll enc P W 0 (fun _ => true) true ts vs ds ps → (∀ p ∈ ps, p.block < W.heap.size) → (∀ p ∈ ps, spare p.block = true) →
      DataW.TrodAll enc P W' 0 spare true ts vs ds ps := by
  intro ts vs ds ps hts hA hlt hsp
  have h1 := DataW.TrodAll.respare (spare' := spare) K hz hts hA hsp
  clear hA hts
  induction ts generalizing vs ds ps with
  | nil => cases vs <;> cases ds <;> first | exact h1 | simp [DataW.TrodAll] at h1
  | cons t ts ih =>
    cases vs with
    | nil => simp [DataW.TrodAll] at h1
    | cons v vs =>
      cases ds with
      | nil => simp [DataW.TrodAll] at h1
      | cons d ds =>
        obtain ⟨p, q, ⟨n, h2⟩, h3, rfl⟩ := h1
        exact ⟨p, q, ⟨n, DataW.trod_carry n _ _ _ h2 fun x hx => h.same (hlt x (List.mem_append_left _ hx))⟩, ih (fun x hx => hlt x (List.mem_append_right _ hx)) (fun x hx => hsp x (List.mem_append_right _ hx)) h3, rfl⟩

/-- What a law's claim asks behind the call. -/
theorem law_post {f : Func} {s : ChangeSpec} {apart fresh handsOn again : Bool} {W W' : World} {args : Array Value} {ds gs : List (DataW H)} {before : List MemPlace} {tb : TypeId}
    (hW : DataW.Whole enc P f.params.toList s.vars apart W args.toList ds gs before) (hv : s.vars = []) (hfn : s.fn H ds = { results := [.lit (.bool true)], args := ds })
    (hr : f.resultTypes = #[tb]) (hb : P.underlying tb = some .bool) (K : Kids P (· < P.types.size)) (hz : ∀ t e, t < P.types.size → P.underlying t = some (.slice e) → 0 < P.cellsOf e)
    (hps : ∀ t ∈ f.params.toList, t < P.types.size) (hk : Kept W W') : s.post enc P f apart fresh handsOn again W args (.bool true) W' := by
  have hlt := hW.lt
  have hW' := hW
  obtain ⟨p, q, hA, hV, rfl, hfz, hnd⟩ := hW
  rw [hv] at hV
  obtain ⟨rfl, rfl⟩ := trodVars_none hV
  simp only [List.append_nil] at hW' hlt hfz hnd
  have hfn' : s.fn H (ds ++ []) = { results := [.lit (.bool true)], args := ds } := by rw [List.append_nil]; exact hfn
  have hargs : ∀ sp : Nat → Bool, (∀ x ∈ p, sp x.block = true) → DataW.TrodAll enc P W' 0 sp true f.params.toList args.toList ds p := fun sp hsp => trodAll_kept hk K hz hps hA hlt hsp
  have hres : ∀ (b : Nat) (sp : Nat → Bool) (hd : Bool), DataW.TrodAll enc P W' b sp hd f.resultTypes.toList ((Value.bool true).resultList f.resultTypes.size) [.lit (.bool true)] [] := by
    intro b sp hd
    rw [hr]
    exact trodAll_cons_mk (shut_bool hb _) trodAll_mk0
  refine ⟨ds, [], p, [], p, [], hW', by rw [hfn']; exact hres _ _ _, by rw [hfn']; exact hargs _ (fun x hx => by simpa using hlt x hx), by rw [hfn', hv]; rfl, hk.frame _, fun _ => ?_⟩
  refine ⟨ok_one hr rfl (okWide_bool_mk hb _), _, [], [] ++ p, ⟨[] ++ p, [], trodAll_append (hargs _ fun _ _ => rfl) (hres _ _ _), by rw [hv]; rfl, by simp, ?_, ?_⟩, ?_⟩
  · intro b off hx
    have hx' : MemPlace.cell b off ∈ p := by simpa using hx
    have := hfz b off hx'
    rw [← this]
    exact frozen_of_heap (a := ⟨b, off, none⟩) (hk.heap b (hlt _ hx'))
  · intro ha
    simpa using hnd ha
  · intro x hx _
    simpa using hx

/-- The blocks that a claim's arguments lie in. -/
theorem whole_trod {ts : List TypeId} {vars : List String} {apart : Bool} {W : World} {vs : List Value} {ds gs : List (DataW H)} {before : List MemPlace} (h : DataW.Whole enc P ts vars apart W vs ds gs before) :
    ∃ p, DataW.TrodAll enc P W 0 (fun _ => true) true ts vs ds p ∧ ∀ x ∈ p, x.block < W.heap.size := by
  have hlt := h.lt
  obtain ⟨p, q, hA, _, rfl, _⟩ := h
  exact ⟨p, hA, fun x hx => hlt x (List.mem_append_left _ hx)⟩

/-- An evaluated call that answers a plain truth, over memory that isn't written. -/
theorem law_call {E : Env} (he : EnvOk P E) {n : Nat} {f : FuncId} {xs : List AV} {us : Array Value} {s' : St} {w : World} {ι : Emb} {Z : Nat → Prop} (h : callF E n 0 f xs ⟨.lf, 0⟩ = some (.ret (.bool true), s')) (hz : ∀ b, Z b → b < w.heap.size)
    (hgl : GlR ι w Z E.gl) (hv : VRs ι w Z 0 xs us.toList) : Calls P f us w fun e w' => e = .returned (.bool true) ∧ Kept w w' := by
  have := callF_sound he h (rel_start hz) hgl hv
  refine Calls.mono this ?_
  rintro e w' ⟨ι', Z', h1, _, h3⟩
  cases h1 with
  | ret _ u hv =>
    cases hv
    exact ⟨rfl, ⟨fun k hk => h3.kept k hk fun id _ hs => by simp at hs, h3.size, h3.os, h3.output⟩⟩
end
end Go.Ev
