/-
  LowerChecks: which rows may be is told by the program as the document says: the law answers true at every program of rows, and its argument reads as it did. The way: the evaluator (the texts Xev..: it computes with the given program's code and is proved sound against the model); what each function answers at any argument was shown by steps through its code (the texts Lc..); here they are told, one upon the other, and the law's probe is run by the kernel.
-/
import Derived.Test.YtkalflplonnhmaaGreatDoorRows
import Derived.Test.YtkalflplonnhmaaGreatDoorLcE
import Derived.KernelRfl
namespace Go.Proofs.YtkalflplonnhmaaGreatDoor.lowerChecks
open Go.Ev Go.Ev.Lc
set_option maxRecDepth 100000
set_option linter.all false

def gl : Nat → AV := fun _ => .bad
def env : Env := { gl, fns := Tab.tbl.get }
theorem keys : tblOk Tab.tbl Tab.tbl.keys = true := by kernel_rfl
theorem mixed : Tryz.prog.follows .mixedOrders = true := by kernel_rfl
theorem codes : Tab.tbl.keys.map (codeOf Tryz.prog) = Tab.tbl.keys.map Tab.tbl.get := by kernel_rfl
theorem ownsAre : owns Tab.tbl = [] := by kernel_rfl
theorem envOk : EnvOk Tryz.prog env := envOk_of codes keys mixed (fun p hp => by rw [ownsAre] at hp; cases hp)
def E0 : Env := pures env [19, 23, 49, 54, 57, 60, 61, 81, 82, 84, 119, 145]
theorem ok0 : EnvOk Tryz.prog E0 := envOk_pures envOk
/-- THE PROBE, run by the kernel. -/
theorem probe : answers true (callF env 1000000 0 12 [] ⟨.lf, 0⟩) = true := by kernel_rfl
theorem own12 : OwnOk Tryz.prog gl 12 (.said truth) := said_truth envOk probe
/-! ### tables, run at each of their keys -/
theorem keys120 (E : Env) (h : E.fns 120 = E0.fns 120) : ∀ op ∈ unaccKeys, AnsK E0 0 120 [K op] s0 (ans (accV op)) := fun op hop => ansK_of (n := 1000) (List.all_eq_true.1 (by kernel_rfl : (unaccKeys.all fun op => answersV (accV op) (callF E0 1000 0 120 [K op] s0)) = true) op hop)
theorem keys118 : ∀ op ∈ unaccKeys, AnsK E0 0 118 [K op] s0 (ans (accV op)) := fun op hop => ansK_of (n := 1000) (List.all_eq_true.1 (by kernel_rfl : (unaccKeys.all fun op => answersV (accV op) (callF E0 1000 0 118 [K op] s0)) = true) op hop)
theorem groups145 : AnsK E0 0 145 [] s0 (ans (.lst (groupsL.map encG))) := ansK_of (n := 1000) (by kernel_rfl)
theorem own83 : OwnOk Tryz.prog gl 83 (.said q83) := said_ans ok0 fun args v h => by
  obtain ⟨n, rfl, rfl⟩ := inv83 h
  exact ⟨rfl, rfl, t83 E0 (by kernel_rfl) n⟩
theorem own78 : OwnOk Tryz.prog gl 78 (.said q83) := said_ans ok0 fun args v h => by
  obtain ⟨n, rfl, rfl⟩ := inv83 h
  exact ⟨rfl, rfl, t78 E0 (by kernel_rfl) n⟩
theorem own30 : OwnOk Tryz.prog gl 30 (.said q30) := said_ans ok0 fun args v h => by
  obtain ⟨n, rfl, rfl⟩ := inv30 h
  exact ⟨rfl, rfl, t30 E0 (by kernel_rfl) n⟩
theorem own91 : OwnOk Tryz.prog gl 91 (.said q91) := said_ans ok0 fun args v h => by
  obtain ⟨t, n, rfl, rfl⟩ := inv91 h
  exact ⟨rfl, rfl, t91 E0 (by kernel_rfl) t n⟩
theorem own149 : OwnOk Tryz.prog gl 149 (.said q149) := said_ans ok0 fun args v h => by
  obtain ⟨x, a, b, rfl, rfl⟩ := inv149 h
  exact ⟨rfl, rfl, t149 E0 (by kernel_rfl) x a b⟩
theorem own62 : OwnOk Tryz.prog gl 62 (.said q62) := said_ans ok0 fun args v h => by
  obtain ⟨a, b, rfl, hs, rfl⟩ := inv62 h
  exact ⟨rfl, rfl, t62 E0 (by kernel_rfl) a b hs⟩
theorem own32 : OwnOk Tryz.prog gl 32 (.said q62) := said_ans ok0 fun args v h => by
  obtain ⟨a, b, rfl, hs, rfl⟩ := inv62 h
  exact ⟨rfl, rfl, t32 E0 (by kernel_rfl) a b hs⟩
theorem own28 : OwnOk Tryz.prog gl 28 (.said q28) := said_ans ok0 fun args v h => by
  obtain ⟨l, n, u, rfl, hs, rfl⟩ := inv28 h
  exact ⟨rfl, rfl, t28 E0 (by kernel_rfl) l hs n u⟩
theorem own120 : OwnOk Tryz.prog gl 120 (.said q120) := said_ans ok0 fun args v h => by
  obtain ⟨n, rfl, rfl⟩ := inv120 h
  exact ⟨shut_accV n, rfl, t120 E0 (by kernel_rfl) (keys120 E0 rfl) n⟩
theorem own118 : OwnOk Tryz.prog gl 118 (.said q120) := said_ans ok0 fun args v h => by
  obtain ⟨n, rfl, rfl⟩ := inv120 h
  exact ⟨shut_accV n, rfl, t118 E0 (by kernel_rfl) (by kernel_rfl) keys118 n⟩
theorem own145 : OwnOk Tryz.prog gl 145 (.said q145) := said_ans ok0 fun args v h => by
  cases args with
  | nil =>
    simp only [q145, Option.some.injEq] at h
    subst h
    exact ⟨rfl, rfl, groups145⟩
  | cons => simp [q145] at h
noncomputable def E58 : Env := tell E0 [(83, q83)]
theorem ok58 : EnvOk Tryz.prog E58 := envOk_tell ok0 (by
  intro p hp
  simp only [List.mem_cons, List.not_mem_nil, or_false] at hp
  rcases hp with rfl
  · exact ⟨by kernel_rfl, own83⟩)
theorem own58 : OwnOk Tryz.prog gl 58 (.said q58) := said_ans ok58 fun args v h => by
  obtain ⟨l, n, rfl, hs, rfl⟩ := inv58 h
  exact ⟨rfl, rfl, t58 E58 (by kernel_rfl) (toldBy_of (by kernel_rfl)) l hs n⟩
noncomputable def E58x : Env := tell E0 [(83, q83)]
theorem ok58x : EnvOk Tryz.prog E58x := envOk_tell ok0 (by
  intro p hp
  simp only [List.mem_cons, List.not_mem_nil, or_false] at hp
  rcases hp with rfl
  · exact ⟨by kernel_rfl, own83⟩)
theorem own58x : OwnOk Tryz.prog gl 58 (.said q58x) := said_ans ok58x fun args v h => by
  rcases inv58x h with ⟨n, rfl, rfl⟩ | ⟨l, n, rfl, hs, rfl⟩
  · exact ⟨rfl, rfl, t58n E58x (by kernel_rfl) n⟩
  · exact ⟨rfl, rfl, t58 E58x (by kernel_rfl) (toldBy_of (by kernel_rfl)) l hs n⟩
noncomputable def E59 : Env := tell E0 [(58, q58)]
theorem ok59 : EnvOk Tryz.prog E59 := envOk_tell ok0 (by
  intro p hp
  simp only [List.mem_cons, List.not_mem_nil, or_false] at hp
  rcases hp with rfl
  · exact ⟨by kernel_rfl, own58⟩)
theorem own59 : OwnOk Tryz.prog gl 59 (.said q59) := said_ans ok59 fun args v h => by
  obtain ⟨s, rfl, hs, rfl⟩ := inv59 h
  simp only [sigShort, Bool.and_eq_true] at hs
  exact ⟨rfl, rfl, t59 E59 (by kernel_rfl) (toldBy_of (by kernel_rfl)) s hs.1 hs.2⟩
noncomputable def E33 : Env := tell E0 [(62, q62)]
theorem ok33 : EnvOk Tryz.prog E33 := envOk_tell ok0 (by
  intro p hp
  simp only [List.mem_cons, List.not_mem_nil, or_false] at hp
  rcases hp with rfl
  · exact ⟨by kernel_rfl, own62⟩)
theorem own33 : OwnOk Tryz.prog gl 33 (.said q33) := said_ans ok33 fun args v h => by
  obtain ⟨a, b, rfl, hs, rfl⟩ := inv33 h
  simp only [sigShort, Bool.and_eq_true] at hs
  exact ⟨rfl, rfl, t33 E33 (by kernel_rfl) (toldBy_of (by kernel_rfl)) a b hs.1 hs.2⟩
noncomputable def E147 : Env := tell E0 [(149, q149)]
theorem ok147 : EnvOk Tryz.prog E147 := envOk_tell ok0 (by
  intro p hp
  simp only [List.mem_cons, List.not_mem_nil, or_false] at hp
  rcases hp with rfl
  · exact ⟨by kernel_rfl, own149⟩)
theorem own147 : OwnOk Tryz.prog gl 147 (.said q147) := said_ans ok147 fun args v h => by
  obtain ⟨n, rfl, rfl⟩ := inv147 h
  exact ⟨rfl, rfl, t147 E147 (by kernel_rfl) (toldBy_of (by kernel_rfl)) n⟩
noncomputable def E148 : Env := tell E0 [(149, q149)]
theorem ok148 : EnvOk Tryz.prog E148 := envOk_tell ok0 (by
  intro p hp
  simp only [List.mem_cons, List.not_mem_nil, or_false] at hp
  rcases hp with rfl
  · exact ⟨by kernel_rfl, own149⟩)
theorem own148 : OwnOk Tryz.prog gl 148 (.said q148) := said_ans ok148 fun args v h => by
  obtain ⟨n, rfl, rfl⟩ := inv148 h
  exact ⟨rfl, rfl, t148 E148 (by kernel_rfl) (toldBy_of (by kernel_rfl)) n⟩
noncomputable def E119 : Env := tell E0 [(147, q147), (148, q148), (149, q149)]
theorem ok119 : EnvOk Tryz.prog E119 := envOk_tell ok0 (by
  intro p hp
  simp only [List.mem_cons, List.not_mem_nil, or_false] at hp
  rcases hp with rfl | rfl | rfl
  · exact ⟨by kernel_rfl, own147⟩
  · exact ⟨by kernel_rfl, own148⟩
  · exact ⟨by kernel_rfl, own149⟩)
theorem own119 : OwnOk Tryz.prog gl 119 (.said q119) := said_ans ok119 fun args v h => by
  obtain ⟨n, rfl, rfl⟩ := inv119 h
  exact ⟨shut_sigV n, rfl, t119 E119 (by kernel_rfl) (toldBy_of (by kernel_rfl)) (toldBy_of (by kernel_rfl)) (toldBy_of (by kernel_rfl)) n⟩
noncomputable def E84 : Env := tell E0 [(119, q119), (120, q120), (91, q91)]
theorem ok84 : EnvOk Tryz.prog E84 := envOk_tell ok0 (by
  intro p hp
  simp only [List.mem_cons, List.not_mem_nil, or_false] at hp
  rcases hp with rfl | rfl | rfl
  · exact ⟨by kernel_rfl, own119⟩
  · exact ⟨by kernel_rfl, own120⟩
  · exact ⟨by kernel_rfl, own91⟩)
theorem own84 : OwnOk Tryz.prog gl 84 (.said q84) := said_ans ok84 fun args v h => by
  obtain ⟨e, op, n, rfl, ⟨hs, hm, hn⟩, rfl⟩ := inv84 h
  exact ⟨shut_formV e op _, rfl, t84 E84 (by kernel_rfl) (toldBy_of (by kernel_rfl)) (toldBy_of (by kernel_rfl)) (toldBy_of (by kernel_rfl)) e hs hm op n hn⟩
noncomputable def E60 : Env := tell E0 [(84, q84)]
theorem ok60 : EnvOk Tryz.prog E60 := envOk_tell ok0 (by
  intro p hp
  simp only [List.mem_cons, List.not_mem_nil, or_false] at hp
  rcases hp with rfl
  · exact ⟨by kernel_rfl, own84⟩)
theorem own60 : OwnOk Tryz.prog gl 60 (.said q60) := said_ans ok60 fun args v h => by
  obtain ⟨e, s, c, rfl, ⟨hs, hm, hn⟩, rfl⟩ := inv60 h
  exact ⟨shut_form60V e s _ _, rfl, t60 E60 (by kernel_rfl) (toldBy_of (by kernel_rfl)) e hs hm s c hn⟩
noncomputable def E29 : Env := tell E0 [(60, q60), (28, q28)]
theorem ok29 : EnvOk Tryz.prog E29 := envOk_tell ok0 (by
  intro p hp
  simp only [List.mem_cons, List.not_mem_nil, or_false] at hp
  rcases hp with rfl | rfl
  · exact ⟨by kernel_rfl, own60⟩
  · exact ⟨by kernel_rfl, own28⟩)
theorem own29 : OwnOk Tryz.prog gl 29 (.said q29) := said_ans ok29 fun args v h => by
  obtain ⟨e, r, i, c, rfl, hc, ⟨hs, hm, hn, hcs⟩, rfl⟩ := inv29 h
  exact ⟨rfl, rfl, t29 E29 (by kernel_rfl) (toldBy_of (by kernel_rfl)) (toldBy_of (by kernel_rfl)) e hs hm r i c hc hn hcs⟩
theorem own61 : OwnOk Tryz.prog gl 61 (.said q61) := said_ans ok0 fun args v h => by
  obtain ⟨r, i, c, rfl, hc, hs, rfl⟩ := inv61 h
  simp only [Bool.and_eq_true] at hs
  exact ⟨shut_nextV c i, rfl, t61 E0 (by kernel_rfl) r hs.1 i c hc hs.2⟩
theorem own57 : OwnOk Tryz.prog gl 57 (.said q61) := said_ans ok0 fun args v h => by
  obtain ⟨r, i, c, rfl, hc, hs, rfl⟩ := inv61 h
  simp only [Bool.and_eq_true] at hs
  exact ⟨shut_nextV c i, rfl, t57 E0 (by kernel_rfl) r hs.1 i c hc hs.2⟩
noncomputable def E31 : Env := tell E0 [(61, q61)]
theorem ok31 : EnvOk Tryz.prog E31 := envOk_tell ok0 (by
  intro p hp
  simp only [List.mem_cons, List.not_mem_nil, or_false] at hp
  rcases hp with rfl
  · exact ⟨by kernel_rfl, own61⟩)
theorem own31 : OwnOk Tryz.prog gl 31 (.said q31) := said_ans ok31 fun args v h => by
  obtain ⟨r, rfl, ⟨hn, hin, hts⟩, rfl⟩ := inv31 h
  exact ⟨rfl, rfl, t31 E31 (by kernel_rfl) (toldBy_of (by kernel_rfl)) r hn hin hts⟩
noncomputable def E9 : Env := tell E0 [(58, q58x), (59, q59), (28, q28), (29, q29), (30, q30), (31, q31)]
theorem ok9 : EnvOk Tryz.prog E9 := envOk_tell ok0 (by
  intro p hp
  simp only [List.mem_cons, List.not_mem_nil, or_false] at hp
  rcases hp with rfl | rfl | rfl | rfl | rfl | rfl
  · exact ⟨by kernel_rfl, own58x⟩
  · exact ⟨by kernel_rfl, own59⟩
  · exact ⟨by kernel_rfl, own28⟩
  · exact ⟨by kernel_rfl, own29⟩
  · exact ⟨by kernel_rfl, own30⟩
  · exact ⟨by kernel_rfl, own31⟩)
theorem own9 : OwnOk Tryz.prog gl 9 (.said q9) := said_ans ok9 fun args v h => by
  obtain ⟨e, r, rfl, ⟨hs, ho⟩, rfl⟩ := inv9 h
  exact ⟨rfl, rfl, t9 E9 (by kernel_rfl) (by kernel_rfl) (toldBy_of (by kernel_rfl)) (toldBy_of (by kernel_rfl)) (toldBy_of (by kernel_rfl)) (toldBy_of (by kernel_rfl)) (toldBy_of (by kernel_rfl)) (toldBy_of (by kernel_rfl)) e hs r ho⟩
theorem own20 : OwnOk Tryz.prog gl 20 (.said q20) := said_ans ok0 fun args v h => by
  obtain ⟨n, l, rfl, hs, rfl⟩ := inv20 h
  exact ⟨rfl, rfl, t20 E0 (by kernel_rfl) (by kernel_rfl) (by kernel_rfl) (by kernel_rfl) n l hs⟩
theorem own25 : OwnOk Tryz.prog gl 25 (.said q25) := said_ans ok0 fun args v h => by
  obtain ⟨l, x, rfl, hs, rfl⟩ := inv25 h
  exact ⟨rfl, rfl, t25 E0 (by kernel_rfl) (by kernel_rfl) l hs x⟩
noncomputable def E21 : Env := tell E0 [(25, q25)]
theorem ok21 : EnvOk Tryz.prog E21 := envOk_tell ok0 (by
  intro p hp
  simp only [List.mem_cons, List.not_mem_nil, or_false] at hp
  rcases hp with rfl
  · exact ⟨by kernel_rfl, own25⟩)
theorem own21 : OwnOk Tryz.prog gl 21 (.said q21) := said_ans ok21 fun args v h => by
  obtain ⟨l, rfl, hs, rfl⟩ := inv21 h
  exact ⟨rfl, rfl, t21 E21 (by kernel_rfl) (toldBy_of (by kernel_rfl)) l hs⟩
noncomputable def E47 : Env := tell E0 [(78, q83)]
theorem ok47 : EnvOk Tryz.prog E47 := envOk_tell ok0 (by
  intro p hp
  simp only [List.mem_cons, List.not_mem_nil, or_false] at hp
  rcases hp with rfl
  · exact ⟨by kernel_rfl, own78⟩)
theorem own47 : OwnOk Tryz.prog gl 47 (.said q47) := said_ans ok47 fun args v h => by
  obtain ⟨l, n, rfl, hs, rfl⟩ := inv47 h
  exact ⟨rfl, rfl, t47 E47 (by kernel_rfl) (by kernel_rfl) (by kernel_rfl) (by kernel_rfl) (toldBy_of (by kernel_rfl)) n l hs⟩
noncomputable def E47x : Env := tell E0 [(78, q83)]
theorem ok47x : EnvOk Tryz.prog E47x := envOk_tell ok0 (by
  intro p hp
  simp only [List.mem_cons, List.not_mem_nil, or_false] at hp
  rcases hp with rfl
  · exact ⟨by kernel_rfl, own78⟩)
theorem own47x : OwnOk Tryz.prog gl 47 (.said q47x) := said_ans ok47x fun args v h => by
  rcases inv47x h with ⟨rfl, rfl⟩ | ⟨l, n, rfl, hs, rfl⟩
  · exact ⟨rfl, rfl, t47n E47x (by kernel_rfl) (by kernel_rfl) (by kernel_rfl)⟩
  · exact ⟨rfl, rfl, t47 E47x (by kernel_rfl) (by kernel_rfl) (by kernel_rfl) (by kernel_rfl) (toldBy_of (by kernel_rfl)) n l hs⟩
noncomputable def E50 : Env := tell E0 [(47, q47)]
theorem ok50 : EnvOk Tryz.prog E50 := envOk_tell ok0 (by
  intro p hp
  simp only [List.mem_cons, List.not_mem_nil, or_false] at hp
  rcases hp with rfl
  · exact ⟨by kernel_rfl, own47⟩)
theorem own50 : OwnOk Tryz.prog gl 50 (.said q59) := said_ans ok50 fun args v h => by
  obtain ⟨s, rfl, hs, rfl⟩ := inv59 h
  simp only [sigShort, Bool.and_eq_true] at hs
  exact ⟨rfl, rfl, t50 E50 (by kernel_rfl) (toldBy_of (by kernel_rfl)) s hs.1 hs.2⟩
noncomputable def E81 : Env := tell E0 [(145, q145)]
theorem ok81 : EnvOk Tryz.prog E81 := envOk_tell ok0 (by
  intro p hp
  simp only [List.mem_cons, List.not_mem_nil, or_false] at hp
  rcases hp with rfl
  · exact ⟨by kernel_rfl, own145⟩)
theorem keys81 : ∀ op ∈ sigKeys, AnsK E81 0 81 [K op] s0 (ans (sigV op)) := fun op hop => ansK_of (n := 10000) (List.all_eq_true.1 (by kernel_rfl : (sigKeys.all fun op => answersV (sigV op) (callF E81 10000 0 81 [K op] s0)) = true) op hop)
theorem own81 : OwnOk Tryz.prog gl 81 (.said q81) := said_ans ok81 fun args v h => by
  obtain ⟨n, rfl, hw, rfl⟩ := inv81 h
  exact ⟨shut_sigV n, rfl, t81 E81 (by kernel_rfl) (by kernel_rfl) (toldBy_of (by kernel_rfl)) keys81 n hw⟩
noncomputable def E82 : Env := tell E0 [(118, q120)]
theorem ok82 : EnvOk Tryz.prog E82 := envOk_tell ok0 (by
  intro p hp
  simp only [List.mem_cons, List.not_mem_nil, or_false] at hp
  rcases hp with rfl
  · exact ⟨by kernel_rfl, own118⟩)
theorem own82 : OwnOk Tryz.prog gl 82 (.said q82) := said_ans ok82 fun args v h => by
  obtain ⟨n, b, rfl, rfl⟩ := inv82 h
  exact ⟨shut_memV n b, rfl, t82 E82 (by kernel_rfl) (toldBy_of (by kernel_rfl)) n b⟩
noncomputable def E54 : Env := tell E0 [(81, q81), (82, q82)]
theorem ok54 : EnvOk Tryz.prog E54 := envOk_tell ok0 (by
  intro p hp
  simp only [List.mem_cons, List.not_mem_nil, or_false] at hp
  rcases hp with rfl | rfl
  · exact ⟨by kernel_rfl, own81⟩
  · exact ⟨by kernel_rfl, own82⟩)
theorem own54 : OwnOk Tryz.prog gl 54 (.said q54) := said_ans ok54 fun args v h => by
  obtain ⟨e, s, op, n, rfl, ⟨⟨hs, hm⟩, hw⟩, rfl⟩ := inv54 h
  exact ⟨shut_shapeV e s op _, rfl, t54 E54 (by kernel_rfl) (toldBy_of (by kernel_rfl)) (toldBy_of (by kernel_rfl)) e hs hm s op hw n⟩
noncomputable def E24 : Env := tell E0 [(54, q54), (20, q20), (21, q21)]
theorem ok24 : EnvOk Tryz.prog E24 := envOk_tell ok0 (by
  intro p hp
  simp only [List.mem_cons, List.not_mem_nil, or_false] at hp
  rcases hp with rfl | rfl | rfl
  · exact ⟨by kernel_rfl, own54⟩
  · exact ⟨by kernel_rfl, own20⟩
  · exact ⟨by kernel_rfl, own21⟩)
theorem own24 : OwnOk Tryz.prog gl 24 (.said q24) := said_ans ok24 fun args v h => by
  obtain ⟨e, r, c, rfl, ⟨hs, hm, hc, hw⟩, rfl⟩ := inv24 h
  exact ⟨rfl, rfl, t24 E24 (by kernel_rfl) (toldBy_of (by kernel_rfl)) (toldBy_of (by kernel_rfl)) (toldBy_of (by kernel_rfl)) e hs hm r c hc hw⟩
noncomputable def E26 : Env := tell E0 [(57, q61)]
theorem ok26 : EnvOk Tryz.prog E26 := envOk_tell ok0 (by
  intro p hp
  simp only [List.mem_cons, List.not_mem_nil, or_false] at hp
  rcases hp with rfl
  · exact ⟨by kernel_rfl, own57⟩)
theorem own26 : OwnOk Tryz.prog gl 26 (.said q26) := said_ans ok26 fun args v h => by
  obtain ⟨r, rfl, ⟨hn, hin, hts⟩, rfl⟩ := inv26 h
  exact ⟨rfl, rfl, t26 E26 (by kernel_rfl) (by kernel_rfl) (toldBy_of (by kernel_rfl)) r hn hin hts⟩
noncomputable def E8 : Env := tell E0 [(47, q47x), (50, q59), (20, q20), (21, q21), (24, q24), (26, q26)]
theorem ok8 : EnvOk Tryz.prog E8 := envOk_tell ok0 (by
  intro p hp
  simp only [List.mem_cons, List.not_mem_nil, or_false] at hp
  rcases hp with rfl | rfl | rfl | rfl | rfl | rfl
  · exact ⟨by kernel_rfl, own47x⟩
  · exact ⟨by kernel_rfl, own50⟩
  · exact ⟨by kernel_rfl, own20⟩
  · exact ⟨by kernel_rfl, own21⟩
  · exact ⟨by kernel_rfl, own24⟩
  · exact ⟨by kernel_rfl, own26⟩)
theorem own8 : OwnOk Tryz.prog gl 8 (.said q9) := said_ans ok8 fun args v h => by
  obtain ⟨e, r, rfl, ⟨hs, ho⟩, rfl⟩ := inv9 h
  rw [← check_eq ho]
  exact ⟨rfl, rfl, t8 E8 (by kernel_rfl) (by kernel_rfl) (toldBy_of (by kernel_rfl)) (by kernel_rfl) (by kernel_rfl) (by kernel_rfl) (toldBy_of (by kernel_rfl)) (toldBy_of (by kernel_rfl)) (toldBy_of (by kernel_rfl)) (by kernel_rfl) (by kernel_rfl) (by kernel_rfl) (toldBy_of (by kernel_rfl)) (by kernel_rfl) (by kernel_rfl) (toldBy_of (by kernel_rfl)) e hs r ho⟩
noncomputable def E10 : Env := tell E0 [(47, q47x), (50, q59), (8, q9), (32, q62)]
theorem ok10 : EnvOk Tryz.prog E10 := envOk_tell ok0 (by
  intro p hp
  simp only [List.mem_cons, List.not_mem_nil, or_false] at hp
  rcases hp with rfl | rfl | rfl | rfl
  · exact ⟨by kernel_rfl, own47x⟩
  · exact ⟨by kernel_rfl, own50⟩
  · exact ⟨by kernel_rfl, own8⟩
  · exact ⟨by kernel_rfl, own32⟩)
theorem own10 : OwnOk Tryz.prog gl 10 (.said q11) := said_ans ok10 fun args v h => by
  obtain ⟨p, rfl, ho, rfl⟩ := inv11 h
  exact ⟨rfl, rfl, t10 E10 (by kernel_rfl) (by kernel_rfl) (toldBy_of (by kernel_rfl)) (by kernel_rfl) (by kernel_rfl) (by kernel_rfl) (toldBy_of (by kernel_rfl)) (toldBy_of (by kernel_rfl)) (toldBy_of (by kernel_rfl)) p ho⟩
noncomputable def E11 : Env := tell E0 [(58, q58x), (59, q59), (9, q9), (33, q33)]
theorem ok11 : EnvOk Tryz.prog E11 := envOk_tell ok0 (by
  intro p hp
  simp only [List.mem_cons, List.not_mem_nil, or_false] at hp
  rcases hp with rfl | rfl | rfl | rfl
  · exact ⟨by kernel_rfl, own58x⟩
  · exact ⟨by kernel_rfl, own59⟩
  · exact ⟨by kernel_rfl, own9⟩
  · exact ⟨by kernel_rfl, own33⟩)
theorem own11 : OwnOk Tryz.prog gl 11 (.said q11) := said_ans ok11 fun args v h => by
  obtain ⟨p, rfl, ho, rfl⟩ := inv11 h
  exact ⟨rfl, rfl, t11 E11 (by kernel_rfl) (by kernel_rfl) (toldBy_of (by kernel_rfl)) (toldBy_of (by kernel_rfl)) (toldBy_of (by kernel_rfl)) (toldBy_of (by kernel_rfl)) p ho⟩
noncomputable def EL : Env := tell E0 [(8, q9), (9, q9), (10, q11), (11, q11), (12, truth)]
theorem okL : EnvOk Tryz.prog EL := envOk_tell ok0 (by
  intro p hp
  simp only [List.mem_cons, List.not_mem_nil, or_false] at hp
  rcases hp with rfl | rfl | rfl | rfl | rfl
  · exact ⟨by kernel_rfl, own8⟩
  · exact ⟨by kernel_rfl, own9⟩
  · exact ⟨by kernel_rfl, own10⟩
  · exact ⟨by kernel_rfl, own11⟩
  · exact ⟨by kernel_rfl, own12⟩)
/-- THE LAW, in the evaluator. -/
theorem law (p : Go.Ev.Lc.Rows) (ho : RowsOk p) : ∃ n s', callF EL n 0 3 [encRows p] ⟨.lf, 0⟩ = some (.ret (.bool true), s') := by
  obtain ⟨n, u, s1, h1, h2⟩ := t3 EL (by kernel_rfl) (toldBy_of (by kernel_rfl)) (toldBy_of (by kernel_rfl)) (toldBy_of (by kernel_rfl)) (toldBy_of (by kernel_rfl)) (toldBy_of (by kernel_rfl)) p ho
  have h2 : u = .bool true := h2
  subst h2
  exact ⟨n, s1, h1⟩
end Go.Proofs.YtkalflplonnhmaaGreatDoor.lowerChecks
