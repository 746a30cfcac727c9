/- The evaluator's data: abstract values, finite maps by number, abstract blocks. No program in sight. -/
import GoSem.Core.Sem
namespace Go.Ev

/-- Abstract values. 'bad' is a pointer of which nothing is known. 'ptr', 'sl', 'mp' lead into the evaluator's own heap; 'any' is some value of one cell, 'mint' an int of which the lowest b bits are known. 'cptr', 'lst' are addresses and slices of memory that nothing writes any more, told by what they hold. -/
inductive AV where
  | bad
  | bool (b : Bool)
  | int (k : IntKind) (n : Int)
  | str (s : List Nat)
  | nilp
  | ptr (id off : Nat)
  | cptr (v : AV)
  | nils
  | sl (id off len : Nat)
  | lst (es : List AV)
  | nilm
  | mp (id : Nat)
  | nilf
  | fn (f : FuncId) (first cap : List AV)
  | nili
  | ifc (t : TypeId) (v : AV)
  | agg (cs : List AV)
  | tup (vs : List AV)
  | any
  | mint (k : IntKind) (b m : Nat)
  deriving Inhabited

/-- A finite map by number. -/
inductive Tr (α : Type) where
  | lf
  | nd (l : Tr α) (v : Option α) (r : Tr α)

def Tr.get {α : Type} : Tr α → Nat → Option α
  | .lf, _ => none
  | .nd l v r, n =>
    match Nat.beq n 0 with
    | true => v
    | false =>
      match Nat.beq (n % 2) 1 with
      | true => l.get (n / 2)
      | false => r.get (n / 2 - 1)

def Tr.putF {α : Type} : Nat → Tr α → Nat → Option α → Tr α
  | 0, t, _, _ => t
  | f + 1, .lf, n, x =>
    match Nat.beq n 0 with
    | true => .nd .lf x .lf
    | false =>
      match Nat.beq (n % 2) 1 with
      | true => .nd (putF f .lf (n / 2) x) none .lf
      | false => .nd .lf none (putF f .lf (n / 2 - 1) x)
  | f + 1, .nd l v r, n, x =>
    match Nat.beq n 0 with
    | true => .nd l x r
    | false =>
      match Nat.beq (n % 2) 1 with
      | true => .nd (putF f l (n / 2) x) v r
      | false => .nd l v (putF f r (n / 2 - 1) x)

def Tr.put {α : Type} (t : Tr α) (n : Nat) (x : Option α) : Tr α := Tr.putF (n + 1) t n x
abbrev Tr.set {α : Type} (t : Tr α) (n : Nat) (x : α) : Tr α := t.put n (some x)
abbrev Tr.del {α : Type} (t : Tr α) (n : Nat) : Tr α := t.put n none

@[simp] theorem Tr.get_lf {α : Type} (n : Nat) : (Tr.lf : Tr α).get n = none := rfl

theorem Tr.get_putF {α : Type} (x : Option α) : ∀ (f : Nat) (t : Tr α) (n m : Nat), n < f → (Tr.putF f t n x).get m = if m = n then x else t.get m := by
  intro f
  induction f with
  | zero => intro t n m h; omega
  | succ f ih =>
    intro t n m h
    cases t with
    | lf =>
      unfold Tr.putF
      cases h0 : Nat.beq n 0 with
      | true =>
        have : n = 0 := Nat.eq_of_beq_eq_true h0
        subst this
        simp only [Tr.get]
        cases hm : Nat.beq m 0 with
        | true => simp [Nat.eq_of_beq_eq_true hm]
        | false =>
          have : m ≠ 0 := Nat.ne_of_beq_eq_false hm
          simp only [this, if_false]
          cases Nat.beq (m % 2) 1 <;> rfl
      | false =>
        have hn : n ≠ 0 := Nat.ne_of_beq_eq_false h0
        cases h1 : Nat.beq (n % 2) 1 with
        | true =>
          have hn1 : n % 2 = 1 := Nat.eq_of_beq_eq_true h1
          simp only [Tr.get]
          cases hm : Nat.beq m 0 with
          | true =>
            have : m = 0 := Nat.eq_of_beq_eq_true hm
            simp [show ¬ m = n by omega]
          | false =>
            have hm0 : m ≠ 0 := Nat.ne_of_beq_eq_false hm
            cases hm1 : Nat.beq (m % 2) 1 with
            | true =>
              have : m % 2 = 1 := Nat.eq_of_beq_eq_true hm1
              simp only []
              rw [ih _ _ _ (by omega)]
              by_cases e : m = n
              · subst e; simp
              · rw [if_neg (by omega), if_neg e]; rfl
            | false =>
              have : m % 2 ≠ 1 := Nat.ne_of_beq_eq_false hm1
              simp only []
              rw [if_neg (by intro e; subst e; exact this hn1)]; 
        | false =>
          have hn1 : n % 2 ≠ 1 := Nat.ne_of_beq_eq_false h1
          simp only [Tr.get]
          cases hm : Nat.beq m 0 with
          | true =>
            have : m = 0 := Nat.eq_of_beq_eq_true hm
            simp [show ¬ m = n by omega]
          | false =>
            have hm0 : m ≠ 0 := Nat.ne_of_beq_eq_false hm
            cases hm1 : Nat.beq (m % 2) 1 with
            | true =>
              have : m % 2 = 1 := Nat.eq_of_beq_eq_true hm1
              simp only []
              rw [if_neg (by intro e; subst e; exact hn1 this)]; 
            | false =>
              have : m % 2 ≠ 1 := Nat.ne_of_beq_eq_false hm1
              simp only []
              rw [ih _ _ _ (by omega)]
              by_cases e : m = n
              · subst e; simp
              · rw [if_neg (by omega), if_neg e]; rfl
    | nd l v r =>
      unfold Tr.putF
      cases h0 : Nat.beq n 0 with
      | true =>
        have : n = 0 := Nat.eq_of_beq_eq_true h0
        subst this
        simp only [Tr.get]
        cases hm : Nat.beq m 0 with
        | true => simp [Nat.eq_of_beq_eq_true hm]
        | false =>
          have : m ≠ 0 := Nat.ne_of_beq_eq_false hm
          simp only [this, if_false]
      | false =>
        have hn : n ≠ 0 := Nat.ne_of_beq_eq_false h0
        cases h1 : Nat.beq (n % 2) 1 with
        | true =>
          have hn1 : n % 2 = 1 := Nat.eq_of_beq_eq_true h1
          simp only [Tr.get]
          cases hm : Nat.beq m 0 with
          | true =>
            have : m = 0 := Nat.eq_of_beq_eq_true hm
            simp [show ¬ m = n by omega]
          | false =>
            have hm0 : m ≠ 0 := Nat.ne_of_beq_eq_false hm
            cases hm1 : Nat.beq (m % 2) 1 with
            | true =>
              have : m % 2 = 1 := Nat.eq_of_beq_eq_true hm1
              simp only []
              rw [ih _ _ _ (by omega)]
              by_cases e : m = n
              · subst e; simp
              · rw [if_neg (by omega), if_neg e]
            | false =>
              have : m % 2 ≠ 1 := Nat.ne_of_beq_eq_false hm1
              simp only []
              rw [if_neg (by intro e; subst e; exact this hn1)]
        | false =>
          have hn1 : n % 2 ≠ 1 := Nat.ne_of_beq_eq_false h1
          simp only [Tr.get]
          cases hm : Nat.beq m 0 with
          | true =>
            have : m = 0 := Nat.eq_of_beq_eq_true hm
            simp [show ¬ m = n by omega]
          | false =>
            have hm0 : m ≠ 0 := Nat.ne_of_beq_eq_false hm
            cases hm1 : Nat.beq (m % 2) 1 with
            | true =>
              have : m % 2 = 1 := Nat.eq_of_beq_eq_true hm1
              simp only []
              rw [if_neg (by intro e; subst e; exact hn1 this)]
            | false =>
              have : m % 2 ≠ 1 := Nat.ne_of_beq_eq_false hm1
              simp only []
              rw [ih _ _ _ (by omega)]
              by_cases e : m = n
              · subst e; simp
              · rw [if_neg (by omega), if_neg e]

theorem Tr.get_put {α : Type} (t : Tr α) (n m : Nat) (x : Option α) : (t.put n x).get m = if m = n then x else t.get m := Tr.get_putF x _ _ _ _ (Nat.lt_succ_self n)
theorem Tr.get_put_self {α : Type} (t : Tr α) (n : Nat) (x : Option α) : (t.put n x).get n = x := by rw [Tr.get_put, if_pos rfl]
theorem Tr.get_put_ne {α : Type} (t : Tr α) {n m : Nat} (x : Option α) (h : m ≠ n) : (t.put n x).get m = t.get m := by rw [Tr.get_put, if_neg h]

/-- What the evaluator knows of a block: a row of cells (of elements of 'sz' cells each; 'ex': odd: the real row ends where this one does; above 1: its half, less one, is the row's type), or a map. -/
inductive ABlk where
  | cells (cs : List AV) (sz : Nat) (ex : Nat)
  | map (es : List (AV × AV))
  deriving Inhabited

/-- The evaluator's memory, and the number that its next block has. -/
structure St where
  H : Tr ABlk
  nx : Nat

end Go.Ev
