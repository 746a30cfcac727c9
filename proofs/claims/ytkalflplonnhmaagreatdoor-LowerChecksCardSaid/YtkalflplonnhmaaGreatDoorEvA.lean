/- An evaluator of compiled code with abstract values, proved sound against the model; steps through code. -/
import GoSem.Core.Sem
import GoSem.Core.Code
import GoSem.Core.View
import GoSem.Core.Layout
import GoSem.Machine.Frame
import GoSem.Core.Region
import Derived.Orders
import Derived.Laws.World
import Derived.Laws.Sem
import Derived.Calls
import Derived.Laws.Entries
import Derived.Laws.Slices
import Derived.Laws.StructEq
import Derived.Laws.Cells
import Derived.Deep.AppendSrc
import Derived.Lib.AppendZerosOnto
set_option linter.all false
/- The evaluator's data: abstract values, finite maps by number, abstract blocks. No program in sight. -/
namespace Go.Ev

/-- Abstract values. 'bad' is a pointer of which nothing is known. 'ptr', 'sl', 'mp' lead into the evaluator's own heap; 'any' is some value of one cell, 'mint' an int of which the lowest b bits are known. 'cptr', 'lst' are addresses and slices of memory that nothing writes any more, told by what they hold. -/
inductive AV where
  | bad
  | bool (b : Bool)
  | int (k : IntKind) (n : Int)
  | str (s : List Nat)
  | nilp
  | ptr (id off : Nat)
  | cptr (v : AV)
  | nils
  | sl (id off len : Nat)
  | lst (es : List AV)
  | nilm
  | mp (id : Nat)
  | nilf
  | fn (f : FuncId) (first cap : List AV)
  | nili
  | ifc (t : TypeId) (v : AV)
  | agg (cs : List AV)
  | tup (vs : List AV)
  | any
  | mint (k : IntKind) (b m : Nat)
  deriving Inhabited

/-- A finite map by number. -/
inductive Tr (α : Type) where
  | lf
  | nd (l : Tr α) (v : Option α) (r : Tr α)

def Tr.get {α : Type} : Tr α → Nat → Option α
  | .lf, _ => none
  | .nd l v r, n =>
    match Nat.beq n 0 with
    | true => v
    | false =>
      match Nat.beq (n % 2) 1 with
      | true => l.get (n / 2)
      | false => r.get (n / 2 - 1)

def Tr.putF {α : Type} : Nat → Tr α → Nat → Option α → Tr α
  | 0, t, _, _ => t
  | f + 1, .lf, n, x =>
    match Nat.beq n 0 with
    | true => .nd .lf x .lf
    | false =>
      match Nat.beq (n % 2) 1 with
      | true => .nd (putF f .lf (n / 2) x) none .lf
      | false => .nd .lf none (putF f .lf (n / 2 - 1) x)
  | f + 1, .nd l v r, n, x =>
    match Nat.beq n 0 with
    | true => .nd l x r
    | false =>
      match Nat.beq (n % 2) 1 with
      | true => .nd (putF f l (n / 2) x) v r
      | false => .nd l v (putF f r (n / 2 - 1) x)

def Tr.put {α : Type} (t : Tr α) (n : Nat) (x : Option α) : Tr α := Tr.putF (n + 1) t n x
abbrev Tr.set {α : Type} (t : Tr α) (n : Nat) (x : α) : Tr α := t.put n (some x)
abbrev Tr.del {α : Type} (t : Tr α) (n : Nat) : Tr α := t.put n none

@[simp] theorem Tr.get_lf {α : Type} (n : Nat) : (Tr.lf : Tr α).get n = none := rfl

theorem Tr.get_putF {α : Type} (x : Option α) : ∀ (f : Nat) (t : Tr α) (n m : Nat), n < f → (Tr.putF f t n x).get m = if m = n then x else t.get m := by
  intro f
  induction f with
  | zero => intro t n m h; omega
  | succ f ih =>
    intro t n m h
    cases t with
    | lf =>
      unfold Tr.putF
      cases h0 : Nat.beq n 0 with
      | true =>
        have : n = 0 := Nat.eq_of_beq_eq_true h0
        subst this
        simp only [Tr.get]
        cases hm : Nat.beq m 0 with
        | true => simp [Nat.eq_of_beq_eq_true hm]
        | false =>
          have : m ≠ 0 := Nat.ne_of_beq_eq_false hm
          simp only [this, if_false]
          cases Nat.beq (m % 2) 1 <;> rfl
      | false =>
        have hn : n ≠ 0 := Nat.ne_of_beq_eq_false h0
        cases h1 : Nat.beq (n % 2) 1 with
        | true =>
          have hn1 : n % 2 = 1 := Nat.eq_of_beq_eq_true h1
          simp only [Tr.get]
          cases hm : Nat.beq m 0 with
          | true =>
            have : m = 0 := Nat.eq_of_beq_eq_true hm
            simp [show ¬ m = n by omega]
          | false =>
            have hm0 : m ≠ 0 := Nat.ne_of_beq_eq_false hm
            cases hm1 : Nat.beq (m % 2) 1 with
            | true =>
              have : m % 2 = 1 := Nat.eq_of_beq_eq_true hm1
              simp only []
              rw [ih _ _ _ (by omega)]
              by_cases e : m = n
              · subst e; simp
              · rw [if_neg (by omega), if_neg e]; rfl
            | false =>
              have : m % 2 ≠ 1 := Nat.ne_of_beq_eq_false hm1
              simp only []
              rw [if_neg (by intro e; subst e; exact this hn1)]; 
        | false =>
          have hn1 : n % 2 ≠ 1 := Nat.ne_of_beq_eq_false h1
          simp only [Tr.get]
          cases hm : Nat.beq m 0 with
          | true =>
            have : m = 0 := Nat.eq_of_beq_eq_true hm
            simp [show ¬ m = n by omega]
          | false =>
            have hm0 : m ≠ 0 := Nat.ne_of_beq_eq_false hm
            cases hm1 : Nat.beq (m % 2) 1 with
            | true =>
              have : m % 2 = 1 := Nat.eq_of_beq_eq_true hm1
              simp only []
              rw [if_neg (by intro e; subst e; exact hn1 this)]; 
            | false =>
              have : m % 2 ≠ 1 := Nat.ne_of_beq_eq_false hm1
              simp only []
              rw [ih _ _ _ (by omega)]
              by_cases e : m = n
              · subst e; simp
              · rw [if_neg (by omega), if_neg e]; rfl
    | nd l v r =>
      unfold Tr.putF
      cases h0 : Nat.beq n 0 with
      | true =>
        have : n = 0 := Nat.eq_of_beq_eq_true h0
        subst this
        simp only [Tr.get]
        cases hm : Nat.beq m 0 with
        | true => simp [Nat.eq_of_beq_eq_true hm]
        | false =>
          have : m ≠ 0 := Nat.ne_of_beq_eq_false hm
          simp only [this, if_false]
      | false =>
        have hn : n ≠ 0 := Nat.ne_of_beq_eq_false h0
        cases h1 : Nat.beq (n % 2) 1 with
        | true =>
          have hn1 : n % 2 = 1 := Nat.eq_of_beq_eq_true h1
          simp only [Tr.get]
          cases hm : Nat.beq m 0 with
          | true =>
            have : m = 0 := Nat.eq_of_beq_eq_true hm
            simp [show ¬ m = n by omega]
          | false =>
            have hm0 : m ≠ 0 := Nat.ne_of_beq_eq_false hm
            cases hm1 : Nat.beq (m % 2) 1 with
            | true =>
              have : m % 2 = 1 := Nat.eq_of_beq_eq_true hm1
              simp only []
              rw [ih _ _ _ (by omega)]
              by_cases e : m = n
              · subst e; simp
              · rw [if_neg (by omega), if_neg e]
            | false =>
              have : m % 2 ≠ 1 := Nat.ne_of_beq_eq_false hm1
              simp only []
              rw [if_neg (by intro e; subst e; exact this hn1)]
        | false =>
          have hn1 : n % 2 ≠ 1 := Nat.ne_of_beq_eq_false h1
          simp only [Tr.get]
          cases hm : Nat.beq m 0 with
          | true =>
            have : m = 0 := Nat.eq_of_beq_eq_true hm
            simp [show ¬ m = n by omega]
          | false =>
            have hm0 : m ≠ 0 := Nat.ne_of_beq_eq_false hm
            cases hm1 : Nat.beq (m % 2) 1 with
            | true =>
              have : m % 2 = 1 := Nat.eq_of_beq_eq_true hm1
              simp only []
              rw [if_neg (by intro e; subst e; exact hn1 this)]
            | false =>
              have : m % 2 ≠ 1 := Nat.ne_of_beq_eq_false hm1
              simp only []
              rw [ih _ _ _ (by omega)]
              by_cases e : m = n
              · subst e; simp
              · rw [if_neg (by omega), if_neg e]

theorem Tr.get_put {α : Type} (t : Tr α) (n m : Nat) (x : Option α) : (t.put n x).get m = if m = n then x else t.get m := Tr.get_putF x _ _ _ _ (Nat.lt_succ_self n)
theorem Tr.get_put_self {α : Type} (t : Tr α) (n : Nat) (x : Option α) : (t.put n x).get n = x := by rw [Tr.get_put, if_pos rfl]
theorem Tr.get_put_ne {α : Type} (t : Tr α) {n m : Nat} (x : Option α) (h : m ≠ n) : (t.put n x).get m = t.get m := by rw [Tr.get_put, if_neg h]

/-- What the evaluator knows of a block: a row of cells (of elements of 'sz' cells each; 'ex': odd: the real row ends where this one does; above 1: its half, less one, is the row's type), or a map. -/
inductive ABlk where
  | cells (cs : List AV) (sz : Nat) (ex : Nat)
  | map (es : List (AV × AV))
  deriving Inhabited

/-- The evaluator's memory, and the number that its next block has. -/
structure St where
  H : Tr ABlk
  nx : Nat

end Go.Ev
/- The evaluator: its instructions, what each does to abstract values and the abstract memory, and the run of code. -/
namespace Go.Ev

/-- An operand. -/
inductive Eo where
  | t (i : Nat)
  | k (v : AV)
  | g (n : Nat)

/-- Which values an '==' compares. -/
inductive PK where
  | b | i | s
  deriving DecidableEq
inductive RK where
  | p | s | m | f
  deriving DecidableEq
inductive EqK where
  | prim (k : PK) | ref (k : RK) | ifc | agg (ks : List PK)
  deriving DecidableEq

/-- Instructions that only look at their operands. -/
inductive Dry where
  | mov (x : Eo)
  | pick (c a b : Eo)
  | build (zero : List AV) (parts : List (Nat × Nat × Eo))
  | nilchk (x : Eo)
  | bin (op : BinOp) (x y : Eo)
  | eq (k : EqK) (neq : Bool) (x y : Eo)
  | not (x : Eo)
  | neg (x : Eo)
  | xor (x : Eo)
  | conv (k : IntKind) (x : Eo)
  | mkifc (t : TypeId) (x : Eo)
  | mkfn (f : FuncId) (first cap : List Eo)
  | strsl (x : Eo) (lo hi : Option Eo)
  | faddr (off n : Nat) (agg : Bool) (x : Eo)
  | fld (off n : Nat) (agg : Bool) (x : Eo)
  | iaddr (sz : Nat) (x i : Eo)
  | aaddr (len sz : Nat) (agg : Bool) (x i : Eo)
  | aidx (len sz : Nat) (agg : Bool) (x i : Eo)
  | sidx (x i : Eo)
  | extract (x : Eo) (i : Nat)
  | len (x : Eo)
  | slen (x : Eo)
  | mm (max : Bool) (xs : List Eo)
  | assert (t : TypeId) (x : Eo)
  | assertok (t : TypeId) (zero : AV) (x : Eo)

/-- Instructions that look at memory, or make some. -/
inductive Wet where
  | alloc (ex sz : Nat) (zero : List AV)
  | box (sz : Nat) (x : Eo)
  | bsl (sz len : Nat) (zero : List AV) (parts : List (Nat × Eo))
  | load (n : Nat) (agg : Bool) (x : Eo)
  | store (n : Nat) (a x : Eo)
  | mkmap
  | mksl (sz bytes : Nat) (zero : List AV) (len cap : Eo)
  | aslice (n sz : Nat) (x : Eo) (lo hi : Option Eo)
  | slice (sz : Nat) (x : Eo) (lo hi : Option Eo)
  | lookup (pk : PK) (zero : AV) (ok : Bool) (m k : Eo)
  | mapset (pk : PK) (m k v : Eo)
  | mlen (m : Eo)
  | append (ext sz bytes : Nat) (x y : Eo)
  | appz (sz bytes : Nat) (zero : List AV) (x n : Eo)
  | copy (sz : Nat) (x y : Eo)
  | clr (sz : Nat) (zero : List AV) (x : Eo)
  | b2s (x : Eo)

inductive EOp where
  | dry (o : Dry)
  | wet (o : Wet)
  | call (f : Eo) (args : List Eo)
  | defer (f : Eo) (args : List Eo)
  | panic (x : Eo)
  | recover
  | stuck

structure EOper where
  dst : Option Nat
  op : EOp
  guard : Option (Nat × Bool)   -- the place that is looked at, and what it must hold

/-- Code. 'draw': a region whose order is open: of each operation which ones are always done ahead of it (as bits), and whether it may write. -/
inductive ECode where
  | skip
  | reg (ops : List EOper)
  | draw (ops : List (EOper × Nat × Bool))
  | seq (a b : ECode)
  | cond (c : Eo) (a b : ECode)
  | block (id : Nat) (b : ECode)
  | loop (b : ECode)
  | exit (id : Nat)
  | scope (b : ECode)
  | label (l : Nat)
  | goto (l : Nat)
  | ret
  | stuck

/-- A result: a place, or the cells behind one. -/
inductive ERes where
  | tmp (t : Nat)
  | cell (a n : Nat) (agg : Bool)

/-- Functions of Go's library whose text the evaluator doesn't run: strings.Builder's copy check, and its String. -/
inductive Own where
  | check (t : Nat)   -- the type strings.Builder
  | text (e : Nat)    -- the type of a byte of its buffer
  | said (r : List AV → Option AV)    -- what a call answers, that looks at none of the evaluator's memory and writes nothing that was there
  | spec (r : Nat → St → List AV → Option (AV × St))    -- any other
structure EFunc where
  own : Option Own := none
  body : ECode
  res : List ERes
  ntmps : Nat
  pure : Bool      -- it writes nothing that was there, and what it answers is never written

/-! ### Values -/
def flat : AV → List AV
  | .agg cs => cs
  | v => [v]
def unflat (a : Bool) (cs : List AV) : Option AV :=
  match a, cs with
  | true, cs => some (.agg cs)
  | false, [.agg _] => none
  | false, [c] => some c
  | false, _ => none
def cut (cs : List AV) (off n : Nat) : Option (List AV) :=
  let c := (cs.drop off).take n
  match Nat.beq c.length n with
  | true => some c
  | false => none
def over (cs : List AV) (off : Nat) (c : List AV) : Option (List AV) :=
  match Nat.ble (off + c.length) cs.length with
  | true => some (cs.take off ++ c ++ cs.drop (off + c.length))
  | false => none
def AV.cellOk : AV → Bool
  | .agg _ | .tup _ => false
  | _ => true
def fills : List AV → List (Nat × Nat × AV) → Option (List AV)
  | cs, [] => some cs
  | cs, (off, n, v) :: r =>
    match Nat.beq (flat v).length n, over cs off (flat v) with
    | true, some cs => fills cs r
    | _, _ => none
def natOf : AV → Option Nat
  | .int _ (.ofNat n) => some n
  | _ => none
def chunks : Nat → Nat → List AV → List AV
  | 0, _, _ => []
  | n + 1, sz, cs => (match Nat.beq sz 1, cs with | true, c :: _ => c | _, _ => .agg (cs.take sz)) :: chunks n sz (cs.drop sz)
def gint (n : Nat) : AV := .int .i64 n
/-- What a place holds to which nothing was given. -/
def undefA : AV := .tup []

section
variable (gl : Nat → AV) (tm : Tr AV)
def Eo.ev : Eo → AV
  | .t i => (tm.get i).getD undefA
  | .k v => v
  | .g n => gl n
def evs (xs : List Eo) : List AV := xs.map (Eo.ev gl tm)
def evo : Option Eo → Nat → Option Nat
  | none, d => some d
  | some x, _ => natOf (x.ev gl tm)
end

def binInt (op : BinOp) (k : IntKind) (a b : Int) : Option AV :=
  match op with
  | .add => some (.int k (k.wrap (a + b)))
  | .sub => some (.int k (k.wrap (a - b)))
  | .mul => some (.int k (k.wrap (a * b)))
  | .quo => if b = 0 then none else some (.int k (k.wrap (a.tdiv b)))
  | .rem => if b = 0 then none else some (.int k (a.tmod b))
  | .and => some (.int k (k.wrap (BitVec.ofInt k.bits a &&& BitVec.ofInt k.bits b).toNat))
  | .or => some (.int k (k.wrap (BitVec.ofInt k.bits a ||| BitVec.ofInt k.bits b).toNat))
  | .xor => some (.int k (k.wrap (BitVec.ofInt k.bits a ^^^ BitVec.ofInt k.bits b).toNat))
  | .andNot => some (.int k (k.wrap (BitVec.ofInt k.bits a &&& ~~~ BitVec.ofInt k.bits b).toNat))
  | .shl => if b < 0 then none else some (.int k (k.wrap (a * 2 ^ (min b.toNat k.bits))))
  | .shr => if b < 0 then none else some (.int k (a.fdiv (2 ^ (min b.toNat k.bits))))
  | .eql => some (.bool (a == b))
  | .neq => some (.bool (a != b))
  | .lss => some (.bool (decide (a < b)))
  | .leq => some (.bool (decide (a ≤ b)))
  | .gtr => some (.bool (decide (a > b)))
  | .geq => some (.bool (decide (a ≥ b)))
def natsEq : List Nat → List Nat → Bool
  | [], [] => true
  | a :: x, b :: y => Nat.beq a b && natsEq x y
  | _, _ => false
def natsLess : List Nat → List Nat → Bool
  | _, [] => false
  | [], _ :: _ => true
  | a :: x, b :: y => Nat.blt a b || (Nat.beq a b && natsLess x y)
def binStr (op : BinOp) (a b : List Nat) : Option AV :=
  match op with
  | .add => if a.length + b.length < 9223372036854775808 then some (.str (a ++ b)) else none
  | .eql => some (.bool (natsEq a b))
  | .neq => some (.bool (!natsEq a b))
  | .lss => some (.bool (natsLess a b))
  | .leq => some (.bool (natsLess a b || natsEq a b))
  | .gtr => some (.bool (!(natsLess a b || natsEq a b)))
  | .geq => some (.bool (!natsLess a b))
  | _ => none
def isShift : BinOp → Bool
  | .shl | .shr => true
  | _ => false
/-- Of an int of which the lowest b bits are known: some of them, or all the others' neighbours. -/
def binMint (op : BinOp) (k : IntKind) (b m : Nat) (k' : IntKind) (c : Nat) : Option AV :=
  match op with
  | .and => if k = k' ∧ c < 2 ^ b ∧ b < k.bits then some (.int k (m &&& c : Nat)) else none
  | .shr => if c ≤ b ∧ b < k.bits then some (.mint k (b - c) (m / 2 ^ c)) else none
  | _ => none
def binAV (op : BinOp) : AV → AV → Option AV
  | .int k a, .int k' b => if isShift op || k = k' then binInt op k a b else none
  | .str a, .str b => binStr op a b
  | .mint k b m, .int k' (.ofNat c) => binMint op k b m k' c
  | _, _ => none
def eqPrim : PK → AV → AV → Option Bool
  | .b, .bool a, .bool b => some (a == b)
  | .i, .int k a, .int k' b => if k = k' then some (a == b) else none
  | .s, .str a, .str b => some (natsEq a b)
  | _, _, _ => none
def eqRef : RK → AV → AV → Option Bool
  | .p, .nilp, .nilp | .s, .nils, .nils | .m, .nilm, .nilm | .f, .nilf, .nilf => some true
  | .p, .nilp, .ptr _ _ | .p, .ptr _ _, .nilp | .p, .nilp, .cptr _ | .p, .cptr _, .nilp => some false
  | .s, .nils, .lst (_ :: _) | .s, .lst (_ :: _), .nils => some false
  | .s, .nils, .sl _ _ (_ + 1) | .s, .sl _ _ (_ + 1), .nils => some false
  | .m, .nilm, .mp _ | .m, .mp _, .nilm | .f, .nilf, .fn _ _ _ | .f, .fn _ _ _, .nilf => some false
  | _, _, _ => none
def eqPrims : List PK → List AV → List AV → Option Bool
  | [], [], [] => some true
  | k :: ks, a :: x, b :: y =>
    match eqPrim k a b, eqPrims ks x y with
    | some p, some q => some (p && q)
    | _, _ => none
  | _, _, _ => none
def eqAV : EqK → AV → AV → Option Bool
  | .prim k, a, b => eqPrim k a b
  | .ref k, a, b => eqRef k a b
  | .ifc, .nili, .ifc _ _ | .ifc, .ifc _ _, .nili => some false
  | .ifc, .nili, .nili => some true
  | .agg ks, .agg a, .agg b => eqPrims ks a b
  | _, _, _ => none
def mm2 (mx : Bool) : AV → AV → Option AV
  | .int k x, .int k' y => if k = k' then some (.int k (if mx then (if x < y then y else x) else (if y < x then y else x))) else none
  | _, _ => none
def mmAll (mx : Bool) : AV → List AV → Option AV
  | a, [] => some a
  | a, b :: r => match mm2 mx a b with | some c => mmAll mx c r | none => none

section
variable (gl : Nat → AV) (tm : Tr AV)
def evDry : Dry → Option AV
  | .mov x => some (x.ev gl tm)
  | .pick c a b => match c.ev gl tm with | .bool true => some (a.ev gl tm) | .bool false => some (b.ev gl tm) | _ => none
  | .build zero parts => match fills zero (parts.map fun p => (p.1, p.2.1, p.2.2.ev gl tm)) with | some cs => some (.agg cs) | none => none
  | .nilchk x => match x.ev gl tm with | .ptr i o => some (.ptr i o) | .cptr v => some (.cptr v) | .fn f a b => some (.fn f a b) | .ifc t v => some (.ifc t v) | _ => none
  | .bin op x y => binAV op (x.ev gl tm) (y.ev gl tm)
  | .eq k neq x y => match eqAV k (x.ev gl tm) (y.ev gl tm) with | some b => some (.bool (if neq then !b else b)) | none => none
  | .not x => match x.ev gl tm with | .bool b => some (.bool !b) | _ => none
  | .neg x => match x.ev gl tm with | .int k n => some (.int k (k.wrap (0 - n))) | _ => none
  | .xor x => match x.ev gl tm with | .int k n => binInt .xor k (if k.signed then -1 else k.max) n | _ => none
  | .conv k x => match x.ev gl tm with | .int _ n => some (.int k (k.wrap n)) | _ => none
  | .mkifc t x => some (.ifc t (x.ev gl tm))
  | .mkfn f a b => some (.fn f (evs gl tm a) (evs gl tm b))
  | .strsl x lo hi =>
    match x.ev gl tm with
    | .str s =>
      match evo gl tm lo 0, evo gl tm hi s.length with
      | some l, some h => if l ≤ h ∧ h ≤ s.length then some (.str ((s.drop l).take (h - l))) else none
      | _, _ => none
    | _ => none
  | .faddr off n agg x =>
    match x.ev gl tm with
    | .ptr i o => some (.ptr i (o + off))
    | .cptr v => match cut (flat v) off n with | some c => (match unflat agg c with | some u => some (.cptr u) | none => none) | none => none
    | _ => none
  | .fld off n agg x =>
    match x.ev gl tm with
    | .agg cs => match cut cs off n with | some c => unflat agg c | none => none
    | _ => none
  | .iaddr sz x i =>
    match x.ev gl tm, natOf (i.ev gl tm) with
    | .sl id off len, some k => if k < len then some (.ptr id (off + k * sz)) else none
    | .lst es, some k => match es[k]? with | some e => (match Nat.beq (flat e).length sz with | true => some (.cptr e) | false => none) | none => none
    | _, _ => none
  | .aaddr len sz agg x i =>
    match x.ev gl tm, natOf (i.ev gl tm) with
    | .ptr id off, some k => if k < len then some (.ptr id (off + k * sz)) else none
    | .cptr v, some k =>
      if k < len then (match cut (flat v) (k * sz) sz with | some c => (match unflat agg c with | some u => some (.cptr u) | none => none) | none => none) else none
    | _, _ => none
  | .aidx len sz agg x i =>
    match x.ev gl tm, natOf (i.ev gl tm) with
    | .agg cs, some k => if k < len then match cut cs (k * sz) sz with | some c => unflat agg c | none => none else none
    | _, _ => none
  | .sidx x i =>
    match x.ev gl tm, natOf (i.ev gl tm) with
    | .str s, some k => match s[k]? with | some b => some (.int .u8 b) | none => none
    | _, _ => none
  | .extract x i => match x.ev gl tm with | .tup vs => vs[i]? | _ => none
  | .len x =>
    match x.ev gl tm with
    | .nils => some (gint 0)
    | .sl _ _ n => some (gint n)
    | .lst es => some (gint es.length)
    | _ => none
  | .slen x => match x.ev gl tm with | .str s => some (gint s.length) | _ => none
  | .mm mx xs => match evs gl tm xs with | a :: r => mmAll mx a r | [] => none
  | .assert t x => match x.ev gl tm with | .ifc u v => if u = t then some v else none | _ => none
  | .assertok t zero x =>
    match x.ev gl tm with
    | .ifc u v => if u = t then some (.tup [v, .bool true]) else some (.tup [zero, .bool false])
    | .nili => some (.tup [zero, .bool false])
    | _ => none
end

/-! ### Memory -/
def St.new (s : St) (b : ABlk) : St := { H := s.H.set s.nx b, nx := s.nx + 1 }
def row (s : St) (id : Nat) : Option (List AV × Nat × Nat) :=
  match s.H.get id with
  | some (.cells cs sz ex) => some (cs, sz, ex)
  | _ => none
/-- The cells of a slice (or of a string). -/
def cellsOf (s : St) (sz : Nat) : AV → Option (List AV)
  | .nils => some []
  | .sl id off len => match row s id with | some (cs, z, _) => (match Nat.beq z sz with | true => cut cs off (len * sz) | false => none) | none => none
  | .lst es => match es.all (fun e => Nat.beq (flat e).length sz) with | true => some (es.flatMap flat) | false => none
  | .str l => match Nat.beq sz 1 with | true => some (l.map fun (n : Nat) => .int .u8 (n : Int)) | false => none
  | _ => none
def lenOf : AV → Option Nat
  | .nils => some 0
  | .sl _ _ n => some n
  | .lst es => some es.length
  | .str s => some s.length
  | _ => none
def bytesOf : List AV → Option (List Nat)
  | [] => some []
  | .int .u8 (.ofNat n) :: r => (match Nat.blt n 256, bytesOf r with | true, some l => some (n :: l) | _, _ => none)
  | _ => none
def isStr : AV → Bool
  | .str _ => true
  | _ => false
/-- Few enough, and of few enough bytes. -/
def roomy (n bytes : Nat) : Bool := Nat.ble (n * (bytes + 1)) 68719476736
/-- The tag of a row to which something was appended: it may be the old row, or a new one. -/
def keptEx (off ex ext : Nat) : Nat := match Nat.beq off 0 && Nat.beq (2 * (ex / 2)) ext with | true => ext | false => 0
/-- 'append': what was there goes over into a new row; a row whose end the slice is not is let go. -/
def appendTo (lo : Nat) (s : St) (ext sz bytes : Nat) (x : AV) (n : Nat) (ys : List AV) : Option (AV × St) :=
  match Nat.beq n 0 with
  | true => match x with | .nils | .sl _ _ _ | .lst _ => some (x, s) | _ => none
  | false =>
    match ys.all AV.cellOk with
    | false => none
    | true =>
    match x with
    | .nils => if roomy n bytes then some (.sl s.nx 0 n, s.new (.cells ys sz ext)) else none
    | .sl id off len =>
      match row s id with
      | some (cs, z, ex) =>
        match Nat.beq z sz, cut cs off (len * sz), roomy (len + n) bytes with
        | true, some xs, true =>
          if Nat.beq (ex % 2) 1 && Nat.beq (off + len * sz) cs.length then some (.sl s.nx 0 (len + n), s.new (.cells (xs ++ ys) sz ext))
          else if lo ≤ id then some (.sl s.nx 0 (len + n), St.new { s with H := s.H.del id } (.cells (xs ++ ys) sz (keptEx off ex ext)))
          else none
        | _, _, _ => none
      | none => none
    | _ => none
def headSz (sz : Nat) : List AV → Bool
  | e :: _ => Nat.beq (flat e).length sz
  | [] => true
def keyEq : AV → AV → Option Bool
  | .int k a, .int k' b => if k = k' then some (a == b) else none
  | .str a, .str b => some (natsEq a b)
  | .bool a, .bool b => some (a == b)
  | _, _ => none
def mfind (k : AV) : List (AV × AV) → Option (Option AV)
  | [] => some none
  | (a, v) :: r => match keyEq k a with | some true => some (some v) | some false => mfind k r | none => none
def mput (k v : AV) : List (AV × AV) → Option (List (AV × AV))
  | [] => some [(k, v)]
  | (a, u) :: r =>
    match keyEq k a with
    | some true => some ((k, v) :: r)
    | some false => match mput k v r with | some r => some ((a, u) :: r) | none => none
    | none => none
def plainKey : PK → AV → Bool
  | .i, .int _ _ | .s, .str _ | .b, .bool _ => true
  | _, _ => false

section
variable (gl : Nat → AV) (tm : Tr AV) (lo : Nat) (s : St)
def evWet : Wet → Option (AV × St)
  | .alloc ex sz zero => some (.ptr s.nx 0, s.new (.cells zero sz ex))
  | .box sz x => some (.ptr s.nx 0, s.new (.cells (flat (x.ev gl tm)) sz 1))
  | .bsl sz len zero parts =>
    match fills zero (parts.map fun p => (p.1, sz, p.2.ev gl tm)) with
    | some cs => some (.sl s.nx 0 len, s.new (.cells cs sz 1))
    | none => none
  | .load n agg x =>
    match x.ev gl tm with
    | .ptr id off =>
      match row s id with
      | some (cs, _, _) => match cut cs off n with | some c => (match unflat agg c with | some v => some (v, s) | none => none) | none => none
      | none => none
    | .cptr v => match Nat.beq (flat v).length n, unflat agg (flat v) with | true, some u => some (u, s) | _, _ => none
    | _ => none
  | .store n a x =>
    match a.ev gl tm with
    | .ptr id off =>
      if lo ≤ id then
        match row s id with
        | some (cs, sz, ex) =>
          let c := flat (x.ev gl tm)
          match Nat.beq c.length n, c.all AV.cellOk, over cs off c with
          | true, true, some cs' => some (undefA, { s with H := s.H.set id (.cells cs' sz ex) })
          | _, _, _ => none
        | none => none
      else none
    | _ => none
  | .mkmap => some (.mp s.nx, s.new (.map []))
  | .mksl sz bytes zero len cap =>
    match natOf (len.ev gl tm), natOf (cap.ev gl tm) with
    | some l, some c => if l ≤ c ∧ roomy c bytes then some (.sl s.nx 0 l, s.new (.cells (List.replicate c zero).flatten sz 1)) else none
    | _, _ => none
  | .aslice n sz x lo' hi' =>
    match x.ev gl tm with
    | .ptr id off =>
      match evo gl tm lo' 0, evo gl tm hi' n with
      | some l, some h =>
        if l ≤ h ∧ h ≤ n then
          match row s id with
          | some (cs, z, ex) => if off = 0 ∧ z = sz ∧ cs.length = n * sz ∧ ex % 2 = 1 then some (.sl id (l * sz) (h - l), s) else none
          | none => none
        else none
      | _, _ => none
    | _ => none
  | .slice sz x lo' hi' =>
    match x.ev gl tm with
    | .nils => (match evo gl tm lo' 0, evo gl tm hi' 0 with | some 0, some 0 => some (.nils, s) | _, _ => none)
    | .sl id off len =>
      match row s id, evo gl tm lo' 0, evo gl tm hi' len with
      | some (_, z, _), some l, some h => if l ≤ h ∧ h ≤ len ∧ z = sz then some (.sl id (off + l * sz) (h - l), s) else none
      | _, _, _ => none
    | .lst es =>
      match evo gl tm lo' 0, evo gl tm hi' es.length with
      | some l, some h =>
        if l ≤ h ∧ h ≤ es.length ∧ headSz sz es = true then some (.lst ((es.drop l).take (h - l)), s) else none
      | _, _ => none
    | _ => none
  | .lookup pk zero ok m k =>
    let es := match m.ev gl tm with
      | .nilm => some []
      | .mp id => match s.H.get id with | some (.map es) => some es | _ => none
      | _ => none
    match es with
    | some es =>
      match plainKey pk (k.ev gl tm), mfind (k.ev gl tm) es with
      | true, some (some v) => some (if ok then .tup [v, .bool true] else v, s)
      | true, some none => some (if ok then .tup [zero, .bool false] else zero, s)
      | _, _ => none
    | none => none
  | .mapset pk m k v =>
    match m.ev gl tm with
    | .mp id =>
      if lo ≤ id then
        match s.H.get id with
        | some (.map es) => match plainKey pk (k.ev gl tm), mput (k.ev gl tm) (v.ev gl tm) es with | true, some es' => some (undefA, { s with H := s.H.set id (.map es') }) | _, _ => none
        | _ => none
      else none
    | _ => none
  | .mlen m =>
    match m.ev gl tm with
    | .nilm => some (gint 0, s)
    | .mp id => match s.H.get id with | some (.map es) => some (gint es.length, s) | _ => none
    | _ => none
  | .append ext sz bytes x y =>
    match lenOf (y.ev gl tm), cellsOf s sz (y.ev gl tm) with
    | some n, some ys => appendTo lo s ext sz bytes (x.ev gl tm) n ys
    | _, _ => none
  | .appz sz bytes zero x n =>
    match natOf (n.ev gl tm) with
    | some n => if roomy n bytes then appendTo lo s 0 sz bytes (x.ev gl tm) n (List.replicate n zero).flatten else none
    | none => none
  | .copy sz x y =>
    match x.ev gl tm, lenOf (y.ev gl tm), cellsOf s sz (y.ev gl tm) with
    | .sl id off len, some n, some ys =>
      if lo ≤ id ∧ isStr (y.ev gl tm) = false then
        match row s id with
        | some (cs, z, ex) =>
          let m := min n len
          let c := ys.take (m * sz)
          match Nat.beq z sz, c.all AV.cellOk, over cs off c with
          | true, true, some cs' => some (gint m, { s with H := s.H.set id (.cells cs' sz ex) })
          | _, _, _ => none
        | none => none
      else none
    | .nils, some _, some _ => if isStr (y.ev gl tm) = false then some (gint 0, s) else none
    | _, _, _ => none
  | .clr sz zero x =>
    match x.ev gl tm with
    | .nils => some (.tup [], s)
    | .sl id off len =>
      if lo ≤ id then
        match row s id with
        | some (cs, z, ex) =>
          match Nat.beq z sz, (List.replicate len zero).flatten.all AV.cellOk, over cs off (List.replicate len zero).flatten with
          | true, true, some cs' => some (.tup [], { s with H := s.H.set id (.cells cs' sz ex) })
          | _, _, _ => none
        | none => none
      else none
    | _ => none
  | .b2s x =>
    match x.ev gl tm with
    | .nils => some (.str [], s)
    | v => (match isStr v, cellsOf s 1 v with | false, some cs => (match bytesOf cs with | some l => some (.str l, s) | none => none) | _, _ => none)
end

/-! ### What is answered and never written any more -/
mutual
def freeze (s : St) (lo b : Nat) : Nat → AV → Option AV
  | 0, _ => none
  | n + 1, v =>
    match v with
    | .ptr id o => if id < b then some (.ptr id o) else none
    | .mp id => if id < b then some (.mp id) else none
    | .sl id off len =>
      if id < b then some (.sl id off len) else
      if id < lo then none else
      match row s id with
      | some (cs, sz, _) =>
        match cut cs off (len * sz) with
        | some c => match freezes s lo 0 n c with | some c => (match c.all AV.cellOk with | true => some (.lst (chunks len sz c)) | false => none) | none => none
        | none => none
      | none => none
    | .agg cs => match freezes s lo b n cs with | some cs => some (.agg cs) | none => none
    | .tup cs => match freezes s lo b n cs with | some cs => some (.tup cs) | none => none
    | .ifc t v => match freeze s lo b n v with | some v => some (.ifc t v) | none => none
    | .fn f x y => match freezes s lo b n x, freezes s lo b n y with | some x, some y => some (.fn f x y) | _, _ => none
    | v => some v
def freezes (s : St) (lo b : Nat) : Nat → List AV → Option (List AV)
  | 0, _ => none
  | _, [] => some []
  | n + 1, v :: r => match freeze s lo b n v, freezes s lo b n r with | some v, some r => some (v :: r) | _, _ => none
end

/-! ### The run -/
structure Fr where
  tm : Tr AV
  df : List (FuncId × List AV)
inductive Ex where
  | nrm
  | exit (id : Nat)
  | goto (l : Nat)
  | ret
  | pan (v : AV)
inductive AOut where
  | ret (v : AV)
  | pan (v : AV)

def Fr.put (fr : Fr) (d : Option Nat) (v : AV) : Fr :=
  match d with
  | some d => { fr with tm := fr.tm.set d v }
  | none => fr
def wanted (tm : Tr AV) : Option (Nat × Bool) → Option Bool
  | none => some true
  | some (t, w) => match (tm.get t).getD undefA with | .bool b => some (b == w) | .tup _ => some false | _ => none
def resOf (tm : Tr AV) (s : St) : ERes → Option AV
  | .tmp t => some ((tm.get t).getD undefA)
  | .cell a n agg =>
    match (tm.get a).getD undefA with
    | .ptr id off => match row s id with | some (cs, _, _) => (match cut cs off n with | some c => unflat agg c | none => none) | none => none
    | _ => none
def resAll (tm : Tr AV) (s : St) : List ERes → Option (List AV)
  | [] => some []
  | r :: rs => match resOf tm s r, resAll tm s rs with | some v, some vs => some (v :: vs) | _, _ => none
def tupled : List AV → AV
  | [v] => v
  | vs => .tup vs
def args0 : Nat → List AV → Tr AV → Tr AV
  | _, [], t => t
  | i, a :: r, t => args0 (i + 1) r (t.set i a)
def delta (H : Tr ABlk) (a : Nat) : Nat → List (Nat × Option ABlk)
  | 0 => []
  | n + 1 => (a, H.get a) :: delta H (a + 1) n
def lay (H : Tr ABlk) : List (Nat × Option ABlk) → Tr ABlk
  | [] => H
  | (i, b) :: r => lay (H.put i b) r
/-- What an operation of an open region did: its number; the blocks that it looked at (none: any); those that were there and that it wrote; the blocks that it made or wrote; the numbers of those that it made. -/
structure Did where
  k : Nat
  F : Option (List Nat)
  W : List Nat
  d : List (Nat × Option ABlk)
  a : Nat
  z : Nat
def layIf (H : Tr ABlk) (bf : Nat) : List Did → Tr ABlk
  | [] => H
  | e :: r => layIf (match bf.testBit e.k with | true => lay H e.d | false => H) bf r
def layAll (H : Tr ABlk) : List Did → Tr ABlk
  | [] => H
  | e :: r => layAll (lay H e.d) r
def keep (H : Tr ABlk) : List Nat → Tr ABlk
  | [] => .lf
  | i :: r => match H.get i with | some b => (keep H r).set i b | none => keep H r
def keepF (H : Tr ABlk) : Option (List Nat) → Tr ABlk
  | some F => keep H F
  | none => H
def nmem (i : Nat) : List Nat → Bool
  | [] => false
  | j :: r => Nat.beq i j || nmem i r
def apartN : List Nat → List Nat → Bool
  | [], _ => true
  | i :: r, F => !nmem i F && apartN r F
def apartF (W : List Nat) (F : Option (List Nat)) : Bool :=
  match W, F with
  | [], _ => true
  | _, none => false
  | W, some F => apartN W F
/-- Whatever is done on neither side of this operation leaves alone what it looks at, and the other way round. -/
def clearOf (bf : Nat) (F : Option (List Nat)) (W : List Nat) : List Did → Bool
  | [] => true
  | e :: r => (match bf.testBit e.k with | true => true | false => apartF e.W F && apartF W e.F) && clearOf bf F W r
mutual
/-- No block of these numbers is told of. -/
def AV.clear (a z : Nat) : AV → Bool
  | .ptr i _ | .sl i _ _ | .mp i => Nat.blt i a || Nat.ble z i
  | .agg cs | .tup cs => AV.clears a z cs
  | .ifc _ v => AV.clear a z v
  | .fn _ x y => AV.clears a z x && AV.clears a z y
  | _ => true
def AV.clears (a z : Nat) : List AV → Bool
  | [] => true
  | v :: r => AV.clear a z v && AV.clears a z r
end
def ABlk.clear (a z : Nat) : ABlk → Bool
  | .cells cs _ _ => AV.clears a z cs
  | .map es => AV.clears a z (es.map (·.1)) && AV.clears a z (es.map (·.2))
def clearBlks (a z : Nat) : List (Nat × Option ABlk) → Bool
  | [] => true
  | (_, some b) :: r => b.clear a z && clearBlks a z r
  | (_, none) :: r => clearBlks a z r
/-- What an operation leaves tells of no block that was made by one that needn't be done yet. -/
def clearNew (bf : Nat) (v : AV) (d : List (Nat × Option ABlk)) : List Did → Bool
  | [] => true
  | e :: r => (match bf.testBit e.k || Nat.ble e.z e.a with | true => true | false => v.clear e.a e.z && clearBlks e.a e.z d) && clearNew bf v d r
def footOf (gl : Nat → AV) (tm : Tr AV) : Wet → Option (List Nat) × List Nat
  | .load _ _ x => (match x.ev gl tm with | .ptr id _ => some [id] | _ => some [], [])
  | .slice _ x _ _ => (match x.ev gl tm with | .sl id _ _ => some [id] | _ => some [], [])
  | .store _ a _ => match a.ev gl tm with | .ptr id _ => (some [id], [id]) | _ => (none, [])
  | .alloc _ _ _ | .box _ _ | .bsl _ _ _ _ | .mksl _ _ _ _ _ | .mkmap => (some [], [])
  | _ => (none, [])
def wrote (H : Tr ABlk) : List Nat → List (Nat × Option ABlk)
  | [] => []
  | i :: r => (i, H.get i) :: wrote H r

def findLabel : ECode → Nat → Option ECode
  | .seq a b, l => match findLabel a l with | some rest => some (.seq rest b) | none => findLabel b l
  | .label l', l => if l' = l then some .skip else none
  | _, _ => none

/-- The row's type is known, and that one. -/
def rowTag (s : St) (id t : Nat) : Bool := match row s id with | some (_, _, ex) => Nat.beq (2 * (ex / 2)) t | none => false
/-- A Builder's address cell is its own address from the first write on. -/
def ownRun (lo : Nat) (s : St) : Own → List AV → Option (AOut × St)
  | .check t, [.ptr id off] =>
    if lo ≤ id ∧ off = 0 then
      match row s id with
      | some (cs, sz, ex) =>
        if Nat.beq ex (2 * (t + 1) + 1) && Nat.beq cs.length 2 then
        match cs[off]? with
        | some .nilp => match over cs off [.ptr id off] with | some cs' => some (.ret (.tup []), { s with H := s.H.set id (.cells cs' sz ex) }) | none => none
        | some (.ptr i o) => if i = id ∧ o = off then some (.ret (.tup []), s) else none
        | _ => none
        else none
      | none => none
    else none
  | .text e, [.ptr id off] =>
    match row s id with
    | some (cs, _, ex) =>
      if Nat.ble 2 ex && Nat.beq off 0 then
      match cs[off + 1]? with
      | some .nils => some (.ret (.str []), s)
      | some (.sl j o len) =>
        if lo ≤ j ∧ o = 0 ∧ 0 < len ∧ len < 9223372036854775808 ∧ rowTag s j (2 * (e + 1)) = true then
          match cellsOf s 1 (.sl j o len) with
          | some c => match bytesOf c with | some l => some (.ret (.str l), { s with H := s.H.del j }) | none => none
          | none => none
        else none
      | _ => none
      else none
    | none => none
  | .said r, args => match r args with | some v => some (.ret v, s) | none => none
  | .spec r, args => match r lo s args with | some (v, s) => some (.ret v, s) | none => none
  | _, _ => none

structure Env where
  gl : Nat → AV
  fns : Nat → Option EFunc

/-- What a call looks at and writes, where that is known: the library's own functions. -/
def footCall (E : Env) (s : St) (g : FuncId) (args : List AV) : Option (List Nat) × List Nat :=
  match E.fns g with
  | some F =>
    match F.own, args with
    | some (.check _), [.ptr id _] => (some [id], [id])
    | some (.text _), [.ptr id off] =>
      match row s id with
      | some (cs, _, _) => match cs[off + 1]? with | some (.sl j _ _) => (some [id, j], [id, j]) | _ => (some [id], [])
      | none => (none, [])
    | some (.said _), _ => (some [], [])
    | _, _ => (none, [])
  | none => (none, [])
def didOf (s : St) (k nx : Nat) (f : Option (List Nat) × List Nat) : Did := ⟨k, f.1, f.2, wrote s.H f.2 ++ delta s.H nx (s.nx - nx), nx, s.nx⟩
/-- The numbers of blocks never fall; and what is left tells of no block too many. -/
def sane (bf : Nat) (v : AV) (nx : Nat) (s : St) (D : Did) (ds : List Did) : Bool := Nat.ble nx s.nx && clearNew bf v D.d ds
def lowOf (nx lo : Nat) : List Nat → Nat
  | [] => nx
  | _ => lo

/-- Behind a deferred function's body. -/
def left (b : Bool) (F : EFunc) : Option (Ex × Fr × St) → Option (Bool × St)
  | some (.nrm, fr, s) | some (.ret, fr, s) => match fr.df, resAll fr.tm s F.res with | [], some _ => some (b, s) | _, _ => none
  | _ => none

mutual
def exec (E : Env) : Nat → Nat → ECode → Fr → St → Option (Ex × Fr × St)
  | 0, _, _, _, _ => none
  | n + 1, lo, c, fr, s =>
    match c with
    | .skip => some (.nrm, fr, s)
    | .label _ => some (.nrm, fr, s)
    | .seq a b => match exec E n lo a fr s with | some (.nrm, fr, s) => exec E n lo b fr s | r => r
    | .cond c a b => match c.ev E.gl fr.tm with | .bool true => exec E n lo a fr s | .bool false => exec E n lo b fr s | _ => none
    | .block id b => match exec E n lo b fr s with | some (.exit i, fr, s) => some (if i = id then .nrm else .exit i, fr, s) | r => r
    | .loop b => match exec E n lo b fr s with | some (.nrm, fr, s) => exec E n lo (.loop b) fr s | r => r
    | .scope b =>
      match exec E n lo b fr s with
      | some (.goto l, fr, s) => match findLabel b l with | some c => scopeRun E n lo b c fr s | none => some (.goto l, fr, s)
      | r => r
    | .exit id => some (.exit id, fr, s)
    | .goto l => some (.goto l, fr, s)
    | .ret => some (.ret, fr, s)
    | .stuck => none
    | .reg ops => execOps E n lo ops fr s
    | .draw ops => execDraw E n lo 0 ops fr s.H [] [] s.nx
def scopeRun (E : Env) : Nat → Nat → ECode → ECode → Fr → St → Option (Ex × Fr × St)
  | 0, _, _, _, _, _ => none
  | n + 1, lo, b, c, fr, s =>
    match exec E n lo c fr s with
    | some (.goto l, fr, s) => match findLabel b l with | some c => scopeRun E n lo b c fr s | none => some (.goto l, fr, s)
    | r => r
def execOps (E : Env) : Nat → Nat → List EOper → Fr → St → Option (Ex × Fr × St)
  | 0, _, _, _, _ => none
  | _, _, [], fr, s => some (.nrm, fr, s)
  | n + 1, lo, o :: r, fr, s =>
    match wanted fr.tm o.guard with
    | some false => execOps E n lo r (fr.put o.dst undefA) s
    | some true =>
      match o.op with
      | .dry d => match evDry E.gl fr.tm d with | some v => execOps E n lo r (fr.put o.dst v) s | none => none
      | .wet d => match evWet E.gl fr.tm lo s d with | some (v, s) => execOps E n lo r (fr.put o.dst v) s | none => none
      | .call f args =>
        match f.ev E.gl fr.tm with
        | .fn g a b =>
          match callF E n lo g (a ++ evs E.gl fr.tm args ++ b) s with
          | some (.ret v, s) => execOps E n lo r (fr.put o.dst v) s
          | some (.pan v, s) => some (.pan v, fr, s)
          | none => none
        | _ => none
      | .defer f args =>
        match f.ev E.gl fr.tm with
        | .fn g a b => execOps E n lo r ({ fr with df := (g, a ++ evs E.gl fr.tm args ++ b) :: fr.df }.put o.dst undefA) s
        | _ => none
      | .panic x => match x.ev E.gl fr.tm with | .ifc t v => some (.pan (.ifc t v), fr, s) | _ => none
      | .recover | .stuck => none
    | none => none
def execDraw (E : Env) : Nat → Nat → Nat → List (EOper × Nat × Bool) → Fr → Tr ABlk → List Did → List Did → Nat → Option (Ex × Fr × St)
  | 0, _, _, _, _, _, _, _, _ => none
  | _, _, _, [], fr, H, ds, _, nx => some (.nrm, fr, ⟨layAll H ds, nx⟩)
  | n + 1, lo, k, (o, bf, wr) :: r, fr, H, ds, od, nx =>
    match wanted fr.tm o.guard with
    | some false => execDraw E n lo (k + 1) r (fr.put o.dst undefA) H ds od nx
    | some true =>
      match o.op with
      | .dry d => match evDry E.gl fr.tm d with | some v => (match clearNew bf v [] od with | true => execDraw E n lo (k + 1) r (fr.put o.dst v) H ds od nx | false => none) | none => none
      | .wet d =>
        match wr with
        | true =>
          match evWet E.gl fr.tm lo ⟨layAll H ds, nx⟩ d with
          | some (v, s) => (match Nat.ble nx s.nx with | true => execDraw E n lo (k + 1) r (fr.put o.dst v) s.H [] (⟨k, none, [], [], nx, s.nx⟩ :: od) s.nx | false => none)
          | none => none
        | false =>
          match clearOf bf (footOf E.gl fr.tm d).1 (footOf E.gl fr.tm d).2 ds with
          | true =>
            match evWet E.gl fr.tm (lowOf nx lo (footOf E.gl fr.tm d).2) ⟨keepF (layIf H bf ds) (footOf E.gl fr.tm d).1, nx⟩ d with
            | some (v, s) => (match sane bf v nx s (didOf s k nx (footOf E.gl fr.tm d)) ds with | true => execDraw E n lo (k + 1) r (fr.put o.dst v) H (ds ++ [didOf s k nx (footOf E.gl fr.tm d)]) (⟨k, none, [], [], nx, s.nx⟩ :: od) s.nx | false => none)
            | none => none
          | false => none
      | .call f args =>
        match f.ev E.gl fr.tm with
        | .fn g a b =>
          match wr with
          | true =>
            match callF E n lo g (a ++ evs E.gl fr.tm args ++ b) ⟨layAll H ds, nx⟩ with
            | some (.ret v, s) => (match Nat.ble nx s.nx with | true => execDraw E n lo (k + 1) r (fr.put o.dst v) s.H [] (⟨k, none, [], [], nx, s.nx⟩ :: od) s.nx | false => none)
            | _ => none
          | false =>
            match clearOf bf (footCall E ⟨layIf H bf ds, nx⟩ g (a ++ evs E.gl fr.tm args ++ b)).1 (footCall E ⟨layIf H bf ds, nx⟩ g (a ++ evs E.gl fr.tm args ++ b)).2 ds with
            | true =>
              match callF E n (lowOf nx lo (footCall E ⟨layIf H bf ds, nx⟩ g (a ++ evs E.gl fr.tm args ++ b)).2) g (a ++ evs E.gl fr.tm args ++ b) ⟨keepF (layIf H bf ds) (footCall E ⟨layIf H bf ds, nx⟩ g (a ++ evs E.gl fr.tm args ++ b)).1, nx⟩ with
              | some (.ret v, s) => (match sane bf v nx s (didOf s k nx (footCall E ⟨layIf H bf ds, nx⟩ g (a ++ evs E.gl fr.tm args ++ b))) ds with | true => execDraw E n lo (k + 1) r (fr.put o.dst v) H (ds ++ [didOf s k nx (footCall E ⟨layIf H bf ds, nx⟩ g (a ++ evs E.gl fr.tm args ++ b))]) (⟨k, none, [], [], nx, s.nx⟩ :: od) s.nx | false => none)
              | _ => none
            | false => none
        | _ => none
      | _ => none
    | none => none
def callF (E : Env) : Nat → Nat → FuncId → List AV → St → Option (AOut × St)
  | 0, _, _, _, _ => none
  | n + 1, lo, f, args, s =>
    match E.fns f with
    | none => none
    | some F =>
      match F.own with
      | some o => ownRun lo s o args
      | none =>
      match exec E n (if F.pure then s.nx else lo) F.body ⟨args0 0 args .lf, []⟩ s with
      | some (e, fr, s') =>
        match (match e with | .nrm | .ret => leave E n (if F.pure then s.nx else lo) F fr.tm fr.df none s' | .pan v => leave E n (if F.pure then s.nx else lo) F fr.tm fr.df (some v) s' | _ => none) with
        | some (.ret v, s') => if F.pure then (match freeze s' s.nx s.nx 100000 v with | some v => some (.ret v, s) | none => none) else some (.ret v, s')
        | some (.pan v, s') => if F.pure then (match freeze s' s.nx s.nx 100000 v with | some v => some (.pan v, s) | none => none) else some (.pan v, s')
        | none => none
      | none => none
/-- The deferred calls, the last one first; then the results are read. -/
def leave (E : Env) : Nat → Nat → EFunc → Tr AV → List (FuncId × List AV) → Option AV → St → Option (AOut × St)
  | 0, _, _, _, _, _, _ => none
  | _, _, F, tm, [], none, s => match resAll tm s F.res with | some vs => some (.ret (tupled vs), s) | none => none
  | _, _, _, _, [], some v, s => some (.pan v, s)
  | n + 1, lo, F, tm, (g, args) :: r, p, s =>
    match callD E n lo g args p s with
    | some (true, s) => leave E n lo F tm r none s
    | some (false, s) => leave E n lo F tm r p s
    | none => none
/-- A deferred call of a function that defers nothing itself; if it recovers, that is the first thing that it does. Whether it has recovered, or could have. -/
def callD (E : Env) : Nat → Nat → FuncId → List AV → Option AV → St → Option (Bool × St)
  | 0, _, _, _, _, _ => none
  | n + 1, lo, f, args, p, s =>
    match E.fns f with
    | none => none
    | some F =>
      match F.own, F.pure with
      | none, false =>
        match F.body with
        | .seq (.reg (⟨d, .recover, none⟩ :: ops)) rest =>
          match execOps E n lo ops (Fr.put ⟨args0 0 args .lf, []⟩ d (p.getD .nili)) s with
          | some (.nrm, fr, s) => left true F (exec E n lo rest fr s)
          | _ => none
        | c => left false F (exec E n lo c ⟨args0 0 args .lf, []⟩ s)
      | _, _ => none
end

end Go.Ev
/- From the model's code to the evaluator's. -/
namespace Go.Ev

mutual
def ofValue : Value → Option AV
  | .bool b => some (.bool b)
  | .int k n => some (.int k n)
  | .string s => some (.str (s.data.toList.map (·.toNat)))
  | .pointer none => some .nilp
  | .slice none 0 0 => some .nils
  | .map none => some .nilm
  | .nilFunc => some .nilf
  | .nilIface => some .nili
  | .func (.func f) ⟨[]⟩ ⟨[]⟩ => some (.fn f [] [])
  | .agg ⟨cs⟩ => (ofValues cs).map .agg
  | .tuple ⟨[]⟩ => some (.tup [])
  | _ => none
def ofValues : List Value → Option (List AV)
  | [] => some []
  | v :: r => match ofValue v, ofValues r with | some v, some r => some (v :: r) | _, _ => none
end

section
variable (P : Program)
def ofOperand : Operand → Option Eo
  | .tmp t => some (.t t)
  | .const v => (ofValue v).map .k
  | .global g => some (.g g)
  | .func f => some (.k (.fn f [] []))
def ofOperands : List Operand → Option (List Eo)
  | [] => some []
  | x :: r => match ofOperand x, ofOperands r with | some x, some r => some (x :: r) | _, _ => none
def ofOpt : Option Operand → Option (Option Eo)
  | none => some none
  | some x => (ofOperand x).map some
def sizeT (t : TypeId) : Option Nat := (P.info? t).map (·.size)
def bytesT (t : TypeId) : Option Nat := (P.info? t).map (·.bytes)
def aggT (t : TypeId) : Option Bool := (P.underlying t).map fun | .struct _ | .array _ _ => true | _ => false
def zeroT (t : TypeId) : Option AV := ((P.info? t).bind (·.zero)).bind ofValue
/-- How many cells an element has, where the memory of a type is taken as a row. -/
def rowSz (t : TypeId) : Option Nat :=
  match P.underlying t with
  | some (.array _ e) => sizeT P e
  | some _ => sizeT P t
  | none => none
/-- The type of a row that is a variable's own memory. -/
def exT (t : TypeId) : Nat :=
  match P.underlying t with
  | some (.struct _) => 2 * (t + 1) + 1
  | _ => 1
def ofParts (place : Nat → Option (Nat × Nat)) : List (Nat × Operand) → Option (List (Nat × Nat × Eo))
  | [] => some []
  | (i, x) :: r =>
    match place i, ofOperand x, ofParts place r with
    | some (o, n), some x, some r => some ((o, n, x) :: r)
    | _, _, _ => none
def fieldAt (fs : Array Field) (i : Nat) : Option (Nat × Nat × Bool) :=
  match fs[i]? with
  | some f => match sizeT P f.type, aggT P f.type with | some n, some a => some (f.offset, n, a) | _, _ => none
  | none => none
/-- Is a type one of plain fields? Then '==' goes cell by cell. -/
def primT (t : TypeId) : Option PK :=
  match P.underlying t with
  | some .bool => some .b
  | some (.int _) => some .i
  | some .string => some .s
  | _ => none
/-- The fields of a struct that has plain ones alone, from number i on. -/
def primFs : List Field → Nat → Option (List PK)
  | [], _ => some []
  | f :: r, i =>
    if f.name = "_" ∨ f.offset ≠ i ∨ sizeT P f.type ≠ some 1 ∨ aggT P f.type ≠ some false then none else
    match primT P f.type, primFs r (i + 1) with
    | some k, some ks => some (k :: ks)
    | _, _ => none
def eqKind (t : TypeId) : Option EqK :=
  match P.underlying t with
  | some .bool => some (.prim .b)
  | some (.int _) => some (.prim .i)
  | some .string => some (.prim .s)
  | some (.pointer _) => some (.ref .p)
  | some (.slice _) => some (.ref .s)
  | some (.map _ _) => some (.ref .m)
  | some (.func _ _ _) => some (.ref .f)
  | some (.interface _) => some .ifc
  | some (.struct fs) => if P.eqGuardType P.depth t || P.stoodInHeld t then none else (primFs P fs.toList 0).map .agg
  | _ => none

def isK : Eo → Bool
  | .k (.fn _ _ _) => false
  | .k _ => true
  | _ => false
def ofCallee (f : Operand) (args : List Operand) : Option EOp :=
  match ofOperand f, ofOperands args with
  | some f, some args => some (.call f args)
  | _, _ => none

/-- What may be appended: a slice, or a string. -/
def srcT (t : TypeId) : Bool :=
  match P.underlying t with
  | some (.slice _) | some .string => true
  | _ => false
def ofBuiltin (b : Builtin) (ts : List TypeId) (args : List Operand) : Option EOp :=
  match b, ts, args with
  | .len, [t], [x] =>
    match P.underlying t, ofOperand x with
    | some (.map _ _), some x => some (.wet (.mlen x))
    | some .string, some x => some (.dry (.slen x))
    | some (.slice _), some x => some (.dry (.len x))
    | some (.array n _), some _ => some (.dry (.mov (.k (gint n))))
    | _, _ => none
  | .append, [t, u], [x, y] =>
    match P.underlying t, P.underlying u, ofOperand x, ofOperand y with
    | some (.slice e), some (.int _), some x, some y =>
      match sizeT P e, bytesT P e, zeroT P e with
      | some sz, some by_, some z => if (flat z).length = sz ∧ 0 < sz then some (.wet (.appz sz by_ (flat z) x y)) else none
      | _, _, _ => none
    | some (.slice e), some _, some x, some y =>
      match sizeT P e, bytesT P e, zeroT P e with
      | some sz, some by_, some z => if (flat z).length = sz ∧ 0 < sz ∧ srcT P u then some (.wet (.append (2 * (e + 1)) sz by_ x y)) else none
      | _, _, _ => none
    | _, _, _, _ => none
  | .copy, [t, _], [x, y] =>
    match P.underlying t, ofOperand x, ofOperand y with
    | some (.slice e), some x, some y => match sizeT P e with | some sz => some (.wet (.copy sz x y)) | none => none
    | _, _, _ => none
  | .clear, [t], [x] =>
    match P.underlying t, ofOperand x with
    | some (.slice e), some x => match sizeT P e, zeroT P e with | some sz, some z => if (flat z).length = sz then some (.wet (.clr sz (flat z) x)) else none | _, _ => none
    | _, _ => none
  | .min, _, xs => (ofOperands xs).map fun xs => .dry (.mm false xs)
  | .max, _, xs => (ofOperands xs).map fun xs => .dry (.mm true xs)
  | .recover, _, _ => some .recover
  | _, _, _ => none

def ofOp (o : Op) : Option EOp :=
  match o with
  | .move x | .assign x => (ofOperand x).map fun x => .dry (.mov x)
  | .pick c a b => match ofOperand c, ofOperand a, ofOperand b with | some c, some a, some b => some (.dry (.pick c a b)) | _, _, _ => none
  | .alloc t => match rowSz P t, zeroT P t with | some sz, some z => some (.wet (.alloc (exT P t) sz (flat z))) | _, _ => none
  | .box t x => match rowSz P t, ofOperand x with | some sz, some x => some (.wet (.box sz x)) | _, _ => none
  | .build t parts =>
    match P.underlying t, zeroT P t with
    | some (.struct fs), some z =>
      if fs.toList.all fun f => (sizeT P f.type).isSome then
        match ofParts (fun i => (fieldAt P fs i).map fun (o, n, _) => (o, n)) parts.toList with
        | some ps => some (.dry (.build (flat z) ps))
        | none => none
      else none
    | some (.array _ e), some z =>
      match sizeT P e with
      | some sz => match ofParts (fun i => some (i * sz, sz)) parts.toList with | some ps => some (.dry (.build (flat z) ps)) | none => none
      | none => none
    | _, _ => none
  | .buildSlice t len parts =>
    match P.underlying t with
    | some (.slice e) =>
      match sizeT P e, zeroT P e with
      | some sz, some z =>
        if len * sz ≤ 16777216 ∧ (flat z).length = sz then
          match ofParts (fun i => some (i * sz, sz)) parts.toList with
          | some ps => some (.wet (.bsl sz len (List.replicate len (flat z)).flatten (ps.map fun p => (p.1, p.2.2))))
          | none => none
        else none
      | _, _ => none
    | _ => none
  | .load t x => match sizeT P t, aggT P t, ofOperand x with | some n, some a, some x => some (.wet (.load n a x)) | _, _, _ => none
  | .store t a x => match sizeT P t, ofOperand a, ofOperand x with | some n, some a, some x => some (.wet (.store n a x)) | _, _, _ => none
  | .nilCheck x => (ofOperand x).map fun x => .dry (.nilchk x)
  | .binOp op t x y _ =>
    match ofOperand x, ofOperand y with
    | some x, some y =>
      match op with
      | .eql => match eqKind P t with | some k => if k = .ifc && !isK x && !isK y then none else some (.dry (.eq k false x y)) | none => none
      | .neq => match eqKind P t with | some k => if k = .ifc && !isK x && !isK y then none else some (.dry (.eq k true x y)) | none => none
      | op => some (.dry (.bin op x y))
    | _, _ => none
  | .unOp op _ x =>
    match op, ofOperand x with
    | .not, some x => some (.dry (.not x))
    | .neg, some x => some (.dry (.neg x))
    | .xor, some x => some (.dry (.xor x))
    | _, _ => none
  | .convert src dst x =>
    match P.underlying src, P.underlying dst, ofOperand x with
    | some _, some (.int k), some x => some (.dry (.conv k x))
    | some .string, some .string, some x => some (.dry (.strsl x none none))
    | some (.slice e), some .string, some x => match P.underlying e with | some (.int .u8) => some (.wet (.b2s x)) | _ => none
    | _, _, _ => none
  | .makeInterface t x => match P.underlying t, ofOperand x with | some (.interface _), _ => none | some _, some x => some (.dry (.mkifc t x)) | _, _ => none
  | .makeFunc (.func f) a b => match ofOperands a.toList, ofOperands b.toList with | some a, some b => some (.dry (.mkfn f a b)) | _, _ => none
  | .makeMap _ none => some (.wet .mkmap)
  | .makeMap t (some (.const (.int _ _))) => match P.underlying t with | some (.map _ _) => some (.wet .mkmap) | _ => none
  | .makeSlice t l c =>
    match P.underlying t, ofOperand l, ofOperand c with
    | some (.slice e), some l, some c =>
      match sizeT P e, bytesT P e, zeroT P e with
      | some sz, some by_, some z => if (flat z).length = sz then some (.wet (.mksl sz by_ (flat z) l c)) else none
      | _, _, _ => none
    | _, _, _ => none
  | .slice t x lo hi none =>
    match P.underlying t, ofOperand x, ofOpt lo, ofOpt hi with
    | some .string, some x, some lo, some hi => some (.dry (.strsl x lo hi))
    | some (.slice e), some x, some lo, some hi => match sizeT P e with | some sz => some (.wet (.slice sz x lo hi)) | none => none
    | some (.array n e), some x, some lo, some hi => match sizeT P e with | some sz => some (.wet (.aslice n sz x lo hi)) | none => none
    | _, _, _, _ => none
  | .fieldAddr t x f =>
    match P.underlying t, ofOperand x with
    | some (.struct fs), some x => match fieldAt P fs f with | some (o, n + 1, a) => some (.dry (.faddr o (n + 1) a x)) | _ => none
    | _, _ => none
  | .field t x f =>
    match P.underlying t, ofOperand x with
    | some (.struct fs), some x => match fieldAt P fs f with | some (o, n, a) => some (.dry (.fld o n a x)) | _ => none
    | _, _ => none
  | .indexAddr t x i =>
    match P.underlying t, ofOperand x, ofOperand i with
    | some (.slice e), some x, some i => match sizeT P e with | some sz => some (.dry (.iaddr sz x i)) | none => none
    | some (.array n e), some x, some i => match sizeT P e, aggT P e with | some sz, some a => some (.dry (.aaddr n sz a x i)) | _, _ => none
    | _, _, _ => none
  | .index t x i =>
    match P.underlying t, ofOperand x, ofOperand i with
    | some .string, some x, some i => some (.dry (.sidx x i))
    | some (.array n e), some x, some i => match sizeT P e, aggT P e with | some sz, some a => some (.dry (.aidx n sz a x i)) | _, _ => none
    | _, _, _ => none
  | .lookup t m k ok =>
    match P.underlying t, ofOperand m, ofOperand k with
    | some (.map kt e), some m, some k => match zeroT P e, primT P kt with | some z, some pk => some (.wet (.lookup pk z ok m k)) | _, _ => none
    | _, _, _ => none
  | .mapUpdate t m k v | .insert t m k v =>
    match P.underlying t, ofOperand m, ofOperand k, ofOperand v with
    | some (.map kt _), some m, some k, some v => (primT P kt).map fun pk => .wet (.mapset pk m k v)
    | _, _, _, _ => none
  | .extract x i => (ofOperand x).map fun x => .dry (.extract x i)
  | .typeAssert x _ t ok =>
    match P.underlying t, ofOperand x, zeroT P t with
    | some (.interface _), _, _ => none
    | some _, some x, some z => some (.dry (if ok then .assertok t z x else .assert t x))
    | _, _, _ => none
  | .call { callee := .builtin b, args, argTypes } => ofBuiltin P b argTypes.toList args.toList
  | .call { callee := .value f, args, .. } => ofCallee f args.toList
  | .defer { callee := .value f, args, .. } => match ofOperand f, ofOperands args.toList with | some f, some args => some (.defer f args) | _, _ => none
  | .panic x => (ofOperand x).map .panic
  | _ => none

def ofOper (ops : Array Oper) (o : Oper) : Option EOper :=
  match o.guard with
  | none => some ⟨o.dst, (ofOp P o.op).getD .stuck, none⟩
  | some (j, w) => match (ops[j]?).bind (·.dst) with | some t => some ⟨o.dst, (ofOp P o.op).getD .stuck, some (t, w)⟩ | none => none
def ofOpers (ops : Array Oper) : List Oper → Option (List EOper)
  | [] => some []
  | o :: r => match ofOper P ops o, ofOpers ops r with | some o, some r => some (o :: r) | _, _ => none
end

/-! ### Regions whose order is open -/
def EOp.wetty : EOp → Bool
  | .dry _ => false
  | _ => true
def Eo.tmps : Eo → List Nat
  | .t i => [i]
  | _ => []
def optTmps : Option Eo → List Nat
  | some x => x.tmps
  | none => []
def Dry.tmps : Dry → List Nat
  | .mov x | .nilchk x | .not x | .neg x | .xor x | .conv _ x | .mkifc _ x | .faddr _ _ _ x | .fld _ _ _ x | .extract x _ | .len x | .slen x | .assert _ x | .assertok _ _ x => x.tmps
  | .pick c a b => c.tmps ++ a.tmps ++ b.tmps
  | .build _ ps => ps.flatMap fun p => p.2.2.tmps
  | .bin _ x y | .eq _ _ x y | .iaddr _ x y | .aaddr _ _ _ x y | .aidx _ _ _ x y | .sidx x y => x.tmps ++ y.tmps
  | .mkfn _ a b => a.flatMap Eo.tmps ++ b.flatMap Eo.tmps
  | .strsl x l h => x.tmps ++ optTmps l ++ optTmps h
  | .mm _ xs => xs.flatMap Eo.tmps
def Wet.tmps : Wet → List Nat
  | .alloc _ _ _ | .mkmap => []
  | .box _ x | .load _ _ x | .mlen x | .b2s x => x.tmps
  | .bsl _ _ _ ps => ps.flatMap fun p => p.2.tmps
  | .clr _ _ x => x.tmps
  | .store _ x y | .mksl _ _ _ x y | .lookup _ _ _ x y | .append _ _ _ x y | .appz _ _ _ x y | .copy _ x y => x.tmps ++ y.tmps
  | .aslice _ _ x l h | .slice _ x l h => x.tmps ++ optTmps l ++ optTmps h
  | .mapset _ x y z => x.tmps ++ y.tmps ++ z.tmps
def EOp.tmps : EOp → List Nat
  | .dry d => d.tmps
  | .wet d => d.tmps
  | .call f xs | .defer f xs => f.tmps ++ xs.flatMap Eo.tmps
  | .panic x => x.tmps
  | .recover | .stuck => []
/-- The places that an operation looks at, its guard's too. -/
def EOper.uses (o : EOper) : List Nat := (match o.guard with | some (t, _) => [t] | none => []) ++ o.op.tmps

/-- Of each operation, as bits, which ones are always done ahead of it. -/
def befores : List Oper → List Nat → List Nat
  | [], acc => acc
  | o :: r, acc =>
    befores r (acc ++ [o.after.toList.foldl (fun m e => if Region.binds .any e then m ||| 2 ^ e.on ||| acc.getD e.on 0 else m) 0])
def comparable (ms : List Nat) (i j : Nat) : Bool := i == j || (ms.getD i 0).testBit j || (ms.getD j 0).testBit i
/-- Places: each is written once at most, and whoever looks at it is done on one side of that. -/
def placesOk (ops : Array Oper) (ms : List Nat) : Bool :=
  (ops.toList.zipIdx).all fun (o, i) =>
    match o.dst with
    | none => true
    | some d => (ops.toList.zipIdx).all fun (u, j) => i == j || ((u.dst != some d) && (!(u.looksAt ops).contains d || comparable ms i j))
/-- What is done ahead of an operation stands ahead of it; and the evaluator looks at no more places than the model. -/
def edgesOk (ops : Array Oper) (es : List EOper) : Bool :=
  (ops.toList.zipIdx.all fun (o, i) => o.after.toList.all fun e => !Region.binds .any e || Nat.blt e.on i) &&
  (es.zip ops.toList).all fun (e, o) => e.uses.all fun t => (o.looksAt ops).contains t
def ofDraw (es : List EOper) (ms : List Nat) : List (EOper × Nat × Bool) :=
  es.zipIdx.map fun (o, i) => (o, ms.getD i 0, o.op.wetty && (es.zipIdx).all fun (u, j) => !u.op.wetty || comparable ms i j)

def ofCode (P : Program) : Code → Option ECode
  | .skip => some .skip
  | .region _ ops draw =>
    match ofOpers P ops ops.toList with
    | none => none
    | some es =>
      match draw with
      | false => some (.reg es)
      | true =>
        let ms := befores ops.toList []
        if placesOk ops ms && edgesOk ops es && es.all (fun o => match o.op with | .defer _ _ | .panic _ | .recover => false | _ => true) then some (.draw (ofDraw es ms)) else some .stuck
  | .seq a b => match ofCode P a, ofCode P b with | some a, some b => some (.seq a b) | _, _ => none
  | .cond c a b => match ofOperand c, ofCode P a, ofCode P b with | some c, some a, some b => some (.cond c a b) | _, _, _ => none
  | .block id b => (ofCode P b).map (.block id)
  | .loop b => (ofCode P b).map .loop
  | .scope b => (ofCode P b).map .scope
  | .label l => some (.label l)
  | .goto l => some (.goto l)
  | .exit id => some (.exit id)
  | .ret => some .ret
  | .rangeFunc _ _ _ _ => some .stuck
  | .refuse _ => some .stuck
def ofRes (P : Program) : List ResultVar → Option (List ERes)
  | [] => some []
  | .tmp t :: r => (ofRes P r).map (.tmp t :: ·)
  | .cell a t :: r => match sizeT P t, aggT P t, ofRes P r with | some n, some g, some r => some (.cell a n g :: r) | _, _, _ => none
/-- The type strings.Builder, and that of its bytes. -/
def ownT (P : Program) (f : Func) : Option (TypeId × TypeId) :=
  match f.params.toList with
  | [t] =>
    match P.underlying t with
    | some (.pointer e) =>
      match P.underlying e with
      | some (.struct fs) =>
        match fs[1]? with
        | some x => match P.underlying x.type with | some (.slice b) => some (e, b) | _ => none
        | none => none
      | _ => none
    | _ => none
  | _ => none
def ofFunc (P : Program) (pure : Bool) (f : Func) : Option EFunc :=
  if f.name = "(*strings.Builder).copyCheck" then (ownT P f).map fun x => { own := some (.check x.1), body := .skip, res := [], ntmps := 0, pure := false } else
  if f.name = "(*strings.Builder).String" then (ownT P f).map fun x => { own := some (.text x.2), body := .skip, res := [], ntmps := 0, pure := false } else
  match f.body.bind (ofCode P), ofRes P f.results.toList with
  | some c, some r => some { body := c, res := r, ntmps := f.ntmps, pure := pure }
  | _, _ => none

end Go.Ev
/- What abstract values and the abstract memory say of a world. -/
namespace Go.Ev

/-- Where the evaluator's blocks lie: the real block, the cell at which it begins there, the real row's cells, the cells of an element. -/
structure Emb where
  blk : Nat → Nat
  off : Nat → Nat
  size : Nat → Nat
  sz : Nat → Nat

def Emb.agree (a b : Emb) (nx : Nat) : Prop := ∀ i, i < nx → a.blk i = b.blk i ∧ a.off i = b.off i ∧ a.size i = b.size i ∧ a.sz i = b.sz i

def At (w : World) (b o : Nat) (vs : List Value) : Prop := ∀ i v, vs[i]? = some v → w.cell? ⟨b, o + i, none⟩ = some v

/-- A value of one cell. -/
def one : Value → Bool
  | .agg _ | .tuple _ => false
  | _ => true

mutual
/-- An abstract value tells a value; 'Z': the blocks that nothing writes any more; numbers of blocks below nx. -/
inductive VR (ι : Emb) (w : World) (Z : Nat → Prop) : Nat → AV → Value → Prop where
  | bad (nx : Nat) (a : Option Addr) : VR ι w Z nx .bad (.pointer a)
  | bool (nx : Nat) (b : Bool) : VR ι w Z nx (.bool b) (.bool b)
  | int (nx : Nat) (k : IntKind) (n : Int) : VR ι w Z nx (.int k n) (.int k n)
  | str (nx : Nat) (s : ByteArray) : VR ι w Z nx (.str (s.data.toList.map (·.toNat))) (.string s)
  | nilp (nx : Nat) : VR ι w Z nx .nilp (.pointer none)
  | ptr (nx id off : Nat) (h : id < nx) : VR ι w Z nx (.ptr id off) (.pointer (some ⟨ι.blk id, ι.off id + off, none⟩))
  | cptr (nx : Nat) (v : AV) (b o : Nat) (vs : List Value) (hz : Z b) (ha : At w b o vs) (hv : VRs ι w Z 0 (flat v) vs) : VR ι w Z nx (.cptr v) (.pointer (some ⟨b, o, none⟩))
  | nils (nx : Nat) : VR ι w Z nx .nils (.slice none 0 0)
  | sl (nx id off len cap : Nat) (h : id < nx) (hl : len ≤ cap) (hc : ι.off id + off + cap * ι.sz id ≤ ι.size id) :
      VR ι w Z nx (.sl id off len) (.slice (some ⟨ι.blk id, ι.off id + off, none⟩) len cap)
  | sl0 (nx id off : Nat) (a : Option Addr) (h : id < nx) : VR ι w Z nx (.sl id off 0) (.slice a 0 0)
  | lst0 (nx : Nat) (a : Option Addr) (cap : Nat) : VR ι w Z nx (.lst []) (.slice a 0 cap)
  | lst (nx : Nat) (es : List AV) (b o cap sz : Nat) (vs : List Value) (hl : es.length ≤ cap) (hz : Z b) (ha : At w b o vs) (hs : ∀ e ∈ es, (flat e).length = sz)
      (hv : VRs ι w Z 0 (es.flatMap flat) vs) : VR ι w Z nx (.lst es) (.slice (some ⟨b, o, none⟩) es.length cap)
  | nilm (nx : Nat) : VR ι w Z nx .nilm (.map none)
  | mp (nx id : Nat) (h : id < nx) : VR ι w Z nx (.mp id) (.map (some (ι.blk id)))
  | nilf (nx : Nat) : VR ι w Z nx .nilf .nilFunc
  | fn (nx : Nat) (f : FuncId) (xs ys : List AV) (us vs : Array Value) (hx : VRs ι w Z nx xs us.toList) (hy : VRs ι w Z nx ys vs.toList) : VR ι w Z nx (.fn f xs ys) (.func (.func f) us vs)
  | nili (nx : Nat) : VR ι w Z nx .nili .nilIface
  | ifc (nx : Nat) (t : TypeId) (v : AV) (u : Value) (h : VR ι w Z nx v u) : VR ι w Z nx (.ifc t v) (.iface t u)
  | agg (nx : Nat) (cs : List AV) (vs : Array Value) (h : VRs ι w Z nx cs vs.toList) : VR ι w Z nx (.agg cs) (.agg vs)
  | tup (nx : Nat) (cs : List AV) (vs : Array Value) (h : VRs ι w Z nx cs vs.toList) : VR ι w Z nx (.tup cs) (.tuple vs)
  | any (nx : Nat) (u : Value) (h : one u = true) : VR ι w Z nx .any u
  | mint (nx : Nat) (k : IntKind) (b m : Nat) (n : Int) (h : n % (2 ^ b : Nat) = m) : VR ι w Z nx (.mint k b m) (.int k n)
inductive VRs (ι : Emb) (w : World) (Z : Nat → Prop) : Nat → List AV → List Value → Prop where
  | nil (nx : Nat) : VRs ι w Z nx [] []
  | cons (nx : Nat) (v : AV) (u : Value) (vs : List AV) (us : List Value) (h : VR ι w Z nx v u) (t : VRs ι w Z nx vs us) : VRs ι w Z nx (v :: vs) (u :: us)
end

theorem cell_of_heap {w w' : World} {a : Addr} (h : w'.heap[a.block]? = w.heap[a.block]?) : w'.cell? a = w.cell? a := by
  unfold World.cell?; rw [h]
theorem frozen_of_heap {w w' : World} {a : Addr} (h : w'.heap[a.block]? = w.heap[a.block]?) : w'.frozen? a = w.frozen? a := by
  unfold World.frozen?; rw [h]
theorem At.keep {w w' : World} {b o : Nat} {vs : List Value} (h : At w b o vs) (k : w'.heap[b]? = w.heap[b]?) : At w' b o vs :=
  fun i v hi => (cell_of_heap (a := ⟨b, o + i, none⟩) k).trans (h i v hi)

mutual
theorem VR.mono' {ι ι' : Emb} {w w' : World} {Z Z' : Nat → Prop} (hz : ∀ b, Z b → Z' b ∧ w'.heap[b]? = w.heap[b]?) {nx : Nat} {v : AV} {u : Value} (h : VR ι w Z nx v u) :
    ∀ nx', ι'.agree ι nx → nx ≤ nx' → VR ι' w' Z' nx' v u :=
  match h with
  | .bad _ v => fun _ _ _ => .bad _ _
  | .bool _ b => fun _ _ _ => .bool _ _
  | .int _ k n => fun _ _ _ => .int _ _ _
  | .str _ s => fun _ _ _ => .str _ _
  | .nilp _ => fun _ _ _ => .nilp _
  | .ptr _ id off h => fun nx' ha hn => by
    obtain ⟨e1, e2, _, _⟩ := ha id h
    have := VR.ptr (ι := ι') (w := w') (Z := Z') nx' id off (Nat.lt_of_lt_of_le h hn)
    rw [e1, e2] at this
    exact this
  | .cptr _ v b o vs h1 h2 h3 => fun _ _ _ => .cptr _ _ _ _ vs (hz b h1).1 (h2.keep (hz b h1).2) (VRs.mono' hz h3 0 (fun i hi => absurd hi (Nat.not_lt_zero i)) (Nat.le_refl 0))
  | .nils _ => fun _ _ _ => .nils _
  | .sl _ id off len cap h hl hc => fun nx' ha hn => by
    obtain ⟨e1, e2, e3, e4⟩ := ha id h
    have := VR.sl (ι := ι') (w := w') (Z := Z') nx' id off len cap (Nat.lt_of_lt_of_le h hn) hl (by rw [e2, e3, e4]; exact hc)
    rw [e1, e2] at this
    exact this
  | .sl0 _ id off a h => fun _ _ hn => .sl0 _ _ _ _ (Nat.lt_of_lt_of_le h hn)
  | .lst0 _ a cap => fun _ _ _ => .lst0 _ _ _
  | .lst _ es b o cap sz vs hl h1 h2 hs h3 => fun _ _ _ => .lst _ es b o cap sz vs hl (hz b h1).1 (h2.keep (hz b h1).2) hs (VRs.mono' hz h3 0 (fun i hi => absurd hi (Nat.not_lt_zero i)) (Nat.le_refl 0))
  | .nilm _ => fun _ _ _ => .nilm _
  | .mp _ id h => fun nx' ha hn => by
    obtain ⟨e1, _, _, _⟩ := ha id h
    have := VR.mp (ι := ι') (w := w') (Z := Z') nx' id (Nat.lt_of_lt_of_le h hn)
    rw [e1] at this
    exact this
  | .nilf _ => fun _ _ _ => .nilf _
  | .fn _ f xs ys us vs hx hy => fun nx' ha hn => .fn _ f xs ys us vs (VRs.mono' hz hx nx' ha hn) (VRs.mono' hz hy nx' ha hn)
  | .nili _ => fun _ _ _ => .nili _
  | .ifc _ t v u h => fun nx' ha hn => .ifc _ t v u (VR.mono' hz h nx' ha hn)
  | .agg _ cs vs h => fun nx' ha hn => .agg _ cs vs (VRs.mono' hz h nx' ha hn)
  | .tup _ cs vs h => fun nx' ha hn => .tup _ cs vs (VRs.mono' hz h nx' ha hn)
  | .any _ u h => fun _ _ _ => .any _ u h
  | .mint _ k b m n h => fun _ _ _ => .mint _ k b m n h
theorem VRs.mono' {ι ι' : Emb} {w w' : World} {Z Z' : Nat → Prop} (hz : ∀ b, Z b → Z' b ∧ w'.heap[b]? = w.heap[b]?) {nx : Nat} {v : List AV} {u : List Value} (h : VRs ι w Z nx v u) :
    ∀ nx', ι'.agree ι nx → nx ≤ nx' → VRs ι' w' Z' nx' v u :=
  match h with
  | .nil _ => fun _ _ _ => .nil _
  | .cons _ v u vs us h t => fun nx' ha hn => .cons _ v u vs us (VR.mono' hz h nx' ha hn) (VRs.mono' hz t nx' ha hn)
end
theorem VR.mono {ι ι' : Emb} {w w' : World} {Z Z' : Nat → Prop} {nx nx' : Nat} {v : AV} {u : Value} (ha : ι'.agree ι nx) (hz : ∀ b, Z b → Z' b ∧ w'.heap[b]? = w.heap[b]?) (hn : nx ≤ nx')
    (h : VR ι w Z nx v u) : VR ι' w' Z' nx' v u := VR.mono' hz h nx' ha hn
theorem VRs.mono {ι ι' : Emb} {w w' : World} {Z Z' : Nat → Prop} {nx nx' : Nat} {v : List AV} {u : List Value} (ha : ι'.agree ι nx) (hz : ∀ b, Z b → Z' b ∧ w'.heap[b]? = w.heap[b]?) (hn : nx ≤ nx')
    (h : VRs ι w Z nx v u) : VRs ι' w' Z' nx' v u := VRs.mono' hz h nx' ha hn

section
variable {ι : Emb} {w : World} {Z : Nat → Prop} {nx : Nat}
theorem VRs.length {v : List AV} {u : List Value} (h : VRs ι w Z nx v u) : v.length = u.length := by
  induction v generalizing u with
  | nil => cases h; rfl
  | cons a r ih => cases h with | cons _ _ _ _ _ h t => simp [ih t]
theorem VRs.append {v v' : List AV} {u u' : List Value} (h : VRs ι w Z nx v u) (h' : VRs ι w Z nx v' u') : VRs ι w Z nx (v ++ v') (u ++ u') := by
  induction v generalizing u with
  | nil => cases h; exact h'
  | cons a r ih => cases h with | cons _ _ _ _ _ h t => exact .cons _ _ _ _ _ h (ih t)
theorem VRs.get {v : List AV} {u : List Value} (h : VRs ι w Z nx v u) {i : Nat} {a : AV} (hi : v[i]? = some a) : ∃ x, u[i]? = some x ∧ VR ι w Z nx a x := by
  induction v generalizing u i with
  | nil => simp at hi
  | cons b r ih =>
    cases h with
    | cons _ _ x _ us h t =>
      cases i with
      | zero => simp at hi; subst hi; exact ⟨x, rfl, h⟩
      | succ i => simpa using ih t (by simpa using hi)
theorem VRs.take {v : List AV} {u : List Value} (h : VRs ι w Z nx v u) (n : Nat) : VRs ι w Z nx (v.take n) (u.take n) := by
  induction v generalizing u n with
  | nil => cases h; simp; exact .nil _
  | cons b r ih =>
    cases h with
    | cons _ _ x _ us h t =>
      cases n with
      | zero => exact .nil _
      | succ n => exact .cons _ _ _ _ _ h (ih t n)
theorem VRs.drop {v : List AV} {u : List Value} (h : VRs ι w Z nx v u) (n : Nat) : VRs ι w Z nx (v.drop n) (u.drop n) := by
  induction v generalizing u n with
  | nil => cases h; simp; exact .nil _
  | cons b r ih =>
    cases h with
    | cons _ _ x _ us h t =>
      cases n with
      | zero => exact .cons _ _ _ _ _ h t
      | succ n => exact ih t n
theorem VRs.ofGet {v : List AV} {u : List Value} (hl : v.length = u.length) (h : ∀ (i : Nat) (a : AV) (x : Value), v[i]? = some a → u[i]? = some x → VR ι w Z nx a x) : VRs ι w Z nx v u := by
  induction v generalizing u with
  | nil => cases u with | nil => exact .nil _ | cons => simp at hl
  | cons a r ih =>
    cases u with
    | nil => simp at hl
    | cons x us => exact .cons _ _ _ _ _ (h 0 a x rfl rfl) (ih (by simpa using hl) fun i b y hb hy => h (i + 1) b y (by simpa using hb) (by simpa using hy))
theorem VRs.single {a : AV} {x : Value} (h : VR ι w Z nx a x) : VRs ι w Z nx [a] [x] := .cons _ _ _ _ _ h (.nil _)
theorem VR.flat {v : AV} {u : Value} (h : VR ι w Z nx v u) : VRs ι w Z nx (flat v) u.cells.toList := by
  cases h with
  | agg _ cs vs h => exact h
  | any _ u h => cases u <;> simp [one] at h <;> exact VRs.single (.any _ _ rfl)
  | _ => exact VRs.single (by constructor <;> assumption)
end

inductive KK where
  | b | s | i (k : IntKind)
def kindOf : AV → Option KK
  | .bool _ => some .b
  | .str _ => some .s
  | .int k _ => some (.i k)
  | _ => none
/-- The keys of a map of the evaluator's are plain, of one kind, and unlike. -/
def KeysOk (es : List (AV × AV)) : Prop := (∃ c, ∀ p ∈ es, kindOf p.1 = some c) ∧ es.Pairwise fun p q => keyEq p.1 q.1 = some false
/-- What a block of the evaluator's says of the world. -/
def BR (ι : Emb) (w : World) (Z : Nat → Prop) (nx id : Nat) : ABlk → Prop
  | .cells cs sz ex => ι.sz id = sz ∧ ∃ c el fz, w.heap[ι.blk id]? = some (.cells c el fz) ∧ c.size = ι.size id ∧ ι.off id + cs.length ≤ c.size ∧ ((ex % 2 = 1 → ι.off id + cs.length = c.size) ∧ (2 ≤ ex → ι.off id = 0 ∧ ex / 2 = el + 1)) ∧
      (∀ i, i < c.size → ¬ (fz.1 ≤ i ∧ i < fz.2)) ∧ ∃ vs, VRs ι w Z nx cs vs ∧ ∀ i v, vs[i]? = some v → c[ι.off id + i]? = some v
  | .map es => KeysOk es ∧ ∃ (ents : Array MapEntry) (clock : Nat), w.heap[ι.blk id]? = some (.map ents clock) ∧
      ∃ l : List (Value × Value), VRs ι w Z nx (es.map (·.1)) (l.map (·.1)) ∧ VRs ι w Z nx (es.map (·.2)) (l.map (·.2)) ∧ List.Perm l (ents.toList.map fun e => (e.key, e.val))

/-- The world holds what the evaluator's memory says. -/
structure Rel (ι : Emb) (w : World) (Z : Nat → Prop) (nx : Nat) (G : Nat → Option ABlk) : Prop where
  blk : ∀ id b, G id = some b → id < nx ∧ ι.blk id < w.heap.size ∧ ¬ Z (ι.blk id) ∧ BR ι w Z nx id b
  inj : ∀ i j b c, G i = some b → G j = some c → i ≠ j → ι.blk i ≠ ι.blk j
  zlt : ∀ b, Z b → b < w.heap.size

/-- What a step may have done to the world. -/
structure Ext (ι : Emb) (w : World) (Z : Nat → Prop) (nx lo : Nat) (G : Nat → Option ABlk) (ι' : Emb) (w' : World) (Z' : Nat → Prop) (nx' : Nat) (G' : Nat → Option ABlk) : Prop where
  agree : ι'.agree ι nx
  nxle : nx ≤ nx'
  zmono : ∀ b, Z b → Z' b
  znew : ∀ b, Z' b → Z b ∨ w.heap.size ≤ b ∨ ∃ id, lo ≤ id ∧ (G id).isSome ∧ ι.blk id = b
  kept : ∀ b, b < w.heap.size → (∀ id, lo ≤ id → (G id).isSome → ι.blk id ≠ b) → w'.heap[b]? = w.heap[b]?
  size : w.heap.size ≤ w'.heap.size
  img : ∀ id, (G' id).isSome → w.heap.size ≤ ι'.blk id ∨ ∃ id0, (G id0).isSome ∧ ι.blk id0 = ι'.blk id ∧ (lo ≤ id0 ∨ id0 = id)
  os : w'.os = w.os
  tape : w'.tape = w.tape
  output : w'.output = w.output

theorem Emb.agree.refl (ι : Emb) (nx : Nat) : ι.agree ι nx := fun _ _ => ⟨rfl, rfl, rfl, rfl⟩
theorem Emb.agree.trans {a b c : Emb} {n m : Nat} (h : b.agree a n) (h' : c.agree b m) (hn : n ≤ m) : c.agree a n := fun i hi => by
  obtain ⟨a1, a2, a3, a4⟩ := h i hi
  obtain ⟨b1, b2, b3, b4⟩ := h' i (Nat.lt_of_lt_of_le hi hn)
  exact ⟨b1.trans a1, b2.trans a2, b3.trans a3, b4.trans a4⟩

section
variable {ι : Emb} {w : World} {Z : Nat → Prop} {nx lo : Nat} {G : Nat → Option ABlk} {ι' : Emb} {w' : World} {Z' : Nat → Prop} {nx' : Nat} {G' : Nat → Option ABlk}
theorem Ext.refl : Ext ι w Z nx lo G ι w Z nx G :=
  ⟨.refl _ _, Nat.le_refl _, fun _ h => h, fun _ h => .inl h, fun _ _ _ => rfl, Nat.le_refl _, fun id h => .inr ⟨id, h, rfl, .inr rfl⟩, rfl, rfl, rfl⟩
theorem Ext.trans {ι2 : Emb} {w2 : World} {Z2 : Nat → Prop} {nx2 : Nat} {G2 : Nat → Option ABlk} (h : Ext ι w Z nx lo G ι' w' Z' nx' G') (k : Ext ι' w' Z' nx' lo G' ι2 w2 Z2 nx2 G2) :
    Ext ι w Z nx lo G ι2 w2 Z2 nx2 G2 := by
  refine ⟨h.agree.trans k.agree h.nxle, Nat.le_trans h.nxle k.nxle, fun b hb => k.zmono b (h.zmono b hb), ?_, ?_, Nat.le_trans h.size k.size, ?_, k.os.trans h.os, k.tape.trans h.tape, k.output.trans h.output⟩
  · intro b hb
    rcases k.znew b hb with hb | hb | ⟨id, hl, hi, he⟩
    · exact h.znew b hb
    · exact .inr (.inl (Nat.le_trans h.size hb))
    · rcases h.img id hi with hs | ⟨id0, h0, he0, hl0⟩
      · exact .inr (.inl (he ▸ hs))
      · exact .inr (.inr ⟨id0, by rcases hl0 with hl0 | hl0 <;> omega, h0, he0.trans he⟩)
  · intro b hb hn
    have h1 := h.kept b hb hn
    refine (k.kept b (Nat.lt_of_lt_of_le hb h.size) ?_).trans h1
    intro id hl hi he
    rcases h.img id hi with hs | ⟨id0, h0, he0, hl0⟩
    · omega
    · exact hn id0 (by rcases hl0 with hl0 | hl0 <;> omega) h0 (he0.trans he)
  · intro id hi
    rcases k.img id hi with hs | ⟨id0, h0, he0, hl0⟩
    · exact .inl (Nat.le_trans h.size hs)
    · rcases h.img id0 h0 with hs | ⟨id1, h1, he1, hl1⟩
      · exact .inl (he0 ▸ hs)
      · refine .inr ⟨id1, h1, he1.trans he0, ?_⟩
        rcases hl0 with hl0 | hl0
        · rcases hl1 with hl1 | hl1
          · exact .inl hl1
          · exact .inl (by omega)
        · subst hl0; exact hl1
/-- Blocks that nothing writes any more are as they were. -/
theorem Ext.zkept (h : Ext ι w Z nx lo G ι' w' Z' nx' G') (r : Rel ι w Z nx G) : ∀ b, Z b → Z' b ∧ w'.heap[b]? = w.heap[b]? := by
  intro b hb
  refine ⟨h.zmono b hb, h.kept b (r.zlt b hb) ?_⟩
  intro id _ hi he
  obtain ⟨x, hx⟩ := Option.isSome_iff_exists.1 hi
  exact (r.blk id x hx).2.2.1 (he ▸ hb)
theorem VR.ext {v : AV} {u : Value} (e : Ext ι w Z nx lo G ι' w' Z' nx' G') (r : Rel ι w Z nx G) (h : VR ι w Z nx v u) : VR ι' w' Z' nx' v u := h.mono e.agree (e.zkept r) e.nxle
theorem VRs.ext {v : List AV} {u : List Value} (e : Ext ι w Z nx lo G ι' w' Z' nx' G') (r : Rel ι w Z nx G) (h : VRs ι w Z nx v u) : VRs ι' w' Z' nx' v u := h.mono e.agree (e.zkept r) e.nxle
/-- A memory that says less. -/
theorem Rel.sub (r : Rel ι w Z nx G) (h : ∀ id b, G' id = some b → G id = some b) : Rel ι w Z nx G' :=
  ⟨fun id b hb => r.blk id b (h id b hb), fun i j b c hb hc => r.inj i j b c (h i b hb) (h j c hc), r.zlt⟩
end

/-! ### Values of the code -/
mutual
theorem ofValue_sound {ι : Emb} {w : World} {Z : Nat → Prop} {nx : Nat} : ∀ (u : Value) (v : AV), ofValue u = some v → VR ι w Z nx v u
  | .bool b, v, h => by simp [ofValue] at h; subst h; exact .bool _ _
  | .int k n, v, h => by simp [ofValue] at h; subst h; exact .int _ _ _
  | .string s, v, h => by simp [ofValue] at h; subst h; exact .str _ _
  | .pointer none, v, h => by simp [ofValue] at h; subst h; exact .nilp _
  | .slice none 0 0, v, h => by simp [ofValue] at h; subst h; exact .nils _
  | .map none, v, h => by simp [ofValue] at h; subst h; exact .nilm _
  | .nilFunc, v, h => by simp [ofValue] at h; subst h; exact .nilf _
  | .nilIface, v, h => by simp [ofValue] at h; subst h; exact .nili _
  | .func (.func f) ⟨[]⟩ ⟨[]⟩, v, h => by simp [ofValue] at h; subst h; exact .fn _ _ _ _ _ _ (.nil _) (.nil _)
  | .agg ⟨cs⟩, v, h => by
    simp only [ofValue, Option.map_eq_some_iff] at h
    obtain ⟨x, hx, rfl⟩ := h
    exact .agg _ _ _ (ofValues_sound cs x hx)
  | .tuple ⟨[]⟩, v, h => by simp [ofValue] at h; subst h; exact .tup _ _ _ (.nil _)
  | .float .., v, h => by simp [ofValue] at h
  | .complex .., v, h => by simp [ofValue] at h
  | .pointer (some _), v, h => by simp [ofValue] at h
  | .slice (some _) _ _, v, h => by simp [ofValue] at h
  | .slice none (_ + 1) _, v, h => by simp [ofValue] at h
  | .slice none 0 (_ + 1), v, h => by simp [ofValue] at h
  | .map (some _), v, h => by simp [ofValue] at h
  | .chan _, v, h => by simp [ofValue] at h
  | .iface _ _, v, h => by simp [ofValue] at h
  | .tuple ⟨_ :: _⟩, v, h => by simp [ofValue] at h
  | .func (.method _) _ _, v, h => by simp [ofValue] at h
  | .func (.methodOf _ _) _ _, v, h => by simp [ofValue] at h
  | .func (.via _ _ _ _) _ _, v, h => by simp [ofValue] at h
  | .func (.yield _) _ _, v, h => by simp [ofValue] at h
  | .func (.func _) ⟨_ :: _⟩ _, v, h => by simp [ofValue] at h
  | .func (.func _) ⟨[]⟩ ⟨_ :: _⟩, v, h => by simp [ofValue] at h
theorem ofValues_sound {ι : Emb} {w : World} {Z : Nat → Prop} {nx : Nat} : ∀ (u : List Value) (v : List AV), ofValues u = some v → VRs ι w Z nx v u
  | [], v, h => by simp [ofValues] at h; subst h; exact .nil _
  | a :: r, v, h => by
    simp only [ofValues] at h
    cases h1 : ofValue a with
    | none => simp [h1] at h
    | some x =>
      cases h2 : ofValues r with
      | none => simp [h1, h2] at h
      | some y =>
        simp [h1, h2] at h
        subst h
        exact .cons _ _ _ _ _ (ofValue_sound a x h1) (ofValues_sound r y h2)
end

end Go.Ev
/- Each instruction that only looks at its operands does in the model what the evaluator says. -/
namespace Go.Ev

def GlR (ι : Emb) (w : World) (Z : Nat → Prop) (gl : Nat → AV) : Prop := ∀ g, VR ι w Z 0 (gl g) (.pointer (some ⟨g, 0, none⟩))
def TmR (ι : Emb) (w : World) (Z : Nat → Prop) (nx : Nat) (tm : Tr AV) (tmps : Array Value) : Prop := ∀ t, VR ι w Z nx ((tm.get t).getD undefA) (tmps.getD t undef)

section sems
variable {P : Program} {w : World} {t : TypeId}
theorem run_typeInfo' {i : TypeInfo} (h : P.info? t = some i) : (typeInfo t).run P w = .ok i w := by
  simp [typeInfo, program, Sem.run, h]
theorem run_sizeT {n : Nat} (h : sizeT P t = some n) : (sizeOf t).run P w = .ok n w := by
  unfold sizeT at h
  cases hi : P.info? t with
  | none => simp [hi] at h
  | some i =>
    simp [hi] at h
    simp [sizeOf, run_typeInfo' hi, h]
theorem run_underlying' {d : TypeDesc} (h : P.underlying t = some d) : (underlying t).run P w = .ok d w := by
  simp [underlying, program, Sem.run, h]
theorem run_aggT {b : Bool} (h : aggT P t = some b) : (isAgg t).run P w = .ok b w := by
  unfold aggT at h
  cases hu : P.underlying t with
  | none => simp [hu] at h
  | some d =>
    rw [hu] at h
    simp only [Option.map_some, Option.some.injEq] at h
    subst h
    simp only [isAgg, Sem.run_bind, run_underlying' hu, Result.andThen_ok]
    cases d <;> rfl
theorem run_zeroT {z : Value} (h : (P.info? t).bind (·.zero) = some z) : (zeroValue t).run P w = .ok z w := by
  cases hi : P.info? t with
  | none => simp [hi] at h
  | some i =>
    simp [hi] at h
    simp [zeroValue, run_typeInfo' hi, h]
end sems

section
variable {ι : Emb} {w : World} {Z : Nat → Prop} {nx : Nat} {gl : Nat → AV} {tm : Tr AV} {P : Program} {a : Act}

theorem eo_sound (hgl : GlR ι w Z gl) (htm : TmR ι w Z nx tm a.tmps) {x : Operand} {e : Eo} (h : ofOperand x = some e) : VR ι w Z nx (e.ev gl tm) (a.eval x) := by
  cases x with
  | tmp t => simp [ofOperand] at h; subst h; exact htm t
  | const v =>
    simp only [ofOperand, Option.map_eq_some_iff] at h
    obtain ⟨y, hy, rfl⟩ := h
    exact ofValue_sound v y hy
  | global g =>
    simp [ofOperand] at h; subst h
    exact (hgl g).mono (fun i hi => absurd hi (Nat.not_lt_zero i)) (fun b hb => ⟨hb, rfl⟩) (Nat.zero_le _)
  | func f => simp [ofOperand] at h; subst h; exact .fn _ _ _ _ _ _ (.nil _) (.nil _)
theorem eos_sound (hgl : GlR ι w Z gl) (htm : TmR ι w Z nx tm a.tmps) : ∀ {xs : List Operand} {es : List Eo}, ofOperands xs = some es → VRs ι w Z nx (evs gl tm es) (xs.map a.eval)
  | [], es, h => by simp [ofOperands] at h; subst h; exact .nil _
  | x :: r, es, h => by
    simp only [ofOperands] at h
    cases h1 : ofOperand x with
    | none => simp [h1] at h
    | some e =>
      cases h2 : ofOperands r with
      | none => simp [h1, h2] at h
      | some es' =>
        simp [h1, h2] at h
        subst h
        exact .cons _ _ _ _ _ (eo_sound hgl htm h1) (eos_sound hgl htm h2)

theorem natOf_sound {v : AV} {u : Value} {n : Nat} (h : natOf v = some n) (hv : VR ι w Z nx v u) : ∃ k, u = .int k n := by
  cases v with
  | int k m =>
    cases m with
    | ofNat m => simp [natOf] at h; subst h; cases hv; exact ⟨k, rfl⟩
    | negSucc m => simp [natOf] at h
  | _ => simp [natOf] at h

/-- A part of a struct or an array. -/
theorem cut_some {cs c : List AV} {off n : Nat} (h : cut cs off n = some c) : c = (cs.drop off).take n ∧ c.length = n := by
  unfold cut at h
  simp only at h
  cases hb : Nat.beq ((cs.drop off).take n).length n with
  | true => rw [hb] at h; simp at h; subst h; exact ⟨rfl, Nat.eq_of_beq_eq_true hb⟩
  | false => rw [hb] at h; simp at h
theorem cut_le {cs c : List AV} {off n : Nat} (h : cut cs off n = some c) : n = 0 ∨ off + n ≤ cs.length := by
  obtain ⟨rfl, hl⟩ := cut_some h
  simp at hl
  omega
theorem flat_unflat {g : Bool} {c : List AV} {v : AV} (h : unflat g c = some v) : flat v = c := by
  unfold unflat at h
  split at h
  · simp at h; subst h; rfl
  · simp at h
  · simp at h; subst h
    rename_i c hn
    unfold flat
    split
    · rename_i cs; exact absurd rfl (hn cs)
    · rfl
  · simp at h
theorem unflat_sound {g : Bool} {c : List AV} {v : AV} {vs : List Value} (h : unflat g c = some v) (hv : VRs ι w Z nx c vs) :
    (g = true ∧ VR ι w Z nx v (.agg vs.toArray)) ∨ (g = false ∧ ∃ u, vs = [u] ∧ c = [v] ∧ VR ι w Z nx v u) := by
  unfold unflat at h
  split at h
  · simp at h; subst h; exact .inl ⟨rfl, .agg _ _ _ (by simpa using hv)⟩
  · simp at h
  · simp at h; subst h
    cases hv with
    | cons _ _ u _ us h t => cases t; exact .inr ⟨rfl, u, rfl, rfl, h⟩
  · simp at h
theorem run_part {t : TypeId} {g : Bool} {n off : Nat} {cs : Array Value} {xs c : List AV} {v : AV} (hs : sizeT P t = some n) (ha : aggT P t = some g) (hv : VRs ι w Z nx xs cs.toList)
    (hc : cut xs off n = some c) (hu : unflat g c = some v) : ∃ u, (part t cs off).run P w = .ok u w ∧ VR ι w Z nx v u := by
  obtain ⟨rfl, hl⟩ := cut_some hc
  have hv' := (hv.drop off).take n
  rcases unflat_sound hu hv' with ⟨rfl, h⟩ | ⟨rfl, u, he, hce, h⟩
  · refine ⟨_, ?_, h⟩
    simp only [part, Sem.run_bind, run_aggT ha, Result.andThen_ok, if_true, run_sizeT hs]
    simp only [Sem.run_pure]
    congr 2
    apply Array.ext'
    simp
  · refine ⟨u, ?_, h⟩
    have hn : n = 1 := by rw [hce] at hl; simpa using hl.symm
    subst hn
    have hg : cs[off]? = some u := by
      have h1 : (cs.toList.drop off)[0]? = some u := by
        have := congrArg (fun l => l[0]?) he
        simpa using this
      simpa using h1
    simp only [part, Sem.run_bind, run_aggT ha, Result.andThen_ok, Bool.false_eq_true, if_false, hg]
    rfl

theorem fills_sound {place : Nat → Option (Nat × Nat)} (hgl : GlR ι w Z gl) (htm : TmR ι w Z nx tm a.tmps) : ∀ {ps : List (Nat × Operand)} {qs : List (Nat × Nat × Eo)} {cs ds : List AV} {vs : Array Value},
    ofParts place ps = some qs → fills cs (qs.map fun p => (p.1, p.2.1, p.2.2.ev gl tm)) = some ds → VRs ι w Z nx cs vs.toList →
    ∃ us, Instr.fill place vs (ps.map fun p => (p.1, a.eval p.2)) = some us ∧ VRs ι w Z nx ds us.toList := by
  intro ps
  induction ps with
  | nil => intro qs cs ds vs h hf hv; simp [ofParts] at h; subst h; simp [fills] at hf; subst hf; exact ⟨vs, rfl, hv⟩
  | cons p r ih =>
    obtain ⟨i, x⟩ := p
    intro qs cs ds vs h hf hv
    simp only [ofParts] at h
    cases h1 : place i with
    | none => simp [h1] at h
    | some on =>
      obtain ⟨off, n⟩ := on
      cases h2 : ofOperand x with
      | none => simp [h1, h2] at h
      | some e =>
        cases h3 : ofParts place r with
        | none => simp [h1, h2, h3] at h
        | some qs' =>
          simp [h1, h2, h3] at h
          subst h
          have hx := eo_sound (a := a) hgl htm h2
          have hfl := hx.flat
          have hlen := hfl.length
          simp only [List.map_cons, fills] at hf
          cases hb1 : Nat.beq (flat (e.ev gl tm)).length n with
          | false => rw [hb1] at hf; simp at hf
          | true =>
            rw [hb1] at hf
            have hn := Nat.eq_of_beq_eq_true hb1
            cases ho : over cs off (flat (e.ev gl tm)) with
            | none => rw [ho] at hf; simp at hf
            | some cs' =>
              rw [ho] at hf
              simp only at hf
              unfold over at ho
              cases hle : Nat.ble (off + (flat (e.ev gl tm)).length) cs.length with
              | false => rw [hle] at ho; simp at ho
              | true =>
                rw [hle] at ho
                simp at ho
                have hle' := Nat.le_of_ble_eq_true hle
                have hcl := hv.length
                let u := a.eval x
                let us : Array Value := ((vs.toList.take off) ++ u.cells.toList ++ vs.toList.drop (off + u.cells.size)).toArray
                have hus : VRs ι w Z nx cs' us.toList := by
                  subst ho
                  have hsz : u.cells.size = (flat (e.ev gl tm)).length := by simpa [u] using hlen.symm
                  simp only [us, hsz]
                  rw [← List.append_assoc]
                  exact ((hv.take off).append hfl).append (hv.drop _)
                obtain ⟨us', hfu, hvu⟩ := ih h3 hf hus
                refine ⟨us', ?_, hvu⟩
                simp only [List.map_cons, Instr.fill, h1]
                have hsz : u.cells.size = n := by rw [← hn]; simpa [u] using hlen.symm
                have hcl' : vs.size = cs.length := by simpa using hcl.symm
                have hsz' : (a.eval x).cells.size = n := hsz
                rw [if_neg (by
                  intro hh
                  rcases (Bool.or_eq_true _ _).mp hh with h | h
                  · exact of_decide_eq_true h hsz'
                  · have := of_decide_eq_true h
                    omega)]
                rw [← hfu]
                congr 1
                apply Array.ext_getElem?
                intro j
                have key : ∀ (l : List Value) (k : Nat) (b : Array Value), (l.zipIdx k).foldl (fun cs (c, j) => cs.setIfInBounds (off + j) c) b =
                    b.mapIdx fun m v => if off + k ≤ m ∧ m < off + k + l.length then l.getD (m - off - k) undef else v := by
                  intro l
                  induction l with
                  | nil =>
                    intro k b
                    apply Array.ext_getElem?
                    intro m
                    simp only [List.zipIdx_nil, List.foldl_nil, Array.getElem?_mapIdx, List.length_nil]
                    cases b[m]? with
                    | none => rfl
                    | some v => simp only [Option.map_some]; rw [if_neg (by omega)]
                  | cons c l ihl =>
                    intro k b
                    simp only [List.zipIdx_cons, List.foldl_cons]
                    rw [ihl]
                    apply Array.ext_getElem?
                    intro m
                    simp only [Array.getElem?_mapIdx, Array.getElem?_setIfInBounds, Array.size_setIfInBounds]
                    by_cases hm : off + k = m
                    · subst hm
                      by_cases hsz2 : off + k < b.size
                      · simp [hsz2]
                        omega
                      · simp [hsz2, Array.getElem?_eq_none (Nat.le_of_not_lt hsz2)]
                    · simp only [hm, if_false]
                      cases b[m]? with
                      | none => rfl
                      | some v =>
                        simp only [Option.map_some, List.length_cons]
                        congr 1
                        by_cases h1 : off + (k + 1) ≤ m ∧ m < off + (k + 1) + l.length
                        · rw [if_pos h1, if_pos (by omega)]
                          have : m - off - k = (m - off - (k + 1)) + 1 := by omega
                          rw [this]; simp
                        · rw [if_neg h1, if_neg (by omega)]
                have h0 := key u.cells.toList 0 vs
                have harr : (u.cells.zipIdx.foldl (fun cs (c, j) => cs.setIfInBounds (off + j) c) vs) = (u.cells.toList.zipIdx 0).foldl (fun cs (c, j) => cs.setIfInBounds (off + j) c) vs := by
                  rw [← Array.foldl_toList]; simp
                show ((a.eval x).cells.zipIdx.foldl (fun cs (c, j) => cs.setIfInBounds (off + j) c) vs)[j]? = us[j]?
                rw [show (a.eval x) = u from rfl, harr, h0]
                simp only [Array.getElem?_mapIdx, Nat.add_zero, us, List.getElem?_toArray]
                have hu2 : u.cells.toList.length = n := by simpa using hsz
                by_cases hj1 : j < off
                · rw [List.append_assoc, List.getElem?_append_left (by simp; omega)]
                  simp [hj1, Nat.not_le.2 hj1]
                · by_cases hj2 : j < off + n
                  · rw [List.append_assoc, List.getElem?_append_right (by simp; omega), List.getElem?_append_left (by simp; omega)]
                    simp only [List.length_take, Array.length_toList]
                    have hjv : j < vs.size := by omega
                    have e1 : j - min off vs.size = j - off := by omega
                    rw [e1]
                    simp only [Array.getElem?_eq_getElem hjv, Option.map_some, hu2]
                    rw [if_pos (by omega)]
                    have : j - off < u.cells.toList.length := by omega
                    simp [List.getD, List.getElem?_eq_getElem this]
                  · rw [List.append_assoc, List.getElem?_append_right (by simp; omega), List.getElem?_append_right (by simp; omega)]
                    simp only [List.length_take, Array.length_toList, List.getElem?_drop, hsz, Nat.sub_zero]
                    have e1 : off + n + (j - min off vs.size - n) = j := by omega
                    rw [e1]
                    have e2 : vs.toList[j]? = vs[j]? := by simp
                    rw [e2]
                    cases hvj : vs[j]? with
                    | none => rfl
                    | some v =>
                      simp only [Option.map_some]
                      rw [if_neg (by omega)]
end
end Go.Ev
/- Each instruction that only looks at its operands does in the model what the evaluator says: the run. -/
namespace Go.Ev

section
variable {ι : Emb} {w : World} {Z : Nat → Prop} {nx : Nat} {gl : Nat → AV} {tm : Tr AV} {P : Program} {a : Act}

theorem isShift_iff {op : BinOp} : isShift op = true ↔ op = .shl ∨ op = .shr := by cases op <;> simp [isShift]

theorem binInt_sound {op : BinOp} {k k' : IntKind} {x y : Int} {v : AV} (hk : isShift op = true ∨ k = k') (h : binInt op k x y = some v) (t : TypeId) :
    ∃ u, (binOp op t (.int k x) (.int k' y)).run P w = .ok u w ∧ VR ι w Z nx v u := by
  cases op <;> simp only [binInt] at h
  case quo =>
    by_cases hy : y = 0
    · simp [hy] at h
    · simp [hy] at h; subst h
      obtain rfl : k = k' := by simpa [isShift] using hk
      exact ⟨_, by simp [binOp, Op.intDiv, hy], .int _ _ _⟩
  case rem =>
    by_cases hy : y = 0
    · simp [hy] at h
    · simp [hy] at h; subst h
      obtain rfl : k = k' := by simpa [isShift] using hk
      exact ⟨_, by simp [binOp, Op.intDiv, hy], .int _ _ _⟩
  case shl =>
    by_cases hy : y < 0
    · simp [hy] at h
    · simp [hy] at h; subst h
      exact ⟨_, by simp [binOp, Op.shift, hy], .int _ _ _⟩
  case shr =>
    by_cases hy : y < 0
    · simp [hy] at h
    · simp [hy] at h; subst h
      exact ⟨_, by simp [binOp, Op.shift, hy], .int _ _ _⟩
  all_goals
    obtain rfl : k = k' := by simpa [isShift] using hk
    simp only [Option.some.injEq] at h
    subst h
    first
      | exact ⟨_, by simp only [binOp, ne_eq, not_true_eq_false, if_false]; rfl, .int _ _ _⟩
      | exact ⟨_, by simp only [binOp, ne_eq, not_true_eq_false, if_false]; rfl, .bool _ _⟩

theorem natsEq_iff : ∀ {a b : List Nat}, natsEq a b = true ↔ a = b
  | [], [] => by simp [natsEq]
  | [], _ :: _ => by simp [natsEq]
  | _ :: _, [] => by simp [natsEq]
  | x :: a, y :: b => by
    simp only [natsEq, Bool.and_eq_true, natsEq_iff (a := a) (b := b)]
    constructor
    · rintro ⟨h, rfl⟩; rw [Nat.eq_of_beq_eq_true h]
    · intro h; cases h; exact ⟨Nat.beq_refl _, rfl⟩
def bytes (s : ByteArray) : List Nat := s.data.toList.map (·.toNat)
theorem size_eq (s : ByteArray) : s.size = s.data.toList.length := (Array.length_toList).symm
theorem toList_data (s : ByteArray) : s.toList = s.data.toList := by
  have key : ∀ (n i : Nat) (r : List UInt8), s.size - i = n → ByteArray.toList.loop s i r = r.reverse ++ s.data.toList.drop i := by
    intro n
    induction n with
    | zero =>
      intro i r h
      unfold ByteArray.toList.loop
      rw [if_neg (by omega)]
      have : s.data.toList.length ≤ i := by
        have := size_eq s
        omega
      simp [List.drop_eq_nil_of_le this]
    | succ n ih =>
      intro i r h
      unfold ByteArray.toList.loop
      have hi : i < s.size := by omega
      rw [if_pos hi, ih (i + 1) _ (by omega)]
      have hl : i < s.data.toList.length := by have := size_eq s; omega
      have : s.get! i = s.data.toList[i] := by
        have hs : i < s.data.size := hi
        show s.data[i]! = _
        rw [getElem!_pos s.data i hs]
        rfl
      rw [List.drop_eq_getElem_cons hl, this]
      simp
  have := key s.size 0 [] (by omega)
  simpa [ByteArray.toList] using this
theorem map_toNat_inj : ∀ {a b : List UInt8}, a.map (·.toNat) = b.map (·.toNat) → a = b
  | [], [], _ => rfl
  | [], _ :: _, h => by simp at h
  | _ :: _, [], h => by simp at h
  | x :: a, y :: b, h => by
    simp only [List.map_cons, List.cons.injEq] at h
    rw [UInt8.toNat_inj.1 h.1, map_toNat_inj h.2]
theorem natsEq_bytes (s t : ByteArray) : natsEq (bytes s) (bytes t) = (s.toList == t.toList) := by
  rw [Bool.eq_iff_iff, natsEq_iff, toList_data, toList_data, beq_iff_eq]
  exact ⟨map_toNat_inj, fun h => by simp [bytes, h]⟩
theorem natsLess_bytes : ∀ (a b : List UInt8), natsLess (a.map (·.toNat)) (b.map (·.toNat)) = Op.bytesLess a b
  | [], [] => rfl
  | _ :: _, [] => rfl
  | [], _ :: _ => rfl
  | x :: a, y :: b => by
    simp only [List.map_cons, natsLess, Op.bytesLess, natsLess_bytes a b]
    congr 1
    · rw [Bool.eq_iff_iff, Nat.blt_eq]; simp [UInt8.lt_iff_toNat_lt]
    · congr 1
      rw [Bool.eq_iff_iff]
      simp only [beq_iff_eq]
      exact ⟨fun h => UInt8.toNat_inj.1 (Nat.eq_of_beq_eq_true h), fun h => by rw [h]; exact Nat.beq_refl _⟩
theorem binStr_sound {op : BinOp} {x y : ByteArray} {v : AV} (h : binStr op (bytes x) (bytes y) = some v) (t : TypeId) :
    ∃ u, (binOp op t (.string x) (.string y)).run P w = .ok u w ∧ VR ι w Z nx v u := by
  have hl : natsLess (bytes x) (bytes y) = Op.bytesLess x.toList y.toList := by rw [toList_data, toList_data]; exact natsLess_bytes _ _
  cases op <;> simp only [binStr, natsEq_bytes, hl, reduceCtorEq] at h
  case add =>
    split at h
    · rename_i hlt
      simp only [Option.some.injEq] at h; subst h
      have hx : (bytes x).length = x.size := by rw [size_eq]; exact List.length_map ..
      have hy : (bytes y).length = y.size := by rw [size_eq]; exact List.length_map ..
      refine ⟨.string (x ++ y), ?_, ?_⟩
      · have : ¬ ((x.size + y.size : Nat) : Int) > IntKind.i64.max := by
          have : IntKind.i64.max = 9223372036854775807 := by decide
          rw [this]; omega
        simp only [binOp, Op.stringOp, this, if_false]
        rfl
      · have := VR.str (ι := ι) (w := w) (Z := Z) nx (x ++ y)
        have e : (x ++ y).data.toList.map (·.toNat) = bytes x ++ bytes y := by simp [bytes]
        rw [e] at this
        exact this
    · simp at h
  all_goals
    simp only [Option.some.injEq] at h
    subst h
    exact ⟨_, by simp only [binOp, Op.stringOp]; rfl, .bool _ _⟩

theorem wrap_small {k : IntKind} {b x : Nat} (hb : b < k.bits) (hx : x < 2 ^ b) : k.wrap (x : Int) = x := by
  have h1 : x < 2 ^ (k.bits - 1) := Nat.lt_of_lt_of_le hx (Nat.pow_le_pow_right (by omega) (by omega))
  have h2 : x < 2 ^ k.bits := Nat.lt_of_lt_of_le h1 (Nat.pow_le_pow_right (by omega) (by omega))
  have e : (x : Int) % (2 ^ k.bits : Int) = x := Int.emod_eq_of_lt (by omega) (by exact_mod_cast h2)
  have h3 : ¬ ((x : Int) ≥ (2 ^ (k.bits - 1) : Int)) := by
    have : (x : Int) < (2 ^ (k.bits - 1) : Int) := by exact_mod_cast h1
    omega
  unfold IntKind.wrap
  simp only [e, h3, and_false, if_false, decide_false, Bool.and_false, Bool.false_eq_true]
theorem and_low {W b m c : Nat} {n : Int} (hb : b ≤ W) (hc : c < 2 ^ b) (hm : n % (2 ^ b : Nat) = m) : (BitVec.ofInt W n &&& BitVec.ofInt W (c : Int)).toNat = m &&& c := by
  have hcW : c < 2 ^ W := Nat.lt_of_lt_of_le hc (Nat.pow_le_pow_right (by omega) hb)
  have h1 : (BitVec.ofInt W (c : Int)).toNat = c := by
    rw [BitVec.toNat_ofInt, ← Int.natCast_emod]; simp [Nat.mod_eq_of_lt hcW]
  have h2 : (BitVec.ofInt W n).toNat % 2 ^ b = m := by
    rw [BitVec.toNat_ofInt]
    have hd : ((2 ^ b : Nat) : Int) ∣ ((2 ^ W : Nat) : Int) := by exact_mod_cast Nat.pow_dvd_pow 2 hb
    have h3 : ((n % ((2 ^ W : Nat) : Int)).toNat : Int) = n % ((2 ^ W : Nat) : Int) := Int.toNat_of_nonneg (Int.emod_nonneg _ (by have := Nat.two_pow_pos W; omega))
    have h4 : (((n % ((2 ^ W : Nat) : Int)).toNat % 2 ^ b : Nat) : Int) = m := by
      rw [Int.natCast_emod, h3, Int.emod_emod_of_dvd _ hd]; exact hm
    exact_mod_cast h4
  rw [BitVec.toNat_and, h1, ← h2]
  apply Nat.eq_of_testBit_eq
  intro i
  simp only [Nat.testBit_and, Nat.testBit_mod_two_pow]
  by_cases hi : i < b
  · simp [hi]
  · have : c.testBit i = false := Nat.testBit_lt_two_pow (Nat.lt_of_lt_of_le hc (Nat.pow_le_pow_right (by omega) (by omega)))
    simp [this]
theorem shr_low {b m c : Nat} {n : Int} (hc : c ≤ b) (hm : n % (2 ^ b : Nat) = m) : (n.fdiv (2 ^ c : Nat)) % (2 ^ (b - c) : Nat) = (m / 2 ^ c : Nat) := by
  have hp : (0 : Int) < ((2 ^ c : Nat) : Int) := by exact_mod_cast Nat.two_pow_pos c
  rw [Int.fdiv_eq_ediv_of_nonneg _ (Int.le_of_lt hp)]
  have e : ((2 ^ b : Nat) : Int) = ((2 ^ c : Nat) : Int) * ((2 ^ (b - c) : Nat) : Int) := by
    rw [← Int.natCast_mul, ← Nat.pow_add]; congr 2; omega
  have hn : n = (m : Int) + ((2 ^ c : Nat) : Int) * (((2 ^ (b - c) : Nat) : Int) * (n / ((2 ^ b : Nat) : Int))) := by
    rw [← Int.mul_assoc, ← e, ← hm]
    have := Int.emod_add_mul_ediv n ((2 ^ b : Nat) : Int)
    omega
  have hd : (0 : Int) < ((2 ^ (b - c) : Nat) : Int) := by have := Nat.two_pow_pos (b - c); omega
  have hm2 : (m : Int) < ((2 ^ b : Nat) : Int) := by rw [← hm]; exact Int.emod_lt_of_pos _ (by have := Nat.two_pow_pos b; omega)
  rw [hn, Int.add_mul_ediv_left _ _ (by omega), Int.add_mul_emod_self_left, Int.natCast_ediv]
  refine Int.emod_eq_of_lt (Int.ediv_nonneg (by omega) (by omega)) ?_
  refine Int.ediv_lt_of_lt_mul hp ?_
  rw [Int.mul_comm, ← e]; exact hm2
theorem binMint_sound {op : BinOp} {k k' : IntKind} {b m c : Nat} {n : Int} {v : AV} (h : binMint op k b m k' c = some v) (hn : n % (2 ^ b : Nat) = m) (t : TypeId) :
    ∃ u, (binOp op t (.int k n) (.int k' (c : Int))).run P w = .ok u w ∧ VR ι w Z nx v u := by
  cases op <;> simp only [binMint, reduceCtorEq] at h
  case and =>
    split at h
    · rename_i hk
      obtain ⟨rfl, hc, hb⟩ := hk
      simp only [Option.some.injEq] at h; subst h
      obtain ⟨u, hu, hv⟩ := binInt_sound (P := P) (w := w) (ι := ι) (Z := Z) (nx := nx) (op := .and) (k := k) (k' := k) (x := n) (y := c) (.inr rfl) rfl t
      refine ⟨u, hu, ?_⟩
      rw [and_low (Nat.le_of_lt hb) hc hn, wrap_small hb (Nat.lt_of_le_of_lt Nat.and_le_right hc)] at hv
      exact hv
    · simp at h
  case shr =>
    split at h
    · rename_i hk
      obtain ⟨hc, hb⟩ := hk
      simp only [Option.some.injEq] at h; subst h
      obtain ⟨u, hu, hv⟩ := binInt_sound (P := P) (w := w) (ι := ι) (Z := Z) (nx := nx) (op := .shr) (k := k) (k' := k') (x := n) (y := c) (v := .int k (n.fdiv (2 ^ c : Nat))) (.inl rfl) (by
        simp only [binInt]
        rw [if_neg (by omega)]
        rw [show (c : Int).toNat = c from rfl, Nat.min_eq_left (by omega)]
        norm_cast) t
      refine ⟨u, hu, ?_⟩
      cases hv
      exact .mint _ _ _ _ _ (shr_low hc hn)
    · simp at h
theorem binAV_sound {op : BinOp} {x y v : AV} {u s : Value} (hne : op ≠ .eql) (hne' : op ≠ .neq) (h : binAV op x y = some v) (hx : VR ι w Z nx x u) (hy : VR ι w Z nx y s) (t : TypeId) :
    ∃ r, (binOp op t u s).run P w = .ok r w ∧ VR ι w Z nx v r := by
  cases x <;> cases y <;> simp only [binAV, reduceCtorEq] at h
  case int.int k a k' b =>
    cases hx; cases hy
    split at h
    · rename_i hk
      exact binInt_sound (by simpa using hk) h t
    · simp at h
  case str.str a b =>
    cases hx; cases hy
    exact binStr_sound h t
  case mint.int k b m k' c =>
    cases hx with | mint _ _ _ _ n hn =>
    cases hy
    cases c with
    | ofNat c => exact binMint_sound h hn t
    | negSucc c => simp at h
end
end Go.Ev
/- Each instruction that only looks at its operands does in the model what the evaluator says: comparisons. -/
namespace Go.Ev

section
variable {ι : Emb} {w : World} {Z : Nat → Prop} {nx : Nat} {gl : Nat → AV} {tm : Tr AV} {P : Program} {a : Act}

theorem primT_cases {t : TypeId} {k : PK} (h : primT P t = some k) : (P.underlying t = some .bool ∧ k = .b) ∨ (∃ j, P.underlying t = some (.int j) ∧ k = .i) ∨ (P.underlying t = some .string ∧ k = .s) := by
  unfold primT at h
  split at h
  · exact .inl ⟨by assumption, by simpa using h.symm⟩
  · exact .inr (.inl ⟨_, by assumption, by simpa using h.symm⟩)
  · exact .inr (.inr ⟨by assumption, by simpa using h.symm⟩)
  · simp at h

theorem eqPrim_sound {x y : AV} {u s : Value} {b : Bool} {t : TypeId} {k : PK} (d : Nat) (hk : primT P t = some k)
    (h : eqPrim k x y = some b) (hx : VR ι w Z nx x u) (hy : VR ι w Z nx y s) : (Op.equalIn (d + 1) t u s).run P w = .ok b w := by
  rcases primT_cases hk with ⟨hu, rfl⟩ | ⟨j, hu, rfl⟩ | ⟨hu, rfl⟩ <;> cases x <;> cases y <;> simp only [eqPrim, reduceCtorEq] at h
  · cases hx; cases hy
    simp only [Option.some.injEq] at h; subst h
    exact run_equalIn_bool w d t _ _ hu
  · cases hx; cases hy
    split at h
    · rename_i hkk
      subst hkk
      simp only [Option.some.injEq] at h; subst h
      exact run_equalIn_int w d t _ _ _ _ hu
    · simp at h
  · cases hx; cases hy
    rename_i p q
    simp only [Option.some.injEq] at h; subst h
    rw [run_equalIn_string w d t p q hu]
    congr 1
    exact (natsEq_bytes p q).symm

theorem eqPrims_sound {xs ys : Array Value} {X Y : List AV} {d : Nat} (hx : VRs ι w Z nx X xs.toList) (hy : VRs ι w Z nx Y ys.toList) :
    ∀ {fs : List Field} {i : Nat} {ks : List PK} {b : Bool}, primFs P fs i = some ks → eqPrims ks (X.drop i) (Y.drop i) = some b →
      (Op.eqFields (d + 1) xs ys fs).run P w = .ok b w := by
  intro fs
  induction fs with
  | nil =>
    intro i ks b h he
    simp [primFs] at h; subst h
    cases hX : X.drop i <;> cases hY : Y.drop i <;> rw [hX, hY] at he <;> simp [eqPrims] at he
    subst he; simp [Op.eqFields]
  | cons f r ih =>
    intro i ks b h he
    simp only [primFs] at h
    split at h
    · simp at h
    · rename_i hn
      simp only [not_or, Decidable.not_not] at hn
      obtain ⟨hname, hoff, hsz, hagg⟩ := hn
      cases hp : primT P f.type with
      | none => simp [hp] at h
      | some k =>
        cases hr : primFs P r (i + 1) with
        | none => simp [hp, hr] at h
        | some ks' =>
          simp [hp, hr] at h
          subst h
          cases hX : X.drop i with
          | nil => rw [hX] at he; simp [eqPrims] at he
          | cons p X' =>
            cases hY : Y.drop i with
            | nil => rw [hX, hY] at he; simp [eqPrims] at he
            | cons q Y' =>
              rw [hX, hY] at he
              simp only [eqPrims] at he
              cases h1 : eqPrim k p q with
              | none => simp [h1] at he
              | some b1 =>
                cases h2 : eqPrims ks' X' Y' with
                | none => simp [h1, h2] at he
                | some b2 =>
                  simp [h1, h2] at he
                  subst he
                  have hXi : X[i]? = some p := by have := congrArg (fun l => l[0]?) hX; simpa using this
                  have hYi : Y[i]? = some q := by have := congrArg (fun l => l[0]?) hY; simpa using this
                  have hX' : X.drop (i + 1) = X' := by have := congrArg List.tail hX; simpa using this
                  have hY' : Y.drop (i + 1) = Y' := by have := congrArg List.tail hY; simpa using this
                  obtain ⟨u, hu, hvu⟩ := hx.get hXi
                  obtain ⟨s, hs, hvs⟩ := hy.get hYi
                  have hpu : (part f.type xs f.offset).run P w = .ok u w := by
                    simp only [part, Sem.run_bind, run_aggT hagg, Result.andThen_ok, Bool.false_eq_true, if_false, hoff]
                    have : xs[i]? = some u := by simpa using hu
                    simp [this]
                  have hps : (part f.type ys f.offset).run P w = .ok s w := by
                    simp only [part, Sem.run_bind, run_aggT hagg, Result.andThen_ok, Bool.false_eq_true, if_false, hoff]
                    have : ys[i]? = some s := by simpa using hs
                    simp [this]
                  simp only [Op.eqFields, ne_eq, hname, not_false_eq_true, if_true, Sem.run_bind, hpu, hps, Result.andThen_ok, eqPrim_sound d hp h1 hvu hvs]
                  cases b1
                  · simp
                  · simp only [Bool.not_true, Bool.false_eq_true, if_false, Bool.true_and]
                    exact ih hr (by rw [hX', hY']; exact h2)

theorem eqRef_sound {x y : AV} {u s : Value} {b : Bool} {t : TypeId} {d : Nat} {k : RK} (hk : eqKind P t = some (.ref k)) (h : eqRef k x y = some b) (hx : VR ι w Z nx x u) (hy : VR ι w Z nx y s) :
    (Op.equalIn (d + 1) t u s).run P w = .ok b w := by
  have hu : (k = .p ∧ ∃ e, P.underlying t = some (.pointer e)) ∨ (k = .s ∧ ∃ e, P.underlying t = some (.slice e)) ∨ (k = .m ∧ ∃ e f, P.underlying t = some (.map e f)) ∨
      (k = .f ∧ ∃ p r v, P.underlying t = some (.func p r v)) := by
    unfold eqKind at hk
    split at hk <;> (try simp only [Option.some.injEq, EqK.ref.injEq, reduceCtorEq] at hk)
    · exact .inl ⟨hk.symm, _, by assumption⟩
    · exact .inr (.inl ⟨hk.symm, _, by assumption⟩)
    · exact .inr (.inr (.inl ⟨hk.symm, _, _, by assumption⟩))
    · exact .inr (.inr (.inr ⟨hk.symm, _, _, _, by assumption⟩))
    · split at hk
      · simp at hk
      · simp only [Option.map_eq_some_iff, reduceCtorEq, and_false, exists_const] at hk
  rcases hu with ⟨rfl, e, hu⟩ | ⟨rfl, e, hu⟩ | ⟨rfl, e, f, hu⟩ | ⟨rfl, p, r, v, hu⟩ <;> unfold eqRef at h <;> split at h <;>
    simp only [reduceCtorEq, Option.some.injEq, forall_const, imp_self, implies_true] at * <;> subst h <;> cases hx <;> cases hy <;> simp [Op.equalIn, run_underlying hu]

theorem eqAV_sound {op : BinOp} {k : EqK} {xo yo : Operand} {x y : AV} {u s : Value} {b : Bool} {t : TypeId} (hk : eqKind P t = some k) (h : eqAV k x y = some b) (hx : VR ι w Z nx x u) (hy : VR ι w Z nx y s)
    (hc : k = .ifc → (∃ v, xo = .const v) ∨ ∃ v, yo = .const v) (hop : op = .eql ∨ op = .neq) :
    (do eqGuard op t xo yo u s; binOp op t u s : Sem Value).run P w = .ok (.bool (if op = .neq then !b else b)) w := by
  cases k with
  | prim p =>
    simp only [eqAV] at h
    have hp : primT P t = some p := by
      unfold eqKind at hk
      unfold primT
      split at hk <;> (try simp only [Option.some.injEq, EqK.prim.injEq, reduceCtorEq] at hk)
      · rw [← hk]; simp [*]
      · rw [← hk]; simp [*]
      · rw [← hk]; simp [*]
      · split at hk
        · simp at hk
        · simp only [Option.map_eq_some_iff, reduceCtorEq, and_false, exists_const] at hk
    have he := eqPrim_sound 0 hp h hx hy
    rcases primT_cases hp with ⟨hu, rfl⟩ | ⟨j, hu, rfl⟩ | ⟨hu, rfl⟩ <;> cases x <;> cases y <;> simp only [eqPrim, reduceCtorEq] at h <;> cases hx <;> cases hy
    · rename_i p q
      have he' : (Op.equal t (.bool p) (.bool q)).run P w = .ok b w := by
        simp only [Option.some.injEq] at h; subst h
        exact run_equalIn_bool w 9999 t _ _ hu
      rcases hop with rfl | rfl
      · simp [eqGuard, binOp, he']
      · simp [eqGuard, binOp, he']
    · split at h
      · rename_i hkk
        subst hkk
        simp only [Option.some.injEq] at h; subst h
        rcases hop with rfl | rfl
        · simp [eqGuard, binOp, Op.intCmp]
        · simp [eqGuard, binOp, Op.intCmp]; rfl
      · simp at h
    · rename_i p q
      simp only [Option.some.injEq] at h; subst h
      have := natsEq_bytes p q
      unfold bytes at this
      rcases hop with rfl | rfl
      · simp [eqGuard, binOp, Op.stringOp, this]
      · simp [eqGuard, binOp, Op.stringOp, this]
  | ref rk =>
    simp only [eqAV] at h
    have he := eqRef_sound (d := 9999) hk h hx hy
    have he' : (Op.equal t u s).run P w = .ok b w := he
    have hg : (eqGuard op t xo yo u s).run P w = .ok () w := by
      unfold eqRef at h
      split at h <;> simp only [reduceCtorEq, forall_const, imp_self, implies_true] at * <;> cases hx <;> cases hy <;> rcases hop with rfl | rfl <;> simp [eqGuard]
    have hb : ∀ op', (op' = .eql ∨ op' = .neq) → (binOp op' t u s).run P w = .ok (.bool (if op' = .neq then !b else b)) w := by
      intro op' ho
      unfold eqRef at h
      split at h <;> simp only [reduceCtorEq, forall_const, imp_self, implies_true] at * <;> cases hx <;> cases hy <;> rcases ho with rfl | rfl <;> simp only [binOp, Sem.run_bind, he', Result.andThen_ok, Sem.run_pure, reduceCtorEq, if_false, if_true]
    simp only [Sem.run_bind, hg, Result.andThen_ok]
    exact hb op hop
  | ifc =>
    have hu : ∃ ms, P.underlying t = some (.interface ms) := by
      unfold eqKind at hk
      split at hk <;> (try simp only [Option.some.injEq, reduceCtorEq] at hk)
      · exact ⟨_, by assumption⟩
      · split at hk
        · simp at hk
        · simp only [Option.map_eq_some_iff, reduceCtorEq, and_false, exists_const] at hk
    obtain ⟨ms, hu⟩ := hu
    have hc' := hc rfl
    have key : ∀ {u s : Value} {b : Bool}, (Op.equalIn (9999 + 1) t u s).run P w = .ok b w → ((∃ v : TypeId × Value, u = .nilIface ∧ s = .iface v.1 v.2) ∨ (∃ v : TypeId × Value, s = .nilIface ∧ u = .iface v.1 v.2) ∨ (u = .nilIface ∧ s = .nilIface)) →
        (do eqGuard op t xo yo u s; binOp op t u s : Sem Value).run P w = .ok (.bool (if op = .neq then !b else b)) w := by
      intro u s b he hs
      have he' : (Op.equal t u s).run P w = .ok b w := he
      have hg : (eqGuard op t xo yo u s).run P w = .ok () w := by
        rcases hs with ⟨v, rfl, rfl⟩ | ⟨v, rfl, rfl⟩ | ⟨rfl, rfl⟩ <;> rcases hop with rfl | rfl <;> rcases hc' with ⟨c, rfl⟩ | ⟨c, rfl⟩ <;> simp [eqGuard]
      simp only [Sem.run_bind, hg, Result.andThen_ok]
      rcases hs with ⟨v, rfl, rfl⟩ | ⟨v, rfl, rfl⟩ | ⟨rfl, rfl⟩ <;> rcases hop with rfl | rfl <;> simp only [binOp, Sem.run_bind, he', Result.andThen_ok, Sem.run_pure, reduceCtorEq, if_false, if_true]
    have e1 : ∀ d, (Op.equalIn (d + 1) t .nilIface .nilIface).run P w = .ok true w := fun d => by simp only [Op.equalIn, Sem.run_bind, run_underlying hu, Result.andThen_ok, Sem.run_pure]
    have e2 : ∀ d i v, (Op.equalIn (d + 1) t .nilIface (.iface i v)).run P w = .ok false w := fun d i v => by simp only [Op.equalIn, Sem.run_bind, run_underlying hu, Result.andThen_ok, Sem.run_pure]
    have e3 : ∀ d i v, (Op.equalIn (d + 1) t (.iface i v) .nilIface).run P w = .ok false w := fun d i v => by simp only [Op.equalIn, Sem.run_bind, run_underlying hu, Result.andThen_ok, Sem.run_pure]
    cases x <;> cases y <;> simp only [eqAV, reduceCtorEq, Option.some.injEq] at h <;> subst h <;> cases hx <;> cases hy
    · exact key (e1 _) (.inr (.inr ⟨rfl, rfl⟩))
    · exact key (e2 _ _ _) (.inl ⟨(_, _), rfl, rfl⟩)
    · exact key (e3 _ _ _) (.inr (.inl ⟨(_, _), rfl, rfl⟩))
  | agg ks =>
    have hu : ∃ fs, P.underlying t = some (.struct fs) ∧ P.eqGuardType P.depth t = false ∧ P.stoodInHeld t = false ∧ primFs P fs.toList 0 = some ks := by
      unfold eqKind at hk
      split at hk <;> (try simp only [Option.some.injEq, reduceCtorEq] at hk)
      split at hk
      · simp at hk
      · rename_i hn
        simp only [Option.map_eq_some_iff, EqK.agg.injEq, exists_eq_right] at hk
        simp only [Bool.or_eq_true, not_or, Bool.not_eq_true] at hn
        exact ⟨_, by assumption, hn.1, hn.2, hk⟩
    obtain ⟨fs, hu, hg, hst, hf⟩ := hu
    have hfo : P.fieldsOf t = fs := by simp [Program.fieldsOf, hu]
    cases x <;> cases y <;> simp only [eqAV, reduceCtorEq] at h
    cases hx with | agg _ _ us hx => cases hy with | agg _ _ ss hy =>
    have hf' : primFs P (P.fieldsOf t).toList 0 = some ks := by rw [hfo]; exact hf
    have he : (Op.equalIn 10000 t (.agg us) (.agg ss)).run P w = .ok b w := by
      rw [run_equalIn_agg w 9999 t us ss (by rw [hfo]; exact hu) hst]
      exact eqPrims_sound (d := 9998) hx hy hf' (by simpa using h)
    have hgd := run_eqGuard_agg (P := P) w op t xo yo us ss hg
    simp only [Sem.run_bind, hgd, Result.andThen_ok]
    rcases hop with rfl | rfl
    · rw [run_eql_struct, he]; rfl
    · rw [run_neq_struct, he]; rfl

theorem mm2_sound {mx : Bool} {x y v : AV} {u s : Value} (h : mm2 mx x y = some v) (hx : VR ι w Z nx x u) (hy : VR ι w Z nx y s) :
    ∃ r, ((if mx then Builtin.max2 else Builtin.min2) u s).run P w = .ok r w ∧ VR ι w Z nx v r := by
  cases x <;> cases y <;> simp only [mm2, reduceCtorEq] at h
  cases hx; cases hy
  split at h
  · simp only [Option.some.injEq] at h
    subst h
    cases mx
    · exact ⟨_, by simp [Builtin.min2], .int _ _ _⟩
    · exact ⟨_, by simp [Builtin.max2], .int _ _ _⟩
  · simp at h
theorem mmAll_sound {mx : Bool} : ∀ {ys : List AV} {x v : AV} {u : Value} {ss : List Value}, mmAll mx x ys = some v → VR ι w Z nx x u → VRs ι w Z nx ys ss →
    ∃ r, (ss.foldlM (if mx then Builtin.max2 else Builtin.min2) u).run P w = .ok r w ∧ VR ι w Z nx v r
  | [], x, v, u, ss, h, hx, hy => by
    cases hy
    simp [mmAll] at h; subst h
    exact ⟨u, by simp, hx⟩
  | y :: ys, x, v, u, ss, h, hx, hy => by
    cases hy with
    | cons _ _ s _ ss h1 h2 =>
      simp only [mmAll] at h
      cases hm : mm2 mx x y with
      | none => simp [hm] at h
      | some c =>
        simp [hm] at h
        obtain ⟨r, hr, hv⟩ := mm2_sound (P := P) hm hx h1
        obtain ⟨r', hr', hv'⟩ := mmAll_sound h hv h2
        exact ⟨r', by simp only [List.foldlM_cons, Sem.run_bind, hr, Result.andThen_ok]; exact hr', hv'⟩
end
end Go.Ev
/- Each instruction that only looks at its operands does in the model what the evaluator says: all of them. -/
namespace Go.Ev

section
variable {ι : Emb} {w : World} {Z : Nat → Prop} {nx : Nat} {gl : Nat → AV} {tm : Tr AV} {P : Program} {a : Act}

theorem evo_sound {x : Option Operand} {e : Option Eo} {d n : Nat} (hgl : GlR ι w Z gl) (htm : TmR ι w Z nx tm a.tmps) (h : ofOpt x = some e) (he : evo gl tm e d = some n) :
    (x = none ∧ n = d) ∨ ∃ y k, x = some y ∧ a.eval y = .int k n := by
  cases x with
  | none => simp [ofOpt] at h; subst h; simp [evo] at he; exact .inl ⟨rfl, he.symm⟩
  | some y =>
    simp only [ofOpt, Option.map_eq_some_iff] at h
    obtain ⟨q, hq, rfl⟩ := h
    simp only [evo] at he
    obtain ⟨k, hk⟩ := natOf_sound he (eo_sound (a := a) hgl htm hq)
    exact .inr ⟨y, k, rfl, hk⟩

/-- The bounds of a slice expression. -/
theorem sliceBounds_sound {isS : Bool} {lo hi : Option Operand} {el eh : Option Eo} {len cap l h : Nat} (hgl : GlR ι w Z gl) (htm : TmR ι w Z nx tm a.tmps) (h1 : ofOpt lo = some el) (h2 : ofOpt hi = some eh)
    (hl : evo gl tm el 0 = some l) (hh : evo gl tm eh len = some h) (hlh : l ≤ h) (hc : h ≤ cap) :
    (Instr.sliceBounds isS len cap (lo.map a.eval) (hi.map a.eval) none).run P w = .ok (l, h, cap) w := by
  rcases evo_sound (a := a) hgl htm h1 hl with ⟨rfl, rfl⟩ | ⟨y, k, rfl, hy⟩ <;> rcases evo_sound (a := a) hgl htm h2 hh with ⟨rfl, rfl⟩ | ⟨z, k', rfl, hz⟩
  · simp [Instr.sliceBounds]
  · simp [Instr.sliceBounds, Instr.sliceBound, hz, asIntOf, hc]
  · simp [Instr.sliceBounds, Instr.sliceBound, hy, asIntOf, hlh]
  · simp [Instr.sliceBounds, Instr.sliceBound, hy, hz, asIntOf, hlh, hc]

/-- What a 'dry' instruction promises. -/
def Yes (ι : Emb) (w : World) (Z : Nat → Prop) (nx : Nat) (P : Program) (a : Act) (o : Oper) (v : AV) : Prop := ∃ u, (execOp a.eval o).run P w = .ok (.value u) w ∧ VR ι w Z nx v u

theorem fieldAt_sound {fs : Array Field} {i o n : Nat} {g : Bool} (h : fieldAt P fs i = some (o, n, g)) : ∃ f, fs[i]? = some f ∧ f.offset = o ∧ sizeT P f.type = some n ∧ aggT P f.type = some g := by
  unfold fieldAt at h
  split at h
  · rename_i f hf
    split at h
    · rename_i hn hg
      simp only [Option.some.injEq, Prod.mk.injEq] at h
      obtain ⟨rfl, rfl, rfl⟩ := h
      exact ⟨f, hf, rfl, hn, hg⟩
    · simp at h
  · simp at h

theorem dry_field {t : TypeId} {x : Operand} {f : Nat} {d : Dry} {v : AV} {dst ty pos after guard} (hgl : GlR ι w Z gl) (htm : TmR ι w Z nx tm a.tmps)
    (hc : ofOp P (.field t x f) = some (.dry d)) (hev : evDry gl tm d = some v) : Yes ι w Z nx P a ⟨dst, .field t x f, ty, pos, after, guard⟩ v := by
  simp only [ofOp] at hc
  split at hc
  · rename_i fs e hu hx
    split at hc
    · rename_i o n g hf
      simp only [Option.some.injEq, EOp.dry.injEq] at hc
      subst hc
      obtain ⟨fl, hfl, rfl, hs, hg⟩ := fieldAt_sound hf
      simp only [evDry] at hev
      have hv := eo_sound (a := a) hgl htm hx
      cases he : e.ev gl tm <;> rw [he] at hev <;> simp only [reduceCtorEq] at hev
      rw [he] at hv
      cases hv' : a.eval x <;> rw [hv'] at hv <;> cases hv
      rename_i cs us hv
      split at hev
      · rename_i c hcut
        obtain ⟨u, hr, hu'⟩ := run_part (P := P) hs hg hv hcut hev
        exact ⟨u, by simp [execOp, Instr.field, run_underlying hu, hfl, hv', asAgg, hr], hu'⟩
      · simp at hev
    · simp at hc
  · simp at hc

theorem dry_fieldAddr {t : TypeId} {x : Operand} {f : Nat} {d : Dry} {v : AV} {dst ty pos after guard} (hgl : GlR ι w Z gl) (htm : TmR ι w Z nx tm a.tmps)
    (hc : ofOp P (.fieldAddr t x f) = some (.dry d)) (hev : evDry gl tm d = some v) : Yes ι w Z nx P a ⟨dst, .fieldAddr t x f, ty, pos, after, guard⟩ v := by
  simp only [ofOp] at hc
  split at hc
  · rename_i fs e hu hx
    split at hc
    · rename_i o n g hf
      simp only [Option.some.injEq, EOp.dry.injEq] at hc
      subst hc
      obtain ⟨fl, hfl, rfl, hs, hg⟩ := fieldAt_sound hf
      simp only [evDry] at hev
      have hv := eo_sound (a := a) hgl htm hx
      have hplace : ∀ b o, (fieldPlace ⟨b, o, none⟩ fl).run P w = .ok ⟨b, o + fl.offset, none⟩ w := by
        intro b o
        simp only [fieldPlace, Sem.run_bind, run_sizeT hs, Result.andThen_ok]
        rw [if_neg (by omega)]
        simp only [Sem.run_pure, Addr.add]
        split
        · rename_i h0; simp [h0]
        · rfl
      cases he : e.ev gl tm <;> rw [he] at hev <;> simp only [reduceCtorEq] at hev
      · rename_i id off
        simp only [Option.some.injEq] at hev
        subst hev
        rw [he] at hv
        cases hv' : a.eval x <;> rw [hv'] at hv <;> cases hv
        rename_i hid
        refine ⟨_, by simp [execOp, Instr.fieldAt, run_underlying hu, hfl, hv', Instr.sureAddr, hplace]; rfl, ?_⟩
        have := VR.ptr (ι := ι) (w := w) (Z := Z) nx id (off + fl.offset) hid
        rw [← Nat.add_assoc] at this
        exact this
      · rename_i cv
        split at hev
        · rename_i c hcut
          split at hev
          · rename_i u hun
            simp only [Option.some.injEq] at hev
            subst hev
            rw [he] at hv
            cases hv' : a.eval x <;> rw [hv'] at hv <;> cases hv
            rename_i b o vs hz ha hvs
            refine ⟨_, by simp [execOp, Instr.fieldAt, run_underlying hu, hfl, hv', Instr.sureAddr, hplace]; rfl, ?_⟩
            obtain ⟨rfl, hl⟩ := cut_some hcut
            have hsub := (hvs.drop fl.offset).take (n + 1)
            have hat : At w b (o + fl.offset) ((vs.drop fl.offset).take (n + 1)) := by
              intro i y hi
              have : vs[fl.offset + i]? = some y := by
                rw [List.getElem?_take] at hi
                split at hi
                · simpa using hi
                · simp at hi
              have := ha _ _ this
              rwa [← Nat.add_assoc] at this
            exact .cptr _ _ _ _ _ hz hat (by rw [flat_unflat hun]; exact hsub)
          · simp at hev
        · simp at hev
    · simp at hc
  · simp at hc

theorem at_sub {w : World} {b o : Nat} {vs : List Value} (ha : At w b o vs) (k n : Nat) : At w b (o + k) ((vs.drop k).take n) := by
  intro i y hi
  have : vs[k + i]? = some y := by
    rw [List.getElem?_take] at hi
    split at hi
    · simpa using hi
    · simp at hi
  have := ha _ _ this
  rwa [← Nat.add_assoc] at this
theorem add_plain (b o n : Nat) : (⟨b, o, none⟩ : Addr).add n = ⟨b, o + n, none⟩ := by
  unfold Addr.add
  split
  · rename_i h; simp [h]
  · rfl
theorem flatMap_seg {sz : Nat} : ∀ {es : List AV} {k : Nat} {e : AV}, (∀ e ∈ es, (flat e).length = sz) → es[k]? = some e → ((es.flatMap flat).drop (k * sz)).take sz = flat e
  | [], k, e, _, h => by simp at h
  | x :: r, 0, e, hs, h => by
    simp only [List.getElem?_cons_zero, Option.some.injEq] at h
    subst h
    have := hs x (by simp)
    simp [List.flatMap_cons, ← this]
  | x :: r, k + 1, e, hs, h => by
    have hx := hs x (by simp)
    have ih := flatMap_seg (sz := sz) (es := r) (k := k) (e := e) (fun y hy => hs y (by simp [hy])) (by simpa using h)
    rw [← ih, List.flatMap_cons]
    congr 1
    rw [Nat.succ_mul, Nat.add_comm (k * sz) sz, ← hx, ← List.drop_drop]
    simp

theorem dry_indexAddr {t : TypeId} {x i : Operand} {d : Dry} {v : AV} {dst ty pos after guard} (hgl : GlR ι w Z gl) (htm : TmR ι w Z nx tm a.tmps)
    (hc : ofOp P (.indexAddr t x i) = some (.dry d)) (hev : evDry gl tm d = some v) : Yes ι w Z nx P a ⟨dst, .indexAddr t x i, ty, pos, after, guard⟩ v := by
  simp only [ofOp] at hc
  split at hc
  · rename_i el e ei hu hx hi
    split at hc
    · rename_i sz hs
      simp only [Option.some.injEq, EOp.dry.injEq] at hc
      subst hc
      simp only [evDry] at hev
      have hv := eo_sound (a := a) hgl htm hx
      have hvi := eo_sound (a := a) hgl htm hi
      split at hev
      · rename_i id off len k he hk
        rw [he] at hv
        obtain ⟨kk, hki⟩ := natOf_sound hk hvi
        split at hev
        · rename_i hlt
          simp only [Option.some.injEq] at hev; subst hev
          cases hv' : a.eval x <;> rw [hv'] at hv <;> cases hv
          · rename_i cap hid hl hcp
            refine ⟨_, by simp [execOp, Instr.indexAt, run_underlying hu, hv', hki, asIntOf, hlt, run_sizeT hs, add_plain]; rfl, ?_⟩
            have := VR.ptr (ι := ι) (w := w) (Z := Z) nx id (off + k * sz) hid
            rw [← Nat.add_assoc] at this
            exact this
          · omega
        · simp at hev
      · rename_i es k he hk
        rw [he] at hv
        obtain ⟨kk, hki⟩ := natOf_sound hk hvi
        split at hev
        · rename_i q hq
          split at hev
          · rename_i hb
            simp only [Option.some.injEq] at hev; subst hev
            have hlt : k < es.length := by
              rcases Nat.lt_or_ge k es.length with h | h
              · exact h
              · rw [List.getElem?_eq_none h] at hq; simp at hq
            generalize hv' : a.eval x = xv at hv
            cases hv with
            | lst0 => simp at hq
            | lst _ _ b o cap sz' vs hl hz ha hsz hvs =>
              have hsz2 : sz' = sz := by
                have h1 := hsz q (List.mem_of_getElem? hq)
                have h2 := Nat.eq_of_beq_eq_true hb
                omega
              subst hsz2
              refine ⟨_, by simp [execOp, Instr.indexAt, run_underlying hu, hv', hki, asIntOf, hlt, run_sizeT hs, add_plain]; rfl, ?_⟩
              have hsub := (hvs.drop (k * sz')).take sz'
              rw [flatMap_seg hsz hq] at hsub
              exact .cptr _ _ _ _ _ hz (at_sub ha _ _) hsub
          · simp at hev
        · simp at hev
      · simp at hev
    · simp at hc
  · rename_i n el e ei hu hx hi
    split at hc
    · rename_i sz g hs hg
      simp only [Option.some.injEq, EOp.dry.injEq] at hc
      subst hc
      simp only [evDry] at hev
      have hv := eo_sound (a := a) hgl htm hx
      have hvi := eo_sound (a := a) hgl htm hi
      split at hev
      · rename_i id off k he hk
        rw [he] at hv
        obtain ⟨kk, hki⟩ := natOf_sound hk hvi
        split at hev
        · rename_i hlt
          simp only [Option.some.injEq] at hev; subst hev
          cases hv' : a.eval x <;> rw [hv'] at hv <;> cases hv
          rename_i hid
          refine ⟨_, by simp [execOp, Instr.indexAt, run_underlying hu, hv', hki, asIntOf, hlt, run_sizeT hs, add_plain, Instr.sureAddr]; rfl, ?_⟩
          have := VR.ptr (ι := ι) (w := w) (Z := Z) nx id (off + k * sz) hid
          rw [← Nat.add_assoc] at this
          exact this
        · simp at hev
      · rename_i cv k he hk
        rw [he] at hv
        obtain ⟨kk, hki⟩ := natOf_sound hk hvi
        split at hev
        · rename_i hlt
          split at hev
          · rename_i c hcut
            split at hev
            · rename_i u hun
              simp only [Option.some.injEq] at hev; subst hev
              obtain ⟨rfl, hl⟩ := cut_some hcut
              cases hv' : a.eval x <;> rw [hv'] at hv <;> cases hv
              rename_i b o vs hz ha hvs
              refine ⟨_, by simp [execOp, Instr.indexAt, run_underlying hu, hv', hki, asIntOf, hlt, run_sizeT hs, add_plain, Instr.sureAddr]; rfl, ?_⟩
              exact .cptr _ _ _ _ _ hz (at_sub ha _ _) (by rw [flat_unflat hun]; exact (hvs.drop _).take _)
            · simp at hev
          · simp at hev
        · simp at hev
      · simp at hev
    · simp at hc
  · simp at hc
end
end Go.Ev
/- Each instruction that only looks at its operands does in the model what the evaluator says: the rest, and all together. -/
namespace Go.Ev

section
variable {ι : Emb} {w : World} {Z : Nat → Prop} {nx : Nat} {gl : Nat → AV} {tm : Tr AV} {P : Program} {a : Act}

theorem zeroT_some {t : TypeId} {z : AV} (h : zeroT P t = some z) : ∃ u, (P.info? t).bind (·.zero) = some u ∧ ofValue u = some z := by
  unfold zeroT at h
  cases hz : (P.info? t).bind (·.zero) with
  | none => rw [hz] at h; simp at h
  | some u => rw [hz] at h; exact ⟨u, rfl, h⟩

theorem fieldPlaces {fs : Array Field} {i o n : Nat} (h : ((fieldAt P fs i).map fun (o, n, _) => (o, n)) = some (o, n)) : ∃ f, fs[i]? = some f ∧ f.offset = o ∧ sizeT P f.type = some n := by
  cases hf : fieldAt P fs i with
  | none => rw [hf] at h; simp at h
  | some p =>
    obtain ⟨o', n', g⟩ := p
    rw [hf] at h
    simp only [Option.map_some, Option.some.injEq, Prod.mk.injEq] at h
    obtain ⟨rfl, rfl⟩ := h
    obtain ⟨f, h1, h2, h3, _⟩ := fieldAt_sound hf
    exact ⟨f, h1, h2, h3⟩

theorem fill_congr {p q : Nat → Option (Nat × Nat)} : ∀ {ps : List (Nat × Value)} {cs : Array Value}, (∀ x ∈ ps, p x.1 = q x.1) → Instr.fill p cs ps = Instr.fill q cs ps
  | [], _, _ => rfl
  | (i, v) :: r, cs, h => by
    simp only [Instr.fill]
    rw [h (i, v) (by simp)]
    cases q i with
    | none => rfl
    | some on =>
      obtain ⟨off, n⟩ := on
      simp only
      split
      · rfl
      · exact fill_congr fun x hx => h x (by simp [hx])
theorem ofParts_place {place : Nat → Option (Nat × Nat)} : ∀ {ps : List (Nat × Operand)} {qs : List (Nat × Nat × Eo)}, ofParts place ps = some qs → ∀ p ∈ ps, ∃ on, place p.1 = some on
  | [], _, _, p, hp => by simp at hp
  | (i, x) :: r, qs, h, p, hp => by
    simp only [ofParts] at h
    cases h1 : place i with
    | none => simp [h1] at h
    | some on =>
      cases h2 : ofOperand x with
      | none => simp [h1, h2] at h
      | some e =>
        cases h3 : ofParts place r with
        | none => simp [h1, h2, h3] at h
        | some qs' =>
          rcases List.mem_cons.1 hp with rfl | hp
          · exact ⟨on, h1⟩
          · exact ofParts_place h3 p hp

/-- The places of a struct's fields, as the model finds them. -/
theorem run_places (fs : Array Field) (hs : ∀ f ∈ fs.toList, (sizeT P f.type).isSome) :
    (fs.mapM (fun f => do pure (f.offset, ← sizeOf f.type) : Field → Sem (Nat × Nat))).run P w = .ok (fs.map fun f => (f.offset, (sizeT P f.type).getD 0)) w := by
  have key : ∀ (l : List Field), (∀ f ∈ l, (sizeT P f.type).isSome) → (l.mapM (fun f => do pure (f.offset, ← sizeOf f.type) : Field → Sem (Nat × Nat))).run P w = .ok (l.map fun f => (f.offset, (sizeT P f.type).getD 0)) w := by
    intro l
    induction l with
    | nil => intro _; simp
    | cons f r ih =>
      intro h
      obtain ⟨n, hn⟩ := Option.isSome_iff_exists.1 (h f (by simp))
      simp only [List.mapM_cons, Sem.run_bind, run_sizeT hn, Result.andThen_ok, Sem.run_pure, ih (fun g hg => h g (by simp [hg])), List.map_cons, hn, Option.getD_some]
  have h1 := key fs.toList hs
  rw [Array.mapM_eq_mapM_toList]
  simp only [Sem.run_map, h1, Result.andThen_ok]
  congr 1
  apply Array.ext'
  simp

theorem dry_build {t : TypeId} {parts : Array (Nat × Operand)} {d : Dry} {v : AV} {dst ty pos after guard} (hgl : GlR ι w Z gl) (htm : TmR ι w Z nx tm a.tmps)
    (hc : ofOp P (.build t parts) = some (.dry d)) (hev : evDry gl tm d = some v) : Yes ι w Z nx P a ⟨dst, .build t parts, ty, pos, after, guard⟩ v := by
  simp only [ofOp] at hc
  split at hc
  · rename_i fs z hu hz
    split at hc
    rotate_left
    · simp at hc
    rename_i hall
    have hall : ∀ f ∈ fs.toList, (sizeT P f.type).isSome := fun f hf => List.all_eq_true.1 hall f hf
    split at hc
    · rename_i ps hps
      simp only [Option.some.injEq, EOp.dry.injEq] at hc
      subst hc
      simp only [evDry] at hev
      split at hev
      · rename_i cs hf
        simp only [Option.some.injEq] at hev; subst hev
        obtain ⟨zu, hzu, hoz⟩ := zeroT_some hz
        have hzr := ofValue_sound (ι := ι) (w := w) (Z := Z) (nx := nx) zu z hoz
        obtain ⟨us, hfill, hv⟩ := fills_sound (a := a) hgl htm hps hf hzr.flat
        refine ⟨.agg us, ?_, .agg _ _ _ hv⟩
        have hp : ∀ x ∈ (parts.toList.map fun p => (p.1, a.eval p.2)), ((fs.map fun f => (f.offset, (sizeT P f.type).getD 0))[x.1]?) = ((fieldAt P fs x.1).map fun (o, n, _) => (o, n)) := by
          intro x hx
          simp only [List.mem_map] at hx
          obtain ⟨p, hp, rfl⟩ := hx
          obtain ⟨on, hon⟩ := ofParts_place hps p hp
          obtain ⟨o, n⟩ := on
          obtain ⟨f, h1, h2, h3⟩ := fieldPlaces hon
          rw [hon]
          simp [h1, h2, h3]
        have hfc := fill_congr (p := fun i => (fs.map fun f => (f.offset, (sizeT P f.type).getD 0))[i]?) (q := fun i => (fieldAt P fs i).map fun (o, n, _) => (o, n)) (cs := zu.cells) hp
        have e1 : (parts.map fun (i, x) => (i, a.eval x)).toList = parts.toList.map fun p => (p.1, a.eval p.2) := by simp
        simp only [execOp, Instr.build, Sem.run_bind, run_zeroT hzu, Result.andThen_ok, run_underlying hu, run_places fs hall, e1, hfc, hfill, Sem.run_pure]
      · simp at hev
    · simp at hc
  · rename_i n el z hu hz
    split at hc
    · rename_i sz hs
      split at hc
      · rename_i ps hps
        simp only [Option.some.injEq, EOp.dry.injEq] at hc
        subst hc
        simp only [evDry] at hev
        split at hev
        · rename_i cs hf
          simp only [Option.some.injEq] at hev; subst hev
          obtain ⟨zu, hzu, hoz⟩ := zeroT_some hz
          have hzr := ofValue_sound (ι := ι) (w := w) (Z := Z) (nx := nx) zu z hoz
          obtain ⟨us, hfill, hv⟩ := fills_sound (a := a) hgl htm hps hf hzr.flat
          refine ⟨.agg us, ?_, .agg _ _ _ hv⟩
          have e1 : (parts.map fun (i, x) => (i, a.eval x)).toList = parts.toList.map fun p => (p.1, a.eval p.2) := by simp
          simp only [execOp, Instr.build, Sem.run_bind, run_zeroT hzu, Result.andThen_ok, run_underlying hu, run_sizeT hs, e1, hfill, Sem.run_pure]
        · simp at hev
      · simp at hc
    · simp at hc
  · simp at hc
end
end Go.Ev
/- Each instruction that only looks at its operands does in the model what the evaluator says: all together. -/
namespace Go.Ev

section
variable {ι : Emb} {w : World} {Z : Nat → Prop} {nx : Nat} {gl : Nat → AV} {tm : Tr AV} {P : Program} {a : Act}

theorem bytes_len (s : ByteArray) : (bytes s).length = s.size := by rw [size_eq]; exact List.length_map ..
theorem extract_bytes (s : ByteArray) (l h : Nat) : bytes (s.extract l h) = ((bytes s).drop l).take (h - l) := by
  have e : (s.extract l h).data.toList = (s.data.toList.drop l).take (h - l) := by
    rw [ByteArray.data_extract, Array.toList_extract]
    try simp [List.extract_eq_drop_take]
  unfold bytes
  rw [e, List.map_take, List.map_drop]

theorem dry_slice {t : TypeId} {x : Operand} {lo hi : Option Operand} {d : Dry} {v : AV} {dst ty pos after guard} (hgl : GlR ι w Z gl) (htm : TmR ι w Z nx tm a.tmps)
    (hc : ofOp P (.slice t x lo hi none) = some (.dry d)) (hev : evDry gl tm d = some v) : Yes ι w Z nx P a ⟨dst, .slice t x lo hi none, ty, pos, after, guard⟩ v := by
  simp only [ofOp] at hc
  split at hc
  · rename_i e el eh hu hx h1 h2
    simp only [Option.some.injEq, EOp.dry.injEq] at hc
    subst hc
    simp only [evDry] at hev
    have hv := eo_sound (a := a) hgl htm hx
    split at hev
    · rename_i s he
      rw [he] at hv
      split at hev
      · rename_i l h hl hh
        split at hev
        · rename_i hb
          simp only [Option.some.injEq] at hev; subst hev
          generalize hv' : a.eval x = xv at hv
          cases hv with
          | str _ s =>
            have hlen : (bytes s).length = s.size := bytes_len s
            have hh' : evo gl tm eh s.size = some h := by rw [← hlen]; exact hh
            have hsb := sliceBounds_sound (a := a) (P := P) (isS := false) (cap := s.size) hgl htm h1 h2 hl hh' hb.1 (by have := hb.2; unfold bytes at hlen; omega)
            refine ⟨.string (s.extract l h), ?_, ?_⟩
            · simp [execOp, Instr.sliceAt, Instr.slice, run_underlying hu, hv', hsb]
            · have := VR.str (ι := ι) (w := w) (Z := Z) nx (s.extract l h)
              have e := extract_bytes s l h
              unfold bytes at e
              rw [e] at this
              exact this
        · simp at hev
      · simp at hev
    · simp at hev
  · split at hc <;> simp at hc
  · split at hc <;> simp at hc
  · simp at hc

theorem dry_index {t : TypeId} {x i : Operand} {d : Dry} {v : AV} {dst ty pos after guard} (hgl : GlR ι w Z gl) (htm : TmR ι w Z nx tm a.tmps)
    (hc : ofOp P (.index t x i) = some (.dry d)) (hev : evDry gl tm d = some v) : Yes ι w Z nx P a ⟨dst, .index t x i, ty, pos, after, guard⟩ v := by
  simp only [ofOp] at hc
  split at hc
  · rename_i e ei hu hx hi
    simp only [Option.some.injEq, EOp.dry.injEq] at hc
    subst hc
    simp only [evDry] at hev
    have hv := eo_sound (a := a) hgl htm hx
    have hvi := eo_sound (a := a) hgl htm hi
    split at hev
    · rename_i s k he hk
      rw [he] at hv
      obtain ⟨kk, hki⟩ := natOf_sound hk hvi
      split at hev
      · rename_i b hb
        simp only [Option.some.injEq] at hev; subst hev
        generalize hv' : a.eval x = xv at hv
        cases hv with
        | str _ s =>
          have hlt : k < s.size := by
            rw [← bytes_len]
            rcases Nat.lt_or_ge k (bytes s).length with h | h
            · exact h
            · unfold bytes at h; rw [List.getElem?_eq_none h] at hb; simp at hb
          have hs : s[k]? = some s[k] := getElem?_pos s k hlt
          refine ⟨.int .u8 s[k].toNat, by simp [execOp, Instr.index, run_underlying hu, hv', hki, asIntOf, hs], ?_⟩
          have : b = s[k].toNat := by
            simp only [List.getElem?_map, Option.map_eq_some_iff] at hb
            obtain ⟨y, hy, rfl⟩ := hb
            have h2 : s.data.toList[k]? = some s[k] := by
              have hl : k < s.data.toList.length := by have := size_eq s; omega
              rw [List.getElem?_eq_getElem hl]
              rfl
            rw [h2] at hy
            simp only [Option.some.injEq] at hy
            rw [hy]
          rw [this]
          exact .int _ _ _
      · simp at hev
    · simp at hev
  · rename_i n el e ei hu hx hi
    split at hc
    · rename_i sz g hs hg
      simp only [Option.some.injEq, EOp.dry.injEq] at hc
      subst hc
      simp only [evDry] at hev
      have hv := eo_sound (a := a) hgl htm hx
      have hvi := eo_sound (a := a) hgl htm hi
      split at hev
      · rename_i cs k he hk
        rw [he] at hv
        obtain ⟨kk, hki⟩ := natOf_sound hk hvi
        split at hev
        · rename_i hlt
          split at hev
          · rename_i c hcut
            generalize hv' : a.eval x = xv at hv
            cases hv with
            | agg _ _ vs hv =>
              obtain ⟨u, hr, hu'⟩ := run_part (P := P) hs hg hv hcut hev
              exact ⟨u, by simp [execOp, Instr.index, run_underlying hu, hv', hki, asIntOf, hlt, run_sizeT hs, hr], hu'⟩
          · simp at hev
        · simp at hev
      · simp at hev
    · simp at hc
  · simp at hc

theorem dry_builtin {b : Builtin} {args : Array Operand} {ts : Array TypeId} {d : Dry} {v : AV} {dst ty pos after guard} (hgl : GlR ι w Z gl) (htm : TmR ι w Z nx tm a.tmps)
    (hc : ofOp P (.call ⟨.builtin b, args, ts⟩) = some (.dry d)) (hev : evDry gl tm d = some v) : Yes ι w Z nx P a ⟨dst, .call ⟨.builtin b, args, ts⟩, ty, pos, after, guard⟩ v := by
  simp only [ofOp] at hc
  unfold ofBuiltin at hc
  split at hc
  · rename_i t x hts has
    have hts' : ts = #[t] := Array.ext' hts
    have has' : args = #[x] := Array.ext' has
    subst hts' has'
    split at hc
    · simp at hc
    · rename_i e hu hx
      simp only [Option.some.injEq, EOp.dry.injEq] at hc; subst hc
      simp only [evDry] at hev
      have hv := eo_sound (a := a) hgl htm hx
      split at hev
      · rename_i s he
        rw [he] at hv
        simp only [Option.some.injEq] at hev; subst hev
        generalize hv' : a.eval x = xv at hv
        cases hv with
        | str _ s =>
          rw [show (List.map (fun x => x.toNat) s.data.toList).length = s.size from bytes_len s]
          exact ⟨goInt s.size, by simp [execOp, resolve, invoke, builtin, Builtin.len_, run_underlying hu, hv'], .int _ _ _⟩
      · simp at hev
    · rename_i el e hu hx
      simp only [Option.some.injEq, EOp.dry.injEq] at hc; subst hc
      simp only [evDry] at hev
      have hv := eo_sound (a := a) hgl htm hx
      have hex : ∀ A n c, a.eval x = .slice A n c → Yes ι w Z nx P a ⟨dst, .call ⟨.builtin .len, #[x], #[t]⟩, ty, pos, after, guard⟩ (gint n) := fun A n c hs =>
        ⟨goInt n, by simp [execOp, resolve, invoke, builtin, Builtin.len_, run_underlying hu, hs], .int _ _ _⟩
      generalize hv' : a.eval x = xv at hv
      split at hev <;> (try rename_i he) <;> (try rw [he] at hv) <;> simp only [Option.some.injEq, reduceCtorEq] at hev <;> subst hev
      · cases hv; exact hex _ _ _ hv'
      · cases hv <;> exact hex _ _ _ hv'
      · cases hv <;> exact hex _ _ _ hv'
    · rename_i n el e hu hx
      simp only [Option.some.injEq, EOp.dry.injEq] at hc; subst hc
      simp only [evDry, Eo.ev, Option.some.injEq] at hev
      subst hev
      exact ⟨goInt n, by simp [execOp, resolve, invoke, builtin, Builtin.len_, run_underlying hu], .int _ _ _⟩
    · simp at hc
  · split at hc
    · split at hc <;> simp at hc
    · split at hc <;> simp at hc
    · simp at hc
  · split at hc
    · split at hc <;> simp at hc
    · simp at hc
  · split at hc
    · split at hc
      · split at hc <;> simp at hc
      · simp at hc
    · simp at hc
  · rename_i xs
    simp only [Option.map_eq_some_iff] at hc
    obtain ⟨es, hes, hc⟩ := hc
    simp only [EOp.dry.injEq] at hc; subst hc
    simp only [evDry] at hev
    have hvs := eos_sound (a := a) hgl htm hes
    split at hev
    · rename_i y r hr
      rw [hr] at hvs
      generalize hu : (List.map a.eval args.toList) = us at hvs
      cases hvs with
      | cons _ _ u _ us h1 h2 =>
        obtain ⟨r', hr', hv'⟩ := mmAll_sound (P := P) (mx := false) hev h1 h2
        refine ⟨r', ?_, hv'⟩
        simp only [Bool.false_eq_true, if_false] at hr'
        simp [execOp, resolve, invoke, builtin, Builtin.min_, hu, hr']
    · simp at hev
  · rename_i xs
    simp only [Option.map_eq_some_iff] at hc
    obtain ⟨es, hes, hc⟩ := hc
    simp only [EOp.dry.injEq] at hc; subst hc
    simp only [evDry] at hev
    have hvs := eos_sound (a := a) hgl htm hes
    split at hev
    · rename_i y r hr
      rw [hr] at hvs
      generalize hu : (List.map a.eval args.toList) = us at hvs
      cases hvs with
      | cons _ _ u _ us h1 h2 =>
        obtain ⟨r', hr', hv'⟩ := mmAll_sound (P := P) (mx := true) hev h1 h2
        refine ⟨r', ?_, hv'⟩
        simp only [if_true] at hr'
        simp [execOp, resolve, invoke, builtin, Builtin.max_, hu, hr']
    · simp at hev
  · simp at hc
  · simp at hc

/-- Every instruction that only looks at its operands. -/
theorem dry_sound {o : Oper} {d : Dry} {v : AV} (hgl : GlR ι w Z gl) (htm : TmR ι w Z nx tm a.tmps) (hc : ofOp P o.op = some (.dry d)) (hev : evDry gl tm d = some v) : Yes ι w Z nx P a o v := by
  obtain ⟨dst, op, ty, pos, after, guard⟩ := o
  simp only at hc
  cases op with
  | move x =>
    simp only [ofOp, Option.map_eq_some_iff, EOp.dry.injEq] at hc
    obtain ⟨e, he, rfl⟩ := hc
    simp only [evDry, Option.some.injEq] at hev; subst hev
    exact ⟨_, rfl, eo_sound (a := a) hgl htm he⟩
  | assign x =>
    simp only [ofOp, Option.map_eq_some_iff, EOp.dry.injEq] at hc
    obtain ⟨e, he, rfl⟩ := hc
    simp only [evDry, Option.some.injEq] at hev; subst hev
    exact ⟨_, rfl, eo_sound (a := a) hgl htm he⟩
  | pick c x y =>
    simp only [ofOp] at hc
    split at hc
    · rename_i ec ex ey h1 h2 h3
      simp only [Option.some.injEq, EOp.dry.injEq] at hc; subst hc
      have hc1 := eo_sound (a := a) hgl htm h1
      simp only [evDry] at hev
      split at hev
      · rename_i he
        simp only [Option.some.injEq] at hev; subst hev
        rw [he] at hc1
        generalize hv' : a.eval c = xv at hc1
        cases hc1
        exact ⟨_, by simp [execOp, hv', asBool], eo_sound (a := a) hgl htm h2⟩
      · rename_i he
        simp only [Option.some.injEq] at hev; subst hev
        rw [he] at hc1
        generalize hv' : a.eval c = xv at hc1
        cases hc1
        exact ⟨_, by simp [execOp, hv', asBool], eo_sound (a := a) hgl htm h3⟩
      · simp at hev
    · simp at hc
  | build t parts => exact dry_build hgl htm hc hev
  | nilCheck x =>
    simp only [ofOp, Option.map_eq_some_iff, EOp.dry.injEq] at hc
    obtain ⟨e, he, rfl⟩ := hc
    have hv := eo_sound (a := a) hgl htm he
    simp only [evDry] at hev
    generalize hv' : a.eval x = xv at hv
    split at hev <;> simp only [Option.some.injEq, reduceCtorEq] at hev <;> subst hev
    · rename_i h; rw [h] at hv; cases hv with | ptr _ _ _ hid => exact ⟨_, by simp [execOp, hv'], .ptr _ _ _ hid⟩
    · rename_i h; rw [h] at hv; cases hv with | cptr _ _ _ _ _ h1 h2 h3 => exact ⟨_, by simp [execOp, hv'], .cptr _ _ _ _ _ h1 h2 h3⟩
    · rename_i h; rw [h] at hv; cases hv with | fn _ _ _ _ _ _ h1 h2 => exact ⟨_, by simp [execOp, hv'], .fn _ _ _ _ _ _ h1 h2⟩
    · rename_i h; rw [h] at hv; cases hv with | ifc _ _ _ _ h1 => exact ⟨_, by simp [execOp, hv'], .ifc _ _ _ _ h1⟩
  | binOp op t x y yt =>
    simp only [ofOp] at hc
    split at hc
    · rename_i ex ey hx hy
      have hvx := eo_sound (a := a) hgl htm hx
      have hvy := eo_sound (a := a) hgl htm hy
      have hk : ∀ {z : Operand} {ez : Eo}, ofOperand z = some ez → isK ez = true → ∃ v, z = .const v := by
        intro z ez hz hkz
        cases z with
        | tmp => simp [ofOperand] at hz; subst hz; simp [isK] at hkz
        | const v => exact ⟨v, rfl⟩
        | global => simp [ofOperand] at hz; subst hz; simp [isK] at hkz
        | func f => simp [ofOperand] at hz; subst hz; simp [isK] at hkz
      split at hc
      · split at hc
        · rename_i k hkk
          split at hc
          · simp at hc
          · rename_i hif
            simp only [Option.some.injEq, EOp.dry.injEq] at hc; subst hc
            simp only [evDry] at hev
            split at hev
            · rename_i b hb
              simp only [Option.some.injEq, Bool.false_eq_true, if_false] at hev; subst hev
              have := eqAV_sound (P := P) (op := .eql) (xo := x) (yo := y) hkk hb hvx hvy (by
                intro hk0; subst hk0
                simp only [decide_true, Bool.true_and, Bool.and_eq_true, Bool.not_eq_true', not_and, Bool.not_eq_false] at hif
                by_cases h1 : isK ex = true
                · exact .inl (hk hx h1)
                · exact .inr (hk hy (hif (by simpa using h1)))) (.inl rfl)
              refine ⟨.bool b, ?_, .bool _ _⟩
              simp only [reduceCtorEq, if_false] at this
              simp only [execOp, Sem.run_bind] at this ⊢
              rw [this]; rfl
            · simp at hev
        · simp at hc
      · split at hc
        · rename_i k hkk
          split at hc
          · simp at hc
          · rename_i hif
            simp only [Option.some.injEq, EOp.dry.injEq] at hc; subst hc
            simp only [evDry] at hev
            split at hev
            · rename_i b hb
              simp only [Option.some.injEq, if_true] at hev; subst hev
              have := eqAV_sound (P := P) (op := .neq) (xo := x) (yo := y) hkk hb hvx hvy (by
                intro hk0; subst hk0
                simp only [decide_true, Bool.true_and, Bool.and_eq_true, Bool.not_eq_true', not_and, Bool.not_eq_false] at hif
                by_cases h1 : isK ex = true
                · exact .inl (hk hx h1)
                · exact .inr (hk hy (hif (by simpa using h1)))) (.inr rfl)
              refine ⟨.bool !b, ?_, .bool _ _⟩
              simp only [if_true] at this
              simp only [execOp, Sem.run_bind] at this ⊢
              rw [this]; rfl
            · simp at hev
        · simp at hc
      · rename_i hne hne'
        simp only [Option.some.injEq, EOp.dry.injEq] at hc; subst hc
        simp only [evDry] at hev
        obtain ⟨r, hr, hv⟩ := binAV_sound (P := P) (fun h => hne h) (fun h => hne' h) hev hvx hvy t
        refine ⟨r, ?_, hv⟩
        have hg : (eqGuard op t x y (a.eval x) (a.eval y)).run P w = .ok () w := by
          unfold eqGuard
          rw [if_pos (by cases op <;> first | rfl | exact absurd rfl hne | exact absurd rfl hne')]
          rfl
        simp only [execOp, Sem.run_bind, hg, Result.andThen_ok, hr, Sem.run_pure]
    · simp at hc
  | unOp op t x =>
    simp only [ofOp] at hc
    split at hc <;> simp only [Option.some.injEq, EOp.dry.injEq, reduceCtorEq] at hc <;> subst hc <;> rename_i e he <;> have hv := eo_sound (a := a) hgl htm he <;> simp only [evDry] at hev <;>
      split at hev <;> (try simp only [Option.some.injEq, reduceCtorEq] at hev) <;> rename_i h <;> rw [h] at hv <;> generalize hv' : a.eval x = xv at hv <;> cases hv
    · subst hev; exact ⟨_, by simp [execOp, Op.unary, hv'], .bool _ _⟩
    · subst hev; exact ⟨_, by simp [execOp, Op.unary, hv', Op.intArith], .int _ _ _⟩
    · simp only [binInt, Option.some.injEq] at hev; subst hev
      exact ⟨_, by simp only [execOp, Op.unary, hv', Op.intBits, Sem.run_bind, Sem.run_pure, Result.andThen_ok], .int _ _ _⟩
  | convert src dst' x =>
    simp only [ofOp] at hc
    split at hc
    · rename_i d1 k e hs hd he
      simp only [Option.some.injEq, EOp.dry.injEq] at hc; subst hc
      have hv := eo_sound (a := a) hgl htm he
      simp only [evDry] at hev
      split at hev
      · rename_i h
        simp only [Option.some.injEq] at hev; subst hev
        rw [h] at hv
        generalize hv' : a.eval x = xv at hv
        cases hv
        refine ⟨_, by simp [execOp, convert, run_underlying hs, run_underlying hd, hv', Conv.intToInt], .int _ _ _⟩
      · simp at hev
    · rename_i e hs hd he
      simp only [Option.some.injEq, EOp.dry.injEq] at hc; subst hc
      simp only [evDry, evo] at hev
      have hv := eo_sound (a := a) hgl htm he
      split at hev
      · rename_i s h
        rw [h] at hv
        generalize hv' : a.eval x = xv at hv
        cases hv with
        | str _ s =>
          simp at hev
          subst hev
          rw [List.take_of_length_le (by simp)]
          exact ⟨_, by simp [execOp, convert, run_underlying hs, run_underlying hd, hv'], .str _ _⟩
      · simp at hev
    · split at hc <;> simp at hc
    · simp at hc
  | makeInterface t x =>
    simp only [ofOp] at hc
    split at hc
    · simp at hc
    · rename_i d1 e hn hu he
      simp only [Option.some.injEq, EOp.dry.injEq] at hc; subst hc
      simp only [evDry, Option.some.injEq] at hev; subst hev
      refine ⟨.iface t (a.eval x), ?_, .ifc _ _ _ _ (eo_sound (a := a) hgl htm he)⟩
      simp only [execOp, Instr.makeInterface, Sem.run_bind, run_underlying hu, Result.andThen_ok]
      rfl
    · simp at hc
  | makeFunc f xs ys =>
    cases f <;> simp only [ofOp, reduceCtorEq] at hc
    split at hc
    · rename_i f ex ey hx hy
      simp only [Option.some.injEq, EOp.dry.injEq] at hc; subst hc
      simp only [evDry, Option.some.injEq] at hev; subst hev
      refine ⟨.func (.func _) (xs.map a.eval) (ys.map a.eval), rfl, .fn _ _ _ _ _ _ ?_ ?_⟩
      · simpa using eos_sound (a := a) hgl htm hx
      · simpa using eos_sound (a := a) hgl htm hy
    · simp at hc
  | slice t x lo hi mx =>
    cases mx with
    | none => exact dry_slice hgl htm hc hev
    | some => simp [ofOp] at hc
  | fieldAddr t x f => exact dry_fieldAddr hgl htm hc hev
  | field t x f => exact dry_field hgl htm hc hev
  | indexAddr t x i => exact dry_indexAddr hgl htm hc hev
  | index t x i => exact dry_index hgl htm hc hev
  | extract x i =>
    simp only [ofOp, Option.map_eq_some_iff, EOp.dry.injEq] at hc
    obtain ⟨e, he, rfl⟩ := hc
    have hv := eo_sound (a := a) hgl htm he
    simp only [evDry] at hev
    split at hev
    · rename_i vs h
      rw [h] at hv
      generalize hv' : a.eval x = xv at hv
      cases hv with
      | tup _ _ us hv =>
        obtain ⟨u, hu, hvu⟩ := hv.get hev
        refine ⟨u, ?_, hvu⟩
        have : us[i]? = some u := by simpa using hu
        simp [execOp, Instr.extract, hv', this]
    · simp at hev
  | typeAssert x xt t ok =>
    simp only [ofOp] at hc
    split at hc
    · simp at hc
    · rename_i d1 e z hn hu he hz
      simp only [Option.some.injEq, EOp.dry.injEq] at hc; subst hc
      have hv := eo_sound (a := a) hgl htm he
      obtain ⟨zu, hzu, hoz⟩ := zeroT_some hz
      have hzr := ofValue_sound (ι := ι) (w := w) (Z := Z) (nx := nx) zu z hoz
      have hni : ∀ ms, d1 ≠ .interface ms := fun ms h => hn ms h
      cases ok with
      | false =>
        simp only [Bool.false_eq_true, if_false, evDry] at hev
        split at hev
        · rename_i u v' h
          split at hev
          · rename_i hut
            simp only [Option.some.injEq] at hev; subst hev
            rw [h] at hv
            generalize hv' : a.eval x = xv at hv
            cases hv with
            | ifc _ _ _ y hy =>
              subst hut
              refine ⟨y, ?_, hy⟩
              cases d1 <;> first | exact absurd rfl (hni _) | simp [execOp, Instr.typeAssert, run_underlying hu, hv']
          · simp at hev
        · simp at hev
      | true =>
        simp only [if_true, evDry] at hev
        split at hev
        · rename_i u v' h
          rw [h] at hv
          generalize hv' : a.eval x = xv at hv
          cases hv with
          | ifc _ _ _ y hy =>
            split at hev
            · rename_i hut
              simp only [Option.some.injEq] at hev; subst hev
              subst hut
              refine ⟨.tuple #[y, .bool true], ?_, .tup _ _ _ (.cons _ _ _ _ _ hy (.cons _ _ _ _ _ (.bool _ _) (.nil _)))⟩
              cases d1 <;> first | exact absurd rfl (hni _) | simp [execOp, Instr.typeAssert, run_underlying hu, hv']
            · rename_i hut
              simp only [Option.some.injEq] at hev; subst hev
              refine ⟨.tuple #[zu, .bool false], ?_, .tup _ _ _ (.cons _ _ _ _ _ hzr (.cons _ _ _ _ _ (.bool _ _) (.nil _)))⟩
              cases d1 <;> first | exact absurd rfl (hni _) | simp [execOp, Instr.typeAssert, run_underlying hu, hv', hut, run_zeroT hzu]
        · rename_i h
          simp only [Option.some.injEq] at hev; subst hev
          rw [h] at hv
          generalize hv' : a.eval x = xv at hv
          cases hv
          refine ⟨.tuple #[zu, .bool false], ?_, .tup _ _ _ (.cons _ _ _ _ _ hzr (.cons _ _ _ _ _ (.bool _ _) (.nil _)))⟩
          cases d1 <;> first | exact absurd rfl (hni _) | simp [execOp, Instr.typeAssert, run_underlying hu, hv', run_zeroT hzu]
        · simp at hev
    · simp at hc
  | call c =>
    obtain ⟨callee, args, ts⟩ := c
    cases callee with
    | builtin b => exact dry_builtin hgl htm hc hev
    | value f =>
      simp only [ofOp, ofCallee] at hc
      split at hc <;> simp at hc
    | invoke r m => simp [ofOp] at hc
  | _ => exfalso; simp only [ofOp] at hc <;> (repeat' (split at hc)) <;> first | (simp at hc; done) | contradiction | (simp_all; done)
end
end Go.Ev
/- Steps on memory: what a new row, a write, an append leave. -/
namespace Go.Ev

section
variable {ι : Emb} {w : World} {Z : Nat → Prop} {nx lo : Nat} {P : Program}

/-- One block is made or written; others may be let go. -/
theorem rel_put {G G' : Nat → Option ABlk} {ι' : Emb} {w' : World} {nx' id B : Nat} {b : ABlk} (r : Rel ι w Z nx G) (ha : ι'.agree ι nx) (hn : nx ≤ nx')
    (hw : ∀ k, k < w.heap.size → k ≠ B → w'.heap[k]? = w.heap[k]?) (hs : w.heap.size ≤ w'.heap.size)
    (hG : ∀ i x, i ≠ id → G' i = some x → G i = some x ∧ ι.blk i ≠ B) (hb : G' id = some b) (hid : id < nx') (hB : ι'.blk id = B) (hBs : B < w'.heap.size) (hZ : ¬ Z B)
    (hbr : BR ι' w' Z nx' id b) (hold : w.heap.size ≤ B ∨ ∃ id0, lo ≤ id0 ∧ (G id0).isSome ∧ ι.blk id0 = B)
    (hos : w'.os = w.os) (htp : w'.tape = w.tape) (hout : w'.output = w.output) :
    Rel ι' w' Z nx' G' ∧ Ext ι w Z nx lo G ι' w' Z nx' G' := by
  have hzk : ∀ k, Z k → Z k ∧ w'.heap[k]? = w.heap[k]? := fun k hk => ⟨hk, hw k (r.zlt k hk) (fun e => hZ (e ▸ hk))⟩
  refine ⟨⟨?_, ?_, fun k hk => Nat.lt_of_lt_of_le (r.zlt k hk) hs⟩, ?_⟩
  · intro i x hx
    by_cases hi : i = id
    · subst hi
      rw [hb] at hx
      simp only [Option.some.injEq] at hx; subst hx
      exact ⟨hid, hB ▸ hBs, hB ▸ hZ, hbr⟩
    · obtain ⟨hg, hne⟩ := hG i x hi hx
      obtain ⟨h1, h2, h3, h4⟩ := r.blk i x hg
      obtain ⟨e1, e2, e3, e4⟩ := ha i h1
      refine ⟨Nat.lt_of_lt_of_le h1 hn, by rw [e1]; omega, by rw [e1]; exact h3, ?_⟩
      have hk := hw (ι.blk i) h2 hne
      cases x with
      | cells cs sz ex =>
        obtain ⟨q1, c, el, fz, q2, q3, q4, q5, q6, vs, q7, q8⟩ := h4
        exact ⟨by rw [e4]; exact q1, c, el, fz, by rw [e1, hk]; exact q2, by rw [e3]; exact q3, by rw [e2]; exact q4, by rw [e2]; exact q5, q6, vs, q7.mono ha hzk hn, by rw [e2]; exact q8⟩
      | map es =>
        obtain ⟨ko, ents, clock, q1, l, q2, q3, q4⟩ := h4
        exact ⟨ko, ents, clock, by rw [e1, hk]; exact q1, l, q2.mono ha hzk hn, q3.mono ha hzk hn, q4⟩
  · intro i j x y hx hy hij
    by_cases hi : i = id
    · by_cases hj : j = id
      · omega
      · obtain ⟨hg, hne⟩ := hG j y hj hy
        have e1 := (ha j (r.blk j y hg).1).1
        rw [e1, hi, hB]
        exact fun e => hne e.symm
    · obtain ⟨hg, hne⟩ := hG i x hi hx
      have e1 := (ha i (r.blk i x hg).1).1
      by_cases hj : j = id
      · rw [e1, hj, hB]; exact hne
      · obtain ⟨hg', hne'⟩ := hG j y hj hy
        have e2 := (ha j (r.blk j y hg').1).1
        rw [e1, e2]
        exact r.inj i j x y hg hg' hij
  · refine ⟨ha, hn, fun _ h => h, fun _ h => .inl h, ?_, hs, ?_, hos, htp, hout⟩
    · intro k hk hkn
      refine hw k hk ?_
      intro e
      rcases hold with h | ⟨id0, h1, h2, h3⟩
      · omega
      · exact hkn id0 h1 h2 (h3.trans e.symm)
    · intro i hi
      obtain ⟨x, hx⟩ := Option.isSome_iff_exists.1 hi
      by_cases hii : i = id
      · rw [hii, hB]
        rcases hold with h | ⟨id0, h1, h2, h3⟩
        · exact .inl h
        · exact .inr ⟨id0, h2, h3, .inl h1⟩
      · obtain ⟨hg, hne⟩ := hG i x hii hx
        exact .inr ⟨i, by rw [hg]; rfl, ((ha i (r.blk i x hg).1).1).symm, .inr rfl⟩

/-- A new block. -/
def Emb.set (ι : Emb) (i B o n z : Nat) : Emb :=
  ⟨fun k => if k = i then B else ι.blk k, fun k => if k = i then o else ι.off k, fun k => if k = i then n else ι.size k, fun k => if k = i then z else ι.sz k⟩
theorem Emb.set_agree (ι : Emb) (i B o n z nx : Nat) (h : nx ≤ i) : (ι.set i B o n z).agree ι nx := by
  intro k hk
  have : k ≠ i := by omega
  simp [Emb.set, this]

theorem rel_new {s : St} {w' : World} {cs : List AV} {sz ex : Nat} {c : Array Value} {el : TypeId} {vs : List Value} (r : Rel ι w Z s.nx s.H.get)
    (hh : w'.heap = w.heap.push (.cells c el (0, 0))) (hv : VRs ι w Z s.nx cs vs) (hc : ∀ (i : Nat) (v : Value), vs[i]? = some v → c[i]? = some v) (hle : cs.length ≤ c.size) (hex : ex % 2 = 1 → cs.length = c.size) (hel : 2 ≤ ex → ex / 2 = el + 1)
    (hos : w'.os = w.os) (htp : w'.tape = w.tape) (hout : w'.output = w.output) :
    Rel (ι.set s.nx w.heap.size 0 c.size sz) w' Z (s.nx + 1) (s.new (.cells cs sz ex)).H.get ∧ Ext ι w Z s.nx lo s.H.get (ι.set s.nx w.heap.size 0 c.size sz) w' Z (s.nx + 1) (s.new (.cells cs sz ex)).H.get := by
  have hzlt := r.zlt
  have hw : ∀ k, k < w.heap.size → w'.heap[k]? = w.heap[k]? := fun k hk => by rw [hh, Array.getElem?_push, if_neg (by omega)]
  refine rel_put (id := s.nx) (B := w.heap.size) (b := .cells cs sz ex) r (Emb.set_agree ι _ _ _ _ _ _ (Nat.le_refl _)) (Nat.le_succ _) (fun k hk _ => hw k hk) (by rw [hh]; simp) ?_ ?_ (Nat.lt_succ_self _)
    (by simp [Emb.set]) (by rw [hh]; simp) (fun hz => Nat.lt_irrefl _ (hzlt _ hz)) ?_ (.inl (Nat.le_refl _)) hos htp hout
  · intro i x hi hx
    simp only [St.new, Tr.set] at hx
    rw [Tr.get_put_ne _ _ hi] at hx
    exact ⟨hx, fun e => by have := (r.blk i x hx).2.1; omega⟩
  · simp only [St.new, Tr.set]; exact Tr.get_put_self _ _ _
  · refine ⟨by simp [Emb.set], c, el, (0, 0), ?_, by simp [Emb.set], by simp [Emb.set]; exact hle, ⟨by simp [Emb.set]; exact hex, fun h => ⟨by simp [Emb.set], hel h⟩⟩, fun i _ => by simp, vs, ?_, ?_⟩
    · simp [Emb.set, hh]
    · exact hv.mono (Emb.set_agree ι _ _ _ _ _ _ (Nat.le_refl _)) (fun k hk => ⟨hk, hw k (hzlt k hk)⟩) (Nat.le_succ _)
    · simp [Emb.set]; exact hc

theorem row_some {s : St} {id : Nat} {cs : List AV} {sz ex : Nat} (h : row s id = some (cs, sz, ex)) : s.H.get id = some (.cells cs sz ex) := by
  unfold row at h
  split at h
  · rename_i h1
    simp only [Option.some.injEq, Prod.mk.injEq] at h
    obtain ⟨rfl, rfl, rfl⟩ := h
    exact h1
  · simp at h

/-- The cells of a row, where the evaluator's block says them. -/
theorem at_row {s : St} {id : Nat} {cs : List AV} {sz ex : Nat} (r : Rel ι w Z nx s.H.get) (h : row s id = some (cs, sz, ex)) : ∃ vs, VRs ι w Z nx cs vs ∧ At w (ι.blk id) (ι.off id) vs := by
  obtain ⟨_, _, _, _, c, el, fz, h1, h2, h3, h4, h5, vs, h6, h7⟩ := r.blk id _ (row_some h)
  refine ⟨vs, h6, ?_⟩
  intro i v hi
  unfold World.cell?
  simp only [h1]
  exact h7 i v hi

theorem run_loadCells_at {b o : Nat} {vs : List Value} (h : At w b o vs) : (loadCells ⟨b, o, none⟩ vs.length).run P w = .ok vs.toArray w :=
  run_loadCells_list w ⟨b, o, none⟩ vs fun j v hj => by rw [add_plain]; exact h j v hj
theorem run_loadVar_at {t : TypeId} {n : Nat} {g : Bool} {b o : Nat} {vs : List Value} {c : List AV} {v : AV} (hs : sizeT P t = some n) (hg : aggT P t = some g) (h : At w b o vs) (hl : vs.length = n) (hv : VRs ι w Z nx c vs)
    (hu : unflat g c = some v) : ∃ u, (loadVar t ⟨b, o, none⟩).run P w = .ok u w ∧ VR ι w Z nx v u := by
  rcases unflat_sound hu hv with ⟨rfl, h1⟩ | ⟨rfl, u, rfl, _, h1⟩
  · refine ⟨_, ?_, h1⟩
    simp only [loadVar, Sem.run_bind, run_aggT hg, Result.andThen_ok, if_true, run_sizeT hs]
    rw [← hl, run_loadCells_at h]
    rfl
  · refine ⟨u, ?_, h1⟩
    simp only [loadVar, Sem.run_bind, run_aggT hg, Result.andThen_ok, Bool.false_eq_true, if_false]
    have := h 0 u rfl
    simp only [Nat.add_zero] at this
    simp [this]

def oneC : Value → Bool
  | .agg _ | .tuple _ => false
  | _ => true
/-- A run of stores into one row. -/
theorem run_storeCells_ev (b o : Nat) (el : TypeId) (fz : Nat × Nat) : ∀ (vs : List Value) (i : Nat) (cur : Array Value) (w : World), w.heap[b]? = some (.cells cur el fz) → (∀ j, j < cur.size → ¬ (fz.1 ≤ j ∧ j < fz.2)) →
    o + i + vs.length ≤ cur.size → (∀ v ∈ vs, oneC v = true) →
    ∃ w' cur', (storeCells ⟨b, o, none⟩ vs i).run P w = .ok () w' ∧ w'.heap[b]? = some (.cells cur' el fz) ∧ cur'.size = cur.size ∧
      (∀ j, cur'[j]? = if o + i ≤ j ∧ j < o + i + vs.length then vs[j - (o + i)]? else cur[j]?) ∧ (∀ k, k ≠ b → w'.heap[k]? = w.heap[k]?) ∧ w'.heap.size = w.heap.size ∧
      w'.os = w.os ∧ w'.tape = w.tape ∧ w'.output = w.output
  | [], i, cur, w, h, _, _, _ => ⟨w, cur, by simp [storeCells], h, rfl, fun j => by rw [if_neg (by simp only [List.length_nil]; omega)], fun _ _ => rfl, rfl, rfl, rfl, rfl⟩
  | v :: r, i, cur, w, h, hf, hle, h1 => by
    simp only [List.length_cons] at hle
    have hcell : w.cell? ⟨b, o + i, none⟩ = some cur[o + i] := by
      unfold World.cell?
      simp only [h, Option.isSome_none, Bool.false_eq_true, if_false]
      exact Array.getElem?_eq_getElem (by omega)
    have hfr : w.frozen? ⟨b, o + i, none⟩ = false := by
      unfold World.frozen?
      simp only [h]
      have := hf (o + i) (by omega)
      cases hb : (decide (fz.1 ≤ o + i) && decide (o + i < fz.2)) with
      | false => rfl
      | true => simp at hb; exact absurd hb this
    let w1 := w.setCell ⟨b, o + i, none⟩ v
    have hb1 : w1.heap[b]? = some (.cells (cur.setIfInBounds (o + i) v) el fz) := by
      simp only [w1, World.setCell, Array.getElem?_modify, if_true, h, Option.map_some]
      rfl
    have hk1 : ∀ k, k ≠ b → w1.heap[k]? = w.heap[k]? := fun k hk => by
      simp only [w1, World.setCell, Array.getElem?_modify]
      rw [if_neg (fun e => hk e.symm)]
    obtain ⟨w', cur', hr, hh, hs, hj, hk, hsz, ho, ht, hou⟩ := run_storeCells_ev b o el fz r (i + 1) (cur.setIfInBounds (o + i) v) w1 hb1 (by simpa using hf) (by simp; omega) (fun x hx => h1 x (by simp [hx]))
    refine ⟨w', cur', ?_, hh, by simpa using hs, ?_, fun k hne => (hk k hne).trans (hk1 k hne), by rw [hsz]; simp [w1], by rw [ho]; rfl, by rw [ht]; rfl, by rw [hou]; rfl⟩
    · have hone := h1 v (by simp)
      have : (store ⟨b, o + i, none⟩ v).run P w = .ok () w1 := by
        cases v <;> simp [oneC] at hone <;> simp [store, Sem.run, hcell, hfr, w1]
      simp only [storeCells, add_plain, Sem.run_bind, this, Result.andThen_ok]
      exact hr
    · intro j
      rw [hj j]
      simp only [List.length_cons]
      by_cases h2 : o + (i + 1) ≤ j ∧ j < o + (i + 1) + r.length
      · rw [if_pos h2, if_pos (by omega)]
        have : j - (o + i) = (j - (o + (i + 1))) + 1 := by omega
        rw [this]; rfl
      · rw [if_neg h2]
        by_cases h3 : j = o + i
        · subst h3
          rw [if_pos (by omega)]
          simp [show o + i < cur.size by omega]
        · rw [if_neg (by omega)]
          rw [Array.getElem?_setIfInBounds_ne (fun e => h3 e.symm)]

theorem cellOk_sound {v : AV} {u : Value} (h : v.cellOk = true) (hv : VR ι w Z nx v u) : oneC u = true := by
  cases hv <;> simp [AV.cellOk] at h <;> first | rfl | (rename_i h1; cases u <;> simp [one] at h1 <;> rfl)
theorem cellsOk_sound : ∀ {v : List AV} {u : List Value}, v.all AV.cellOk = true → VRs ι w Z nx v u → ∀ x ∈ u, oneC x = true
  | [], _, _, hv, x, hx => by cases hv; simp at hx
  | a :: r, _, h, hv, x, hx => by
    cases hv with
    | cons _ _ y _ us h1 h2 =>
      simp only [List.all_cons, Bool.and_eq_true] at h
      rcases List.mem_cons.1 hx with rfl | hx
      · exact cellOk_sound h.1 h1
      · exact cellsOk_sound h.2 h2 x hx
end
end Go.Ev
/- Each instruction that looks at memory, or makes some, does in the model what the evaluator says: new rows, loads, stores. -/
namespace Go.Ev

/-- What a 'wet' instruction promises. -/
def WOut (ι : Emb) (w : World) (Z : Nat → Prop) (lo : Nat) (s : St) (res : Result Next) (v : AV) (s' : St) : Prop :=
  ∃ n w' ι' Z', res = .ok n w' ∧ ((∃ u, n = .value u ∧ VR ι' w' Z' s'.nx v u) ∨ (n = .skip ∧ v = undefA)) ∧ Rel ι' w' Z' s'.nx s'.H.get ∧ Ext ι w Z s.nx lo s.H.get ι' w' Z' s'.nx s'.H.get

section
variable {ι : Emb} {w : World} {Z : Nat → Prop} {lo : Nat} {gl : Nat → AV} {tm : Tr AV} {P : Program} {a : Act} {s s' : St}

theorem WOut.same {res : Result Next} {v : AV} {u : Value} (r : Rel ι w Z s.nx s.H.get) (h : res = .ok (.value u) w) (hv : VR ι w Z s.nx v u) : WOut ι w Z lo s res v s :=
  ⟨_, w, ι, Z, h, .inl ⟨u, rfl, hv⟩, r, .refl⟩

theorem run_newRow (c : Array Value) (el : TypeId) : (newRow el c).run P w = .ok ⟨w.heap.size, 0, none⟩ (w.alloc (.cells c el (0, 0))) := by
  simp [newRow, newObj, Sem.run]

theorem exT_el {t : TypeId} (h : 2 ≤ exT P t) : exT P t / 2 = t + 1 := by
  unfold exT at h ⊢
  split at h <;> omega
/-- A value in a row of its own. -/
theorem wet_newVar {cs : List AV} {c : Array Value} {el : TypeId} {sz ex : Nat} {res : Result Next} (hel : 2 ≤ ex → ex / 2 = el + 1) (r : Rel ι w Z s.nx s.H.get) (hv : VRs ι w Z s.nx cs c.toList)
    (h : res = .ok (.value (.pointer (some ⟨w.heap.size, 0, none⟩))) (w.alloc (.cells c el (0, 0)))) : WOut ι w Z lo s res (.ptr s.nx 0) (s.new (.cells cs sz ex)) := by
  have hl : cs.length = c.size := by simpa using hv.length
  obtain ⟨h1, h2⟩ := rel_new (lo := lo) (w' := w.alloc (.cells c el (0, 0))) (sz := sz) (ex := ex) (el := el) r rfl hv (fun i v hi => by simpa using hi) (Nat.le_of_eq hl) (fun _ => hl) hel rfl rfl rfl
  refine ⟨_, _, _, _, h, .inl ⟨_, rfl, ?_⟩, h1, h2⟩
  have := VR.ptr (ι := ι.set s.nx w.heap.size 0 c.size sz) (w := w.alloc (.cells c el (0, 0))) (Z := Z) (s.nx + 1) s.nx 0 (Nat.lt_succ_self _)
  simpa [Emb.set, St.new] using this

theorem wet_alloc {t : TypeId} {d : Wet} {v : AV} {dst ty pos after guard} (r : Rel ι w Z s.nx s.H.get)
    (hc : ofOp P (.alloc t) = some (.wet d)) (hev : evWet gl tm lo s d = some (v, s')) : WOut ι w Z lo s ((execOp a.eval ⟨dst, .alloc t, ty, pos, after, guard⟩).run P w) v s' := by
  simp only [ofOp] at hc
  split at hc
  · rename_i sz z hsz hz
    simp only [Option.some.injEq, EOp.wet.injEq] at hc; subst hc
    simp only [evWet, Option.some.injEq, Prod.mk.injEq] at hev
    obtain ⟨rfl, rfl⟩ := hev
    obtain ⟨zu, hzu, hoz⟩ := zeroT_some hz
    have hzr := ofValue_sound (ι := ι) (w := w) (Z := Z) (nx := s.nx) zu z hoz
    exact wet_newVar (el := t) (exT_el (P := P)) r hzr.flat (by simp [execOp, Instr.alloc, run_zeroT hzu, newVar, run_newRow])
  · simp at hc
theorem wet_box {t : TypeId} {x : Operand} {d : Wet} {v : AV} {dst ty pos after guard} (r : Rel ι w Z s.nx s.H.get) (hgl : GlR ι w Z gl) (htm : TmR ι w Z s.nx tm a.tmps)
    (hc : ofOp P (.box t x) = some (.wet d)) (hev : evWet gl tm lo s d = some (v, s')) : WOut ι w Z lo s ((execOp a.eval ⟨dst, .box t x, ty, pos, after, guard⟩).run P w) v s' := by
  simp only [ofOp] at hc
  split at hc
  · rename_i sz e hsz he
    simp only [Option.some.injEq, EOp.wet.injEq] at hc; subst hc
    simp only [evWet, Option.some.injEq, Prod.mk.injEq] at hev
    obtain ⟨rfl, rfl⟩ := hev
    exact wet_newVar (el := t) (fun h => by omega) r (eo_sound (a := a) hgl htm he).flat (by simp [execOp, Instr.box, newVar, run_newRow])
  · simp at hc

theorem rep_range : ∀ (n : Nat) (z : Array Value), ((Array.range (n * z.size)).map fun i => z[i % z.size]!).toList = (List.replicate n z.toList).flatten
  | 0, z => by simp
  | n + 1, z => by
    have ih := rep_range n z
    rw [List.replicate_succ', List.flatten_append, ← ih]
    simp only [Array.toList_map, Array.toList_range, List.flatten_cons, List.flatten_nil, List.append_nil]
    rw [Nat.succ_mul, List.range_add, List.map_append, List.map_map]
    congr 1
    apply List.ext_getElem?
    intro i
    simp only [List.getElem?_map, Function.comp_apply]
    by_cases hi : i < z.size
    · rw [List.getElem?_range hi]
      simp [Nat.mod_eq_of_lt hi, hi]
    · simp [hi]
theorem rep_vrs {nx : Nat} {zs : List AV} {zv : List Value} (h : VRs ι w Z nx zs zv) : ∀ n, VRs ι w Z nx (List.replicate n zs).flatten (List.replicate n zv).flatten
  | 0 => .nil _
  | n + 1 => by simp only [List.replicate_succ, List.flatten_cons]; exact h.append (rep_vrs h n)

theorem wet_buildSlice {t : TypeId} {len : Nat} {parts : Array (Nat × Operand)} {d : Wet} {v : AV} {dst ty pos after guard} (r : Rel ι w Z s.nx s.H.get) (hgl : GlR ι w Z gl) (htm : TmR ι w Z s.nx tm a.tmps)
    (hc : ofOp P (.buildSlice t len parts) = some (.wet d)) (hev : evWet gl tm lo s d = some (v, s')) : WOut ι w Z lo s ((execOp a.eval ⟨dst, .buildSlice t len parts, ty, pos, after, guard⟩).run P w) v s' := by
  simp only [ofOp] at hc
  split at hc
  · rename_i el hu
    split at hc
    · rename_i sz z hs hz
      split at hc
      · rename_i hb
        split at hc
        · rename_i ps hps
          simp only [Option.some.injEq, EOp.wet.injEq] at hc; subst hc
          simp only [evWet] at hev
          split at hev
          · rename_i cs hf
            simp only [Option.some.injEq, Prod.mk.injEq] at hev
            obtain ⟨rfl, rfl⟩ := hev
            obtain ⟨zu, hzu, hoz⟩ := zeroT_some hz
            have hzr := (ofValue_sound (ι := ι) (w := w) (Z := Z) (nx := s.nx) zu z hoz).flat
            have hzl : zu.cells.size = sz := by have := hzr.length; simp at this; omega
            let zero : Array Value := if len * sz = 0 then #[] else zu.cells
            have hzero : ((Array.range (len * sz)).map fun i => zero[i % zero.size]!).toList = (List.replicate len zu.cells.toList).flatten := by
              by_cases h0 : len * sz = 0
              · rw [h0]
                have e0 : (Array.range 0) = #[] := rfl
                rw [e0]
                simp only [Array.map_empty]
                rcases Nat.mul_eq_zero.1 h0 with h | h
                · simp [h]
                · have : zu.cells.toList = [] := by
                    apply List.eq_nil_of_length_eq_zero
                    rw [Array.length_toList]; omega
                  rw [this]; simp
              · have : zero = zu.cells := by simp [zero, h0]
                rw [this, ← hzl]
                exact rep_range len zu.cells
            have hz2 : VRs ι w Z s.nx (List.replicate len (flat z)).flatten ((Array.range (len * sz)).map fun i => zero[i % zero.size]!).toList := by
              rw [hzero]; exact rep_vrs hzr len
            have hf' : fills (List.replicate len (flat z)).flatten (ps.map fun p => (p.1, p.2.1, p.2.2.ev gl tm)) = some cs := by
              have hsame : ∀ {ps : List (Nat × Nat × Eo)} {qs : List (Nat × Operand)}, ofParts (fun i => some (i * sz, sz)) qs = some ps → (ps.map fun p => (p.1, p.2.2)).map (fun p => (p.1, sz, p.2.ev gl tm)) = ps.map fun p => (p.1, p.2.1, p.2.2.ev gl tm) := by
                intro ps qs
                induction qs generalizing ps with
                | nil => intro h; simp [ofParts] at h; subst h; rfl
                | cons q qs ih =>
                  obtain ⟨i, x⟩ := q
                  intro h
                  simp only [ofParts] at h
                  cases h2 : ofOperand x with
                  | none => simp [h2] at h
                  | some e =>
                    cases h3 : ofParts (fun i => some (i * sz, sz)) qs with
                    | none => simp [h2, h3] at h
                    | some qs' =>
                      simp [h2, h3] at h
                      subst h
                      have := ih h3
                      simp only [List.map_cons] at this ⊢
                      rw [this]
              rw [← hsame hps]; exact hf
            obtain ⟨us, hfill, hv⟩ := fills_sound (a := a) hgl htm hps hf' hz2
            have e1 : (parts.map fun (i, x) => (i, a.eval x)).toList = parts.toList.map fun p => (p.1, a.eval p.2) := by simp
            have hrun : (execOp a.eval ⟨dst, .buildSlice t len parts, ty, pos, after, guard⟩).run P w = .ok (.value (.slice (some ⟨w.heap.size, 0, none⟩) len len)) (w.alloc (.cells us el (0, 0))) := by
              have hle : ¬ len * sz > 2 ^ 24 := by have := hb.1; omega
              by_cases h0 : len * sz = 0
              · have hz0 : zero = #[] := by simp [zero, h0]
                rw [hz0] at hfill
                simp only [execOp, Instr.buildSlice, Sem.run_bind, run_underlying hu, Result.andThen_ok, run_sizeT hs, hle, if_false, Sem.run_pure, h0, if_true, Sem.run_ite]
                rw [h0] at hfill
                simp only [e1, hfill, Sem.run_bind, run_newRow, Sem.run_pure, Result.andThen_ok]
                rw [if_neg (by decide)]
                rfl
              · have hz0 : zero = zu.cells := by simp [zero, h0]
                rw [hz0] at hfill
                simp only [execOp, Instr.buildSlice, Sem.run_bind, run_underlying hu, Result.andThen_ok, run_sizeT hs, hle, if_false, Sem.run_pure, h0, Sem.run_ite, run_zeroT hzu]
                simp only [e1, hfill, Sem.run_bind, run_newRow, Sem.run_pure, Result.andThen_ok]
            have hl : cs.length = us.size := by simpa using hv.length
            have hcs : cs.length = len * sz := by
              have := hz2.length
              have h3 : ∀ {qs : List (Nat × Nat × AV)} {c d : List AV}, fills c qs = some d → d.length = c.length := by
                intro qs
                induction qs with
                | nil => intro c d h; simp [fills] at h; rw [h]
                | cons q qs ih =>
                  obtain ⟨o, n, v⟩ := q
                  intro c d h
                  simp only [fills] at h
                  split at h
                  · rename_i c' _ ho
                    rw [ih h]
                    unfold over at ho
                    split at ho
                    · rename_i hle
                      have := Nat.le_of_ble_eq_true hle
                      simp only [Option.some.injEq] at ho
                      subst ho
                      simp; omega
                    · simp at ho
                  · simp at h
              rw [h3 hf]
              simp [hb.2]
            obtain ⟨h1, h2⟩ := rel_new (lo := lo) (w' := w.alloc (.cells us el (0, 0))) (sz := sz) (ex := 1) (el := el) r rfl hv (fun i v hi => by simpa using hi) (Nat.le_of_eq hl) (fun _ => hl) (fun h => by omega) rfl rfl rfl
            refine ⟨_, _, _, _, hrun, .inl ⟨_, rfl, ?_⟩, h1, h2⟩
            have := VR.sl (ι := ι.set s.nx w.heap.size 0 us.size sz) (w := w.alloc (.cells us el (0, 0))) (Z := Z) (s.nx + 1) s.nx 0 len len (Nat.lt_succ_self _) (Nat.le_refl _) (by simp [Emb.set]; omega)
            simpa [Emb.set, St.new] using this
          · simp at hev
        · simp at hc
      · simp at hc
    · simp at hc
  · simp at hc

theorem wet_load {t : TypeId} {x : Operand} {d : Wet} {v : AV} {dst ty pos after guard} (r : Rel ι w Z s.nx s.H.get) (hgl : GlR ι w Z gl) (htm : TmR ι w Z s.nx tm a.tmps)
    (hc : ofOp P (.load t x) = some (.wet d)) (hev : evWet gl tm lo s d = some (v, s')) : WOut ι w Z lo s ((execOp a.eval ⟨dst, .load t x, ty, pos, after, guard⟩).run P w) v s' := by
  simp only [ofOp] at hc
  split at hc
  · rename_i n g e hs hg he
    simp only [Option.some.injEq, EOp.wet.injEq] at hc; subst hc
    simp only [evWet] at hev
    have hx := eo_sound (a := a) hgl htm he
    split at hev
    · rename_i id off hid
      rw [hid] at hx
      split at hev
      · rename_i cs z ex hrow
        split at hev
        · rename_i c hcut
          split at hev
          · rename_i u hun
            simp only [Option.some.injEq, Prod.mk.injEq] at hev
            obtain ⟨rfl, rfl⟩ := hev
            generalize hxv : a.eval x = xv at hx
            cases hx with
            | ptr _ _ _ hlt =>
              obtain ⟨vs, hvs, hat⟩ := at_row r hrow
              obtain ⟨rfl, hl⟩ := cut_some hcut
              have hsub := (hvs.drop off).take n
              obtain ⟨u', hr', hv'⟩ := run_loadVar_at (P := P) hs hg (at_sub hat off n) (by rw [← hsub.length]; exact hl) hsub hun
              exact WOut.same r (by simp [execOp, Instr.loadAt, Instr.sureAddr, hxv, hr']) hv'
          · simp at hev
        · simp at hev
      · simp at hev
    · rename_i cv hcv
      rw [hcv] at hx
      split at hev
      · rename_i u hb hun
        simp only [Option.some.injEq, Prod.mk.injEq] at hev
        obtain ⟨rfl, rfl⟩ := hev
        generalize hxv : a.eval x = xv at hx
        cases hx with
        | cptr _ _ b o vs hz hat hvs =>
          have hvs' : VRs ι w Z s.nx (flat cv) vs := hvs.mono (fun i hi => absurd hi (Nat.not_lt_zero i)) (fun k hk => ⟨hk, rfl⟩) (Nat.zero_le _)
          obtain ⟨u', hr', hv'⟩ := run_loadVar_at (P := P) hs hg hat (by rw [← hvs.length]; exact Nat.eq_of_beq_eq_true hb) hvs' hun
          exact WOut.same r (by simp [execOp, Instr.loadAt, Instr.sureAddr, hxv, hr']) hv'
      · simp at hev
    · simp at hev
  · simp at hc
end
end Go.Ev
/- Each instruction that looks at memory, or makes some, does in the model what the evaluator says: writes, slices. -/
namespace Go.Ev

section
variable {ι : Emb} {w : World} {Z : Nat → Prop} {lo : Nat} {gl : Nat → AV} {tm : Tr AV} {P : Program} {a : Act} {s s' : St}

theorem over_some {cs c d : List AV} {off : Nat} (h : over cs off c = some d) : off + c.length ≤ cs.length ∧ d = cs.take off ++ c ++ cs.drop (off + c.length) := by
  unfold over at h
  split at h
  · rename_i hle
    simp only [Option.some.injEq] at h
    exact ⟨Nat.le_of_ble_eq_true hle, h.symm⟩
  · simp at h

/-- A run of stores into a block of the evaluator's. -/
theorem rel_write {id off sz ex : Nat} {cs c cs' : List AV} {vs : List Value} (r : Rel ι w Z s.nx s.H.get) (hrow : row s id = some (cs, sz, ex)) (hlo : lo ≤ id)
    (hc : over cs off c = some cs') (hv : VRs ι w Z s.nx c vs) (hok : c.all AV.cellOk = true) :
    ∃ w', (storeCells ⟨ι.blk id, ι.off id + off, none⟩ vs 0).run P w = .ok () w' ∧ Rel ι w' Z s.nx (s.H.set id (.cells cs' sz ex)).get ∧
      Ext ι w Z s.nx lo s.H.get ι w' Z s.nx (s.H.set id (.cells cs' sz ex)).get := by
  have hg := row_some hrow
  obtain ⟨hid, hlt, hnz, hsz, cur, el, fz, hh, hcs, hle, ⟨hexa, hty⟩, hfr, us, hus, hcell⟩ := r.blk id _ hg
  obtain ⟨hle2, rfl⟩ := over_some hc
  have hlv := hv.length
  have hlu := hus.length
  obtain ⟨w', cur', hrun, hh', hs', hj, hk, hsize, ho, ht, hou⟩ := run_storeCells_ev (P := P) (ι.blk id) (ι.off id + off) el fz vs 0 cur w hh hfr (by omega) (cellsOk_sound hok hv)
  refine ⟨w', hrun, ?_⟩
  refine rel_put (id := id) (B := ι.blk id) (b := .cells _ sz ex) r (.refl _ _) (Nat.le_refl _) (fun k _ hne => hk k hne) (by omega) ?_ (Tr.get_put_self _ _ _) hid rfl (by omega) hnz ?_
    (.inr ⟨id, hlo, by rw [hg]; rfl, rfl⟩) ho ht hou
  · intro i x hi hx
    rw [Tr.get_put_ne _ _ hi] at hx
    exact ⟨hx, r.inj i id _ _ hx hg hi⟩
  · have hzk : ∀ k, Z k → Z k ∧ w'.heap[k]? = w.heap[k]? := fun k hz => ⟨hz, hk k (fun e => hnz (e ▸ hz))⟩
    refine ⟨hsz, cur', el, fz, hh', by rw [hs']; exact hcs, by simp; omega, ⟨fun he => by have := hexa he; simp; omega, hty⟩, fun i hi => hfr i (by omega), us.take off ++ vs ++ us.drop (off + vs.length), ?_, ?_⟩
    · have := ((hus.take off).append hv).append (hus.drop (off + c.length))
      rw [hlv] at this ⊢
      exact this.mono (.refl _ _) hzk (Nat.le_refl _)
    · intro i v hi
      rw [hj]
      by_cases h1 : i < off
      · rw [if_neg (by omega)]
        refine hcell i v ?_
        rw [List.append_assoc, List.getElem?_append_left (by simp; omega)] at hi
        simpa [List.getElem?_take, h1] using hi
      · by_cases h2 : i < off + vs.length
        · rw [if_pos (by omega)]
          rw [List.append_assoc, List.getElem?_append_right (by simp; omega), List.getElem?_append_left (by simp; omega)] at hi
          simp only [List.length_take] at hi
          have e : ι.off id + i - (ι.off id + off + 0) = i - min off us.length := by omega
          rw [e]; exact hi
        · rw [if_neg (by omega)]
          refine hcell i v ?_
          rw [List.append_assoc, List.getElem?_append_right (by simp; omega), List.getElem?_append_right (by simp; omega)] at hi
          simp only [List.length_take, List.getElem?_drop] at hi
          have e : off + vs.length + (i - min off us.length - vs.length) = i := by omega
          rw [e] at hi; exact hi

theorem wet_store {t : TypeId} {x y : Operand} {d : Wet} {v : AV} {dst ty pos after guard} (r : Rel ι w Z s.nx s.H.get) (hgl : GlR ι w Z gl) (htm : TmR ι w Z s.nx tm a.tmps)
    (hc : ofOp P (.store t x y) = some (.wet d)) (hev : evWet gl tm lo s d = some (v, s')) : WOut ι w Z lo s ((execOp a.eval ⟨dst, .store t x y, ty, pos, after, guard⟩).run P w) v s' := by
  simp only [ofOp] at hc
  split at hc
  · rename_i n ex ey hs hx hy
    simp only [Option.some.injEq, EOp.wet.injEq] at hc; subst hc
    simp only [evWet] at hev
    have hvx := eo_sound (a := a) hgl htm hx
    have hvy := eo_sound (a := a) hgl htm hy
    split at hev
    · rename_i id off hid
      rw [hid] at hvx
      split at hev
      · rename_i hlo
        split at hev
        · rename_i cs sz exa hrow
          split at hev
          · rename_i cs' hb hall hov
            simp only [Option.some.injEq, Prod.mk.injEq] at hev
            obtain ⟨rfl, rfl⟩ := hev
            generalize hxv : a.eval x = xv at hvx
            cases hvx with
            | ptr _ _ _ hlt =>
              obtain ⟨w', hrun, h1, h2⟩ := rel_write (P := P) r hrow hlo hov hvy.flat hall
              refine ⟨.skip, w', ι, Z, ?_, .inr ⟨rfl, rfl⟩, h1, h2⟩
              have hl := hvy.flat.length
              have hn := Nat.eq_of_beq_eq_true hb
              have hsz : (a.eval y).cells.size = n := by simp at hl; omega
              simp [execOp, Instr.storeAt, Instr.sureAddr, hxv, storeVar, run_sizeT hs, hsz, hrun]
          · simp at hev
        · simp at hev
      · simp at hev
    · simp at hev
  · simp at hc

theorem wet_slice {t : TypeId} {x : Operand} {lo' hi' : Option Operand} {d : Wet} {v : AV} {dst ty pos after guard} (r : Rel ι w Z s.nx s.H.get) (hgl : GlR ι w Z gl) (htm : TmR ι w Z s.nx tm a.tmps)
    (hc : ofOp P (.slice t x lo' hi' none) = some (.wet d)) (hev : evWet gl tm lo s d = some (v, s')) : WOut ι w Z lo s ((execOp a.eval ⟨dst, .slice t x lo' hi' none, ty, pos, after, guard⟩).run P w) v s' := by
  simp only [ofOp] at hc
  split at hc
  · simp at hc
  · rename_i elt e el eh hu hx h1 h2
    split at hc
    · rename_i sz hs
      simp only [Option.some.injEq, EOp.wet.injEq] at hc; subst hc
      simp only [evWet] at hev
      have hv := eo_sound (a := a) hgl htm hx
      have key : ∀ {A : Option Addr} {len cap l h : Nat}, a.eval x = .slice A len cap → evo gl tm el 0 = some l → evo gl tm eh len = some h → l ≤ h → h ≤ cap →
          (execOp a.eval ⟨dst, .slice t x lo' hi' none, ty, pos, after, guard⟩).run P w = .ok (.value (.slice (if cap = l then A else A.map (·.add (l * sz))) (h - l) (cap - l))) w := by
        intro A len cap l h hA hl hh hlh hhc
        have hsb := sliceBounds_sound (a := a) (P := P) (isS := true) (cap := cap) hgl htm h1 h2 hl hh hlh hhc
        simp [execOp, Instr.sliceAt, Instr.slice, run_underlying hu, hA, hsb, run_sizeT hs]
      generalize hv' : a.eval x = xv at hv
      split at hev
      · rename_i he
        rw [he] at hv
        split at hev
        · rename_i hl hh
          simp only [Option.some.injEq, Prod.mk.injEq] at hev
          obtain ⟨rfl, rfl⟩ := hev
          cases hv with
          | nils => exact WOut.same r (key hv' hl hh (Nat.le_refl _) (Nat.le_refl _)) (by simp; exact .nils _)
        · simp at hev
      · rename_i id off len he
        rw [he] at hv
        split at hev
        · rename_i cs z exa l h hrow hl hh
          split at hev
          · rename_i hb
            simp only [Option.some.injEq, Prod.mk.injEq] at hev
            obtain ⟨rfl, rfl⟩ := hev
            obtain ⟨hb1, hb2, rfl⟩ := hb
            have hszi := (r.blk id _ (row_some hrow)).2.2.2.1
            cases hv with
            | sl _ _ _ _ cap hid hlc hcp =>
              refine WOut.same r (key hv' hl hh hb1 (Nat.le_trans hb2 hlc)) ?_
              by_cases hcl : cap = l
              · rw [if_pos hcl]
                have h0 : h - l = 0 := by omega
                have h1 : cap - l = 0 := by omega
                rw [h0, h1]
                exact .sl0 _ _ _ _ hid
              · rw [if_neg hcl]
                simp only [Option.map_some, add_plain]
                have := VR.sl (ι := ι) (w := w) (Z := Z) s.nx id (off + l * z) (h - l) (cap - l) hid (by omega) (by
                  rw [hszi] at hcp ⊢
                  have : l ≤ cap := by omega
                  have : cap * z = l * z + (cap - l) * z := by rw [← Nat.add_mul]; congr 1; omega
                  omega)
                rw [← Nat.add_assoc] at this
                exact this
            | sl0 _ _ _ A hid =>
              refine WOut.same r (key hv' hl hh hb1 hb2) ?_
              have h0 : h = 0 := by omega
              have h1 : l = 0 := by omega
              subst h0 h1
              exact .sl0 _ _ _ _ hid
          · simp at hev
        · simp at hev
      · rename_i es he
        rw [he] at hv
        split at hev
        · rename_i l h hl hh
          split at hev
          · rename_i hb
            simp only [Option.some.injEq, Prod.mk.injEq] at hev
            obtain ⟨rfl, rfl⟩ := hev
            obtain ⟨hb1, hb2, hb3⟩ := hb
            cases hv with
            | lst0 _ A cap =>
              simp at hb2
              refine WOut.same r (key hv' hl hh hb1 (by omega)) ?_
              have h0 : h = 0 := by omega
              have h1 : l = 0 := by omega
              subst h0 h1
              exact .lst0 _ _ _
            | lst _ _ b o cap sz' vs hlc hz ha hsz hvs =>
              refine WOut.same r (key hv' hl hh hb1 (Nat.le_trans hb2 hlc)) ?_
              have hlen : ((es.drop l).take (h - l)).length = h - l := by simp; omega
              cases es with
              | nil =>
                simp at hb2
                have h0 : h = 0 := by omega
                have h1 : l = 0 := by omega
                subst h0 h1
                exact .lst0 _ _ _
              | cons e0 er =>
                have hz2 : sz' = sz := by
                  have h3 := hsz e0 (by simp)
                  have h4 := Nat.eq_of_beq_eq_true hb3
                  omega
                subst hz2
                by_cases hcl : cap = l
                · have h0 : h - l = 0 := by omega
                  have h1 : cap - l = 0 := by omega
                  rw [if_pos hcl, h0, h1]
                  simp only [List.take_zero]
                  exact .lst0 _ _ _
                · rw [if_neg hcl]
                  simp only [Option.map_some, add_plain]
                  have hseg : (((e0 :: er).drop l).take (h - l)).flatMap flat = (((e0 :: er).flatMap flat).drop (l * sz')).take ((h - l) * sz') := by
                    have key2 : ∀ (es : List AV) (k : Nat), (∀ e ∈ es, (flat e).length = sz') → (es.take k).flatMap flat = (es.flatMap flat).take (k * sz') := by
                      intro es
                      induction es with
                      | nil => intro k _; simp
                      | cons x es ih =>
                        intro k hk
                        cases k with
                        | zero => simp
                        | succ k =>
                          have hx := hk x (by simp)
                          rw [List.take_succ_cons, List.flatMap_cons, List.flatMap_cons, ih k (fun e he => hk e (by simp [he])), Nat.succ_mul, Nat.add_comm (k * sz') sz', ← hx]
                          exact (List.take_length_add_append _).symm
                    have key3 : ∀ (es : List AV) (k : Nat), (∀ e ∈ es, (flat e).length = sz') → (es.drop k).flatMap flat = (es.flatMap flat).drop (k * sz') := by
                      intro es
                      induction es with
                      | nil => intro k _; simp
                      | cons x es ih =>
                        intro k hk
                        cases k with
                        | zero => simp
                        | succ k =>
                          have hx := hk x (by simp)
                          rw [List.drop_succ_cons, List.flatMap_cons, ih k (fun e he => hk e (by simp [he])), Nat.succ_mul, Nat.add_comm (k * sz') sz', ← hx, ← List.drop_drop]
                          simp
                    rw [key2 _ _ (fun e he => hsz e (List.mem_of_mem_drop he)), key3 _ _ hsz]
                  have hsub := (hvs.drop (l * sz')).take ((h - l) * sz')
                  rw [← hseg] at hsub
                  have hcp : ((List.drop l (e0 :: er)).take (h - l)).length ≤ cap - l := by rw [hlen]; omega
                  have := VR.lst (ι := ι) (w := w) (Z := Z) s.nx _ b (o + l * sz') (cap - l) sz' _ hcp hz (at_sub ha _ _) (fun e he => hsz e (List.mem_of_mem_drop (List.mem_of_mem_take he))) hsub
                  rw [hlen] at this
                  exact this
          · simp at hev
        · simp at hev
      · simp at hev
    · simp at hc
  · rename_i n elt e el eh hu hx h1 h2
    split at hc
    · rename_i sz hs
      simp only [Option.some.injEq, EOp.wet.injEq] at hc; subst hc
      simp only [evWet] at hev
      have hv := eo_sound (a := a) hgl htm hx
      split at hev
      · rename_i id off he
        rw [he] at hv
        split at hev
        · rename_i l h hl hh
          split at hev
          · rename_i hb
            split at hev
            · rename_i cs z exa hrow
              split at hev
              · rename_i hb2
                simp only [Option.some.injEq, Prod.mk.injEq] at hev
                obtain ⟨rfl, rfl⟩ := hev
                obtain ⟨hoff, hz, hcl, hexa⟩ := hb2
                subst hoff hz
                obtain ⟨_, _, _, hsz, cur, el', fz, hh', hcs, hle, ⟨hex2, _⟩, _, _⟩ := r.blk id _ (row_some hrow)
                have hfull := hex2 hexa
                generalize hxv : a.eval x = xv at hv
                cases hv with
                | ptr _ _ _ hlt =>
                  have hsb := sliceBounds_sound (a := a) (P := P) (isS := false) (cap := n) hgl htm h1 h2 hl hh hb.1 hb.2
                  refine WOut.same (u := .slice (some (if n = l then ⟨ι.blk id, ι.off id + 0, none⟩ else (⟨ι.blk id, ι.off id + 0, none⟩ : Addr).add (l * z))) (h - l) (n - l)) r ?_ ?_
                  · simp [execOp, Instr.sliceAt, run_underlying hu, hxv, hsb, run_sizeT hs, Instr.sureAddr]
                  · by_cases hcl2 : n = l
                    · have h0 : h - l = 0 := by omega
                      have h1 : n - l = 0 := by omega
                      rw [h0, h1]
                      exact .sl0 _ _ _ _ hlt
                    · rw [if_neg hcl2, add_plain]
                      have := VR.sl (ι := ι) (w := w) (Z := Z) s.nx id (l * z) (h - l) (n - l) hlt (by omega) (by
                        rw [hsz]
                        have : n * z = l * z + (n - l) * z := by rw [← Nat.add_mul]; congr 1; omega
                        omega)
                      exact this
              · simp at hev
            · simp at hev
          · simp at hev
        · simp at hev
      · simp at hev
    · simp at hc
  · simp at hc
end
end Go.Ev
/- Each instruction that looks at memory, or makes some, does in the model what the evaluator says: appends. -/
namespace Go.Ev

section
variable {ι : Emb} {w : World} {Z : Nat → Prop} {lo : Nat} {gl : Nat → AV} {tm : Tr AV} {P : Program} {a : Act} {s s' : St}

theorem roomy_le {n b : Nat} (h : roomy n b = true) : n * (b + 1) ≤ 68719476736 := Nat.le_of_ble_eq_true h
theorem Rel.drew {nx : Nat} {G : Nat → Option ABlk} (r : Rel ι w Z nx G) : Rel ι w.drew Z nx G := by
  refine ⟨fun id b hb => ?_, r.inj, r.zlt⟩
  obtain ⟨h1, h2, h3, h4⟩ := r.blk id b hb
  refine ⟨h1, h2, h3, ?_⟩
  have hz : ∀ k, Z k → Z k ∧ w.drew.heap[k]? = w.heap[k]? := fun k hk => ⟨hk, rfl⟩
  cases b with
  | cells cs sz ex =>
    obtain ⟨q1, c, el, fz, q2, q3, q4, q5, q6, vs, q7, q8⟩ := h4
    exact ⟨q1, c, el, fz, q2, q3, q4, q5, q6, vs, q7.mono (.refl _ _) hz (Nat.le_refl _), q8⟩
  | map es =>
    obtain ⟨ko, ents, clock, q1, l, q2, q3, q4⟩ := h4
    exact ⟨ko, ents, clock, q1, l, q2.mono (.refl _ _) hz (Nat.le_refl _), q3.mono (.refl _ _) hz (Nat.le_refl _), q4⟩

theorem run_firstCells_at {sz n : Nat} {b o cap : Nat} {vs : List Value} (h : At w b o vs) (hl : vs.length = n * sz) : (Builtin.firstCells sz n (.slice (some ⟨b, o, none⟩) n cap)).run P w = .ok vs.toArray w := by
  simp only [Builtin.firstCells]
  rw [← hl]
  exact run_loadCells_at h
theorem run_firstCells_zero {sz : Nat} {A : Option Addr} {cap : Nat} : (Builtin.firstCells sz 0 (.slice A 0 cap)).run P w = .ok #[] w := by
  cases A <;> simp [Builtin.firstCells, loadCells, loadCellsFrom]

theorem keptEx_or (off ex ext : Nat) : keptEx off ex ext = 0 ∨ (keptEx off ex ext = ext ∧ off = 0 ∧ 2 * (ex / 2) = ext) := by
  unfold keptEx
  split
  · rename_i h
    simp only [Bool.and_eq_true] at h
    exact .inr ⟨rfl, Nat.eq_of_beq_eq_true h.1, Nat.eq_of_beq_eq_true h.2⟩
  · exact .inl rfl
/-- What an append leaves, from what the model's run does in either case. -/
theorem append_rel {x v : AV} {u : Value} {n ext sz bytes : Nat} {ys : List AV} {vs : List Value} {el : TypeId} {res : Result Value} (hext : ext = 0 ∨ ext = 2 * (el + 1)) (r : Rel ι w Z s.nx s.H.get) (hsz : 0 < sz) (hx : VR ι w Z s.nx x u) (hv : VRs ι w Z s.nx ys vs)
    (hn : vs.length = n * sz) (hev : appendTo lo s ext sz bytes x n ys = some (v, s'))
    (hnone : n = 0 → ∀ base sLen sCap, u = .slice base sLen sCap → sLen ≤ sCap → res = .ok u w)
    (hroom : 0 < n → ∀ b off sLen sCap w', u = .slice (some ⟨b, off, none⟩) sLen sCap → sLen + n ≤ sCap → (∀ j, j < n * sz → (w.cell? ⟨b, off + sLen * sz + j, none⟩).isSome = true ∧ w.frozen? ⟨b, off + sLen * sz + j, none⟩ = false) →
      (∀ x ∈ vs, oneC x = true) → (storeCells ⟨b, off + sLen * sz, none⟩ vs 0).run P w = .ok () w' → res = .ok (.slice (some ⟨b, off, none⟩) (sLen + n) sCap) w')
    (hgrow : 0 < n → ∀ base sLen sCap olds, u = .slice base sLen sCap → sCap < sLen + n → (sLen + n) * (bytes + 1) ≤ 68719476736 → (∀ x ∈ vs, oneC x = true) → (Builtin.firstCells sz sLen u).run P w.drew = .ok olds.toArray w.drew →
      ∃ (rest : Array Value) (newCap : Nat), res = .ok (.slice (some ⟨w.heap.size, 0, none⟩) (sLen + n) newCap) (w.drew.alloc (.cells ((olds ++ vs).toArray ++ rest) el)) ∧ sLen + n ≤ newCap ∧ rest.size = (newCap - (sLen + n)) * sz) :
    ∃ rv w' ι', res = .ok rv w' ∧ VR ι' w' Z s'.nx v rv ∧ Rel ι' w' Z s'.nx s'.H.get ∧ Ext ι w Z s.nx lo s.H.get ι' w' Z s'.nx s'.H.get := by
  unfold appendTo at hev
  split at hev
  · rename_i hb
    have h0 : n = 0 := Nat.eq_of_beq_eq_true hb
    have hsame : ∀ base sLen sCap, u = .slice base sLen sCap → sLen ≤ sCap → v = x → s' = s → ∃ rv w' ι', res = .ok rv w' ∧ VR ι' w' Z s'.nx v rv ∧ Rel ι' w' Z s'.nx s'.H.get ∧ Ext ι w Z s.nx lo s.H.get ι' w' Z s'.nx s'.H.get := by
      intro base sLen sCap hu hle hv' hs'
      subst hv' hs'
      exact ⟨u, w, ι, hnone h0 _ _ _ hu hle, hx, r, .refl⟩
    split at hev <;> simp only [Option.some.injEq, Prod.mk.injEq, reduceCtorEq] at hev <;> obtain ⟨rfl, rfl⟩ := hev <;> cases hx <;> exact hsame _ _ _ rfl (by first | omega | assumption) rfl rfl
  · rename_i hb
    have hn0 : n ≠ 0 := Nat.ne_of_beq_eq_false hb
    have hnp : 0 < n := Nat.pos_of_ne_zero hn0
    split at hev
    · simp at hev
    rename_i hall
    have hone := cellsOk_sound hall hv
    -- a new row
    have grow : ∀ {base : Option Addr} {sLen sCap : Nat} {xs : List AV} {olds : List Value} {s1 : St} {ext' : Nat}, u = .slice base sLen sCap → sCap < sLen + n → (sLen + n) * (bytes + 1) ≤ 68719476736 →
        (Builtin.firstCells sz sLen u).run P w.drew = .ok olds.toArray w.drew → VRs ι w Z s.nx xs olds → xs.length = sLen * sz → s1.nx = s.nx → (∀ i b, s1.H.get i = some b → s.H.get i = some b) → (ext' = 0 ∨ ext' = 2 * (el + 1)) →
        v = .sl s.nx 0 (sLen + n) → s' = s1.new (.cells (xs ++ ys) sz ext') →
        ∃ rv w' ι', res = .ok rv w' ∧ VR ι' w' Z s'.nx v rv ∧ Rel ι' w' Z s'.nx s'.H.get ∧ Ext ι w Z s.nx lo s.H.get ι' w' Z s'.nx s'.H.get := by
      intro base sLen sCap xs olds s1 ext' hu hg hroomy hfc hxs hxl hnx hsub hext' hv' hs'
      obtain ⟨rest, newCap, hres, hcap, hrest⟩ := hgrow hnp base sLen sCap olds hu hg hroomy hone hfc
      have hol := hxs.length
      have hyl := hv.length
      have r1 : Rel ι w.drew Z s1.nx s1.H.get := by rw [hnx]; exact (r.sub hsub).drew
      have hz : ∀ k, Z k → Z k ∧ w.drew.heap[k]? = w.heap[k]? := fun k hk => ⟨hk, rfl⟩
      have hcs : VRs ι w.drew Z s1.nx (xs ++ ys) (olds ++ vs) := by rw [hnx]; exact (hxs.append hv).mono (.refl _ _) hz (Nat.le_refl _)
      let c : Array Value := (olds ++ vs).toArray ++ rest
      have hcsz : c.size = newCap * sz := by
        have h1 : (newCap - (sLen + n)) * sz = newCap * sz - (sLen + n) * sz := Nat.sub_mul ..
        have h2 : (sLen + n) * sz = sLen * sz + n * sz := Nat.add_mul ..
        have h3 : (sLen + n) * sz ≤ newCap * sz := Nat.mul_le_mul_right _ hcap
        simp only [c, Array.size_append, List.size_toArray, List.length_append, hrest]
        omega
      obtain ⟨h1, h2⟩ := rel_new (lo := lo) (w' := w.drew.alloc (.cells c el (0, 0))) (sz := sz) (ex := ext') (el := el) r1 rfl hcs (fun i y hi => by
          have hlt : i < (olds ++ vs).length := by
            rcases Nat.lt_or_ge i (olds ++ vs).length with h | h
            · exact h
            · rw [List.getElem?_eq_none h] at hi; simp at hi
          simp only [c]
          rw [Array.getElem?_append_left (by simpa using hlt)]
          simpa using hi) (by
          have h2 : (sLen + n) * sz = sLen * sz + n * sz := Nat.add_mul ..
          have h3 : (sLen + n) * sz ≤ newCap * sz := Nat.mul_le_mul_right _ hcap
          rw [hcsz]; simp only [List.length_append]; omega) (fun h => by omega) (fun h => by omega) rfl rfl rfl
      subst hv' hs'
      refine ⟨_, _, _, hres, ?_, h1, ?_⟩
      · have := VR.sl (ι := ι.set s1.nx w.drew.heap.size 0 c.size sz) (w := w.drew.alloc (.cells c el (0, 0))) (Z := Z) (s1.nx + 1) s1.nx 0 (sLen + n) newCap (Nat.lt_succ_self _) hcap (by simp [Emb.set, hcsz])
        simp only [Emb.set, if_true, World.size_drew] at this
        rw [← hnx]
        simpa [Emb.set, St.new] using this
      · have e0 : Ext ι w Z s.nx lo s.H.get ι w.drew Z s1.nx s1.H.get := ⟨.refl _ _, Nat.le_of_eq hnx.symm, fun _ h => h, fun _ h => .inl h, fun _ _ _ => rfl, Nat.le_refl _, fun id hid => by
          obtain ⟨b, hb⟩ := Option.isSome_iff_exists.1 hid
          exact .inr ⟨id, by rw [hsub id b hb]; rfl, rfl, .inr rfl⟩, rfl, rfl, rfl⟩
        exact e0.trans h2
    split at hev
    · split at hev
      · rename_i hro
        simp only [Option.some.injEq, Prod.mk.injEq] at hev
        obtain ⟨rfl, rfl⟩ := hev
        cases hx
        exact grow (xs := []) (olds := []) (s1 := s) rfl (by omega) (by simpa using roomy_le hro) (by simp [Builtin.firstCells]) (.nil _) (by simp) rfl (fun _ _ h => h) hext (by simp) (by simp)
      · simp at hev
    · rename_i id off len
      split at hev
      · rename_i cs z ex hrow
        split at hev
        · rename_i xs hz hcut hro
          have hzz : z = sz := Nat.eq_of_beq_eq_true hz
          subst hzz
          obtain ⟨rfl, hxl⟩ := cut_some hcut
          obtain ⟨hid, hblt, hnz, hszi, cur, el', fz, hh, hcs, hle, ⟨hexa, hty⟩, hfr, us, hus, hcell⟩ := r.blk id _ (row_some hrow)
          have hat : At w (ι.blk id) (ι.off id) us := by
            intro i y hi
            unfold World.cell?
            simp only [hh]
            exact hcell i y hi
          have hsub := (hus.drop off).take (len * z)
          have hsl := hsub.length
          have hro' := roomy_le hro
          have hke : keptEx off ex ext = 0 ∨ keptEx off ex ext = 2 * (el + 1) := by
            rcases keptEx_or off ex ext with e | ⟨e, _, _⟩
            · exact .inl e
            · rw [e]; exact hext
          split at hev
          · -- the row ends where the slice does
            rename_i hex
            simp only [Bool.and_eq_true] at hex
            have hend : off + len * z = cs.length := Nat.eq_of_beq_eq_true hex.2
            have hfull := hexa (Nat.eq_of_beq_eq_true hex.1)
            simp only [Option.some.injEq, Prod.mk.injEq] at hev
            obtain ⟨rfl, rfl⟩ := hev
            cases hx with
            | sl _ _ _ _ cap hid' hlc hcp =>
              have hcap : cap < len + n := by
                rw [hszi] at hcp
                have : cap * z ≤ len * z := by omega
                have := Nat.le_of_mul_le_mul_right this hsz
                omega
              refine grow (s1 := s) rfl hcap hro' (run_firstCells_at (w := w.drew) (fun i y hi => at_sub hat off (len * z) i y hi) (by rw [← hsl]; exact hxl)) hsub hxl rfl (fun _ _ h => h) hext rfl rfl
            | sl0 _ _ _ A hid' =>
              refine grow (s1 := s) (olds := []) rfl (by omega) hro' (by rw [run_firstCells_zero]) ?_ hxl rfl (fun _ _ h => h) hext rfl rfl
              simp only [Nat.zero_mul, List.take_zero]; exact .nil _
          · split at hev
            · rename_i hlo
              simp only [Option.some.injEq, Prod.mk.injEq] at hev
              obtain ⟨rfl, rfl⟩ := hev
              have hdel : ∀ i b, (s.H.del id).get i = some b → s.H.get i = some b ∧ i ≠ id := by
                intro i b hb
                rw [Tr.get_put] at hb
                split at hb
                · simp at hb
                · rename_i hne; exact ⟨hb, hne⟩
              cases hx with
              | sl _ _ _ _ cap hid' hlc hcp =>
                rw [hszi] at hcp
                by_cases hcap : cap < len + n
                · refine grow (s1 := { s with H := s.H.del id }) rfl hcap hro' (run_firstCells_at (w := w.drew) (fun i y hi => at_sub hat off (len * z) i y hi) (by rw [← hsl]; exact hxl)) hsub hxl rfl (fun i b h => (hdel i b h).1) hke rfl rfl
                · -- in place
                  have hcapz : (len + n) * z ≤ cap * z := Nat.mul_le_mul_right _ (by omega)
                  have hadd : (len + n) * z = len * z + n * z := Nat.add_mul ..
                  obtain ⟨w', cur', hrun, hh', hs', hj, hk, hsize, ho, ht, hou⟩ := run_storeCells_ev (P := P) (ι.blk id) (ι.off id + off + len * z) el' fz vs 0 cur w hh hfr (by omega) hone
                  have hres := hroom hnp _ _ _ _ w' rfl (by omega) (fun j hj => by
                    have hlt : ι.off id + off + len * z + j < cur.size := by omega
                    refine ⟨?_, ?_⟩
                    · unfold World.cell?
                      simp only [hh]
                      simp [hlt]
                    · unfold World.frozen?
                      simp only [hh]
                      have := hfr _ hlt
                      cases hb : (decide (fz.1 ≤ ι.off id + off + len * z + j) && decide (ι.off id + off + len * z + j < fz.2)) with
                      | false => rfl
                      | true => simp at hb; exact absurd hb this) hone hrun
                  let ι' := ι.set s.nx (ι.blk id) (ι.off id + off) (ι.size id) z
                  have hzk : ∀ k, Z k → Z k ∧ w'.heap[k]? = w.heap[k]? := fun k hz => ⟨hz, hk k (fun e => hnz (e ▸ hz))⟩
                  have hag : ι'.agree ι s.nx := Emb.set_agree ι _ _ _ _ _ _ (Nat.le_refl _)
                  have hput := rel_put (lo := lo) (id := s.nx) (B := ι.blk id) (ι' := ι') (w' := w') (nx' := s.nx + 1) (G' := (St.new { s with H := s.H.del id } (.cells (List.take (len * z) (List.drop off cs) ++ ys) z (keptEx off ex ext))).H.get) (b := .cells (List.take (len * z) (List.drop off cs) ++ ys) z (keptEx off ex ext)) r hag (Nat.le_succ _)
                    (fun k _ hne => hk k hne) (Nat.le_of_eq hsize.symm) (by
                      intro i b hi hb
                      simp only [St.new, Tr.set] at hb
                      rw [Tr.get_put_ne _ _ hi] at hb
                      obtain ⟨hb1, hb2⟩ := hdel i b hb
                      exact ⟨hb1, r.inj i id _ _ hb1 (row_some hrow) hb2⟩) (by simp only [St.new, Tr.set]; exact Tr.get_put_self _ _ _) (Nat.lt_succ_self _) (by simp [ι', Emb.set]) (by rw [hsize]; exact hblt) hnz (by
                      refine ⟨by simp [ι', Emb.set], cur', el', fz, ?_, ?_, ?_, ?_, ?_, (us.drop off).take (len * z) ++ vs, ?_, ?_⟩
                      · simp [ι', Emb.set]; exact hh'
                      · simp [ι', Emb.set]; rw [hs']; exact hcs
                      · simp only [ι', Emb.set, if_true, List.length_append]
                        have := hv.length
                        omega
                      · refine ⟨fun h => by rcases keptEx_or off ex ext with e | ⟨e, _, _⟩ <;> rw [e] at h <;> omega, fun h => ?_⟩
                        rcases keptEx_or off ex ext with e | ⟨e, h0, h1⟩
                        · omega
                        · rw [e] at h ⊢
                          obtain ⟨q1, q2⟩ := hty (by omega)
                          exact ⟨by simp [ι', Emb.set, q1, h0], by omega⟩
                      · intro i hi; exact hfr i (by omega)
                      · exact (hsub.append hv).mono hag hzk (Nat.le_succ _)
                      · intro i y hi
                        simp only [ι', Emb.set, if_true]
                        rw [hj]
                        by_cases h1 : i < len * z
                        · rw [if_neg (by omega)]
                          rw [List.getElem?_append_left (by omega)] at hi
                          have := at_sub hat off (len * z) i y hi
                          unfold World.cell? at this
                          simp only [hh] at this
                          simpa using this
                        · have h2 : i < len * z + vs.length := by
                            rcases Nat.lt_or_ge i (((us.drop off).take (len * z) ++ vs).length) with h | h
                            · simp only [List.length_append] at h; omega
                            · rw [List.getElem?_eq_none h] at hi; simp at hi
                          rw [if_pos (by omega)]
                          rw [List.getElem?_append_right (by omega)] at hi
                          have e : ι.off id + off + i - (ι.off id + off + len * z + 0) = i - (List.take (len * z) (List.drop off us)).length := by omega
                          rw [e]; exact hi) (.inr ⟨id, hlo, by rw [row_some hrow]; rfl, rfl⟩) ho ht hou
                  refine ⟨_, w', ι', hres, ?_, hput.1, hput.2⟩
                  have := VR.sl (ι := ι') (w := w') (Z := Z) (s.nx + 1) s.nx 0 (len + n) cap (Nat.lt_succ_self _) (by omega) (by simp [ι', Emb.set]; omega)
                  simpa [ι', Emb.set, St.new] using this
              | sl0 _ _ _ A hid' =>
                refine grow (s1 := { s with H := s.H.del id }) (olds := []) rfl (by omega) hro' (by rw [run_firstCells_zero]) ?_ hxl rfl (fun i b h => (hdel i b h).1) hke rfl rfl
                simp only [Nat.zero_mul, List.take_zero]; exact .nil _
            · simp at hev
        · simp at hev
      · simp at hev
    · simp at hev
end
end Go.Ev
/- Each instruction that looks at memory, or makes some, does in the model what the evaluator says: the rest of those on rows. -/
namespace Go.Ev

section
variable {ι : Emb} {w : World} {Z : Nat → Prop} {lo : Nat} {gl : Nat → AV} {tm : Tr AV} {P : Program} {a : Act} {s s' : St}

theorem oneC_eq (v : Value) : v.oneCell' = oneC v := by cases v <;> rfl

theorem run_firstCells_pre {sz m n : Nat} {b o cap : Nat} {vs : List Value} (h : At w b o vs) (hl : vs.length = m * sz) : (Builtin.firstCells sz m (.slice (some ⟨b, o, none⟩) n cap)).run P w = .ok vs.toArray w := by
  simp only [Builtin.firstCells]
  rw [← hl]
  exact run_loadCells_at h
/-- The cells of a slice, or of a string. -/
theorem cellsOf_sound {y : AV} {u : Value} {n sz : Nat} {ys : List AV} (r : Rel ι w Z s.nx s.H.get) (hn : lenOf y = some n) (hc : cellsOf s sz y = some ys) (hy : VR ι w Z s.nx y u) :
    ∃ vs, VRs ι w Z s.nx ys vs ∧ vs.length = n * sz ∧ (∀ w' : World, w'.heap = w.heap → (Builtin.firstCells sz n u).run P w' = .ok vs.toArray w') ∧ (∀ w' : World, (Builtin.lenOf u).run P w' = .ok n w') ∧
      (isStr y = false → ∀ m, m ≤ n → (Builtin.firstCells sz m u).run P w = .ok (vs.take (m * sz)).toArray w) := by
  unfold cellsOf at hc
  split at hc
  · simp only [Option.some.injEq] at hc; subst hc
    simp only [lenOf, Option.some.injEq] at hn; subst hn
    cases hy
    exact ⟨[], .nil _, by simp, fun w' _ => by simp [Builtin.firstCells], fun w' => rfl, fun _ m _ => by simp [Builtin.firstCells]⟩
  · rename_i id off len
    simp only [lenOf, Option.some.injEq] at hn; subst hn
    split at hc
    · rename_i cs z ex hrow
      split at hc
      · rename_i hz
        have hzz : z = sz := Nat.eq_of_beq_eq_true hz
        subst hzz
        obtain ⟨us, hus, hat⟩ := at_row r hrow
        obtain ⟨rfl, hxl⟩ := cut_some hc
        have hsub := (hus.drop off).take (len * z)
        cases hy with
        | sl _ _ _ _ cap hid hlc hcp =>
          refine ⟨_, hsub, by rw [← hsub.length]; exact hxl, fun w' hw => ?_, fun w' => rfl, fun _ m hm => ?_⟩
          rotate_left
          · have hm2 : m * z ≤ len * z := Nat.mul_le_mul_right _ hm
            have hl2 := hsub.length
            refine run_firstCells_pre (fun i x hi => ?_) (by rw [List.length_take]; omega)
            have : ((us.drop off).take (len * z))[i]? = some x := by
              rw [List.getElem?_take] at hi
              split at hi
              · exact hi
              · simp at hi
            exact at_sub hat off (len * z) i x this
          exact run_firstCells_at (w := w') (fun i x hi => by
            have := at_sub hat off (len * z) i x hi
            unfold World.cell? at this ⊢
            rw [hw]; exact this) (by rw [← hsub.length]; exact hxl)
        | sl0 _ _ _ A hid =>
          refine ⟨[], ?_, by simp, fun w' _ => by rw [run_firstCells_zero], fun w' => rfl, fun _ m hm => by
            have : m = 0 := by omega
            subst this
            rw [run_firstCells_zero]; simp⟩
          simp only [Nat.zero_mul, List.take_zero]; exact .nil _
      · simp at hc
    · simp at hc
  · rename_i es
    simp only [lenOf, Option.some.injEq] at hn; subst hn
    split at hc
    · rename_i hall
      simp only [Option.some.injEq] at hc; subst hc
      cases hy with
      | lst0 _ A cap =>
        exact ⟨[], .nil _, by simp, fun w' _ => by rw [show ([] : List AV).length = 0 from rfl, run_firstCells_zero], fun w' => rfl, fun _ m hm => by
          have : m = 0 := by simpa using hm
          subst this
          rw [run_firstCells_zero]; simp⟩
      | lst _ _ b o cap sz' vs hl hz ha hs hv =>
        have hfl : ∀ (l : List AV), (∀ e ∈ l, (flat e).length = sz) → (l.flatMap flat).length = l.length * sz := by
          intro l
          induction l with
          | nil => intro _; simp
          | cons x l ih => intro h; rw [List.flatMap_cons, List.length_append, h x (by simp), ih (fun e he => h e (by simp [he])), List.length_cons, Nat.succ_mul]; omega
        have hlen := hfl es (fun e he => Nat.eq_of_beq_eq_true (List.all_eq_true.1 hall e he))
        have hvl := hv.length
        refine ⟨vs, hv.mono (fun i hi => absurd hi (Nat.not_lt_zero i)) (fun k hk => ⟨hk, rfl⟩) (Nat.zero_le _), by omega, fun w' hw => ?_, fun w' => rfl, fun _ m hm => ?_⟩
        rotate_left
        · have hm2 : m * sz ≤ es.length * sz := Nat.mul_le_mul_right _ hm
          refine run_firstCells_pre (fun i x hi => ?_) (by rw [List.length_take]; omega)
          rw [List.getElem?_take] at hi
          split at hi
          · exact ha i x hi
          · simp at hi
        exact run_firstCells_at (w := w') (fun i x hi => by
          have := ha i x hi
          unfold World.cell? at this ⊢
          rw [hw]; exact this) (by omega)
    · simp at hc
  · rename_i l
    simp only [lenOf, Option.some.injEq] at hn; subst hn
    split at hc
    · rename_i h1
      have : sz = 1 := Nat.eq_of_beq_eq_true h1
      subst this
      simp only [Option.some.injEq] at hc; subst hc
      cases hy with
      | str _ s0 =>
        have hb : (List.map (fun x => x.toNat) s0.data.toList).length = s0.size := bytes_len s0
        rw [hb]
        refine ⟨byteCells s0, ?_, by rw [byteCells_length, Nat.mul_one], fun w' _ => firstCells_string s0 w', fun w' => rfl, fun h => by simp [isStr] at h⟩
        unfold byteCells
        rw [List.map_map]
        generalize s0.data.toList = q
        induction q with
        | nil => exact .nil _
        | cons x q ih => exact .cons _ _ _ _ _ (.int _ _ _) ih
    · simp at hc
  · simp at hc

theorem run_storeCells_add {b o : Nat} {vs : List Value} {k : Nat} {w1 w2 : World} (h : (storeCells ⟨b, o + k, none⟩ vs 0).run P w1 = .ok () w2) : (storeCells ((⟨b, o, none⟩ : Addr).add k) vs).run P w1 = .ok () w2 := by
  rw [add_plain]; exact h

theorem wet_append {args : Array Operand} {ts : Array TypeId} {d : Wet} {v : AV} {dst ty pos after guard} (r : Rel ι w Z s.nx s.H.get) (hgl : GlR ι w Z gl) (htm : TmR ι w Z s.nx tm a.tmps)
    (hc : ofOp P (.call ⟨.builtin .append, args, ts⟩) = some (.wet d)) (hev : evWet gl tm lo s d = some (v, s')) : WOut ι w Z lo s ((execOp a.eval ⟨dst, .call ⟨.builtin .append, args, ts⟩, ty, pos, after, guard⟩).run P w) v s' := by
  have fin : ∀ {res : Result Value}, (∃ rv w' ι', res = .ok rv w' ∧ VR ι' w' Z s'.nx v rv ∧ Rel ι' w' Z s'.nx s'.H.get ∧ Ext ι w Z s.nx lo s.H.get ι' w' Z s'.nx s'.H.get) →
      (∀ rv w', res = .ok rv w' → (execOp a.eval ⟨dst, .call ⟨.builtin .append, args, ts⟩, ty, pos, after, guard⟩).run P w = .ok (.value rv) w') →
      WOut ι w Z lo s ((execOp a.eval ⟨dst, .call ⟨.builtin .append, args, ts⟩, ty, pos, after, guard⟩).run P w) v s' := by
    rintro res ⟨rv, w', ι', h1, h2, h3, h4⟩ hex
    exact ⟨_, w', ι', Z, hex rv w' h1, .inl ⟨rv, rfl, h2⟩, h3, h4⟩
  simp only [ofOp] at hc
  unfold ofBuiltin at hc
  split at hc <;> (try contradiction)
  rename_i t u x y _ hts has
  have hts' : ts = #[t, u] := Array.ext' hts
  have has' : args = #[x, y] := Array.ext' has
  subst hts' has'
  split at hc
  · rename_i el kk ex ey hut huu hx hy
    split at hc
    · rename_i sz by_ z hs hb hz
      split at hc
      · rename_i hzs
        simp only [Option.some.injEq, EOp.wet.injEq] at hc; subst hc
        simp only [evWet] at hev
        have hvx := eo_sound (a := a) hgl htm hx
        have hvy := eo_sound (a := a) hgl htm hy
        split at hev
        · rename_i n hn
          split at hev
          · rename_i hro
            obtain ⟨kq, hki⟩ := natOf_sound hn hvy
            obtain ⟨zu, hzu, hoz⟩ := zeroT_some hz
            have hzr := (ofValue_sound (ι := ι) (w := w) (Z := Z) (nx := s.nx) zu z hoz).flat
            have hzl : zu.cells.size = sz := by have := hzr.length; simp at this; omega
            cases hi : P.info? el with
            | none => rw [hi] at hzu; simp at hzu
            | some info =>
              have hs' : info.size = sz := by simpa [sizeT, hi] using hs
              have hb' : info.bytes = by_ := by simpa [bytesT, hi] using hb
              have hz' : info.zero = some zu := by simpa [hi] using hzu
              have hro' := roomy_le hro
              have hn63 : n ≤ 68719476736 := by have : n ≤ n * (by_ + 1) := Nat.le_mul_of_pos_right _ (by omega); omega
              have hw : IntKind.i64.wrap (n : Int) = n := by rw [IntKind.wrap_i64]; omega
              have hnb : n * by_ ≤ 68719476736 := Nat.le_trans (Nat.mul_le_mul_left _ (Nat.le_succ _)) hro'
              have h48i : ¬ (281474976710656 < (n : Int) * (by_ : Int)) := by rw [← Int.natCast_mul]; omega
              have hneg : ¬ ((n : Int) < 0) := by omega
              have hvl : ((List.replicate n zu.cells.toList).flatten).length = n * sz := by simp [hzl]
              refine fin (res := (Builtin.append_ #[t, u] ty #[a.eval x, a.eval y]).run P w) (append_rel (P := P) (el := el) (ext := 0) (vs := (List.replicate n zu.cells.toList).flatten) (.inl rfl) r hzs.2 hvx (rep_vrs hzr n) hvl hev ?_ ?_ ?_) ?_
              · intro h0 base sLen sCap hu hle
                subst h0
                rw [hu, hki]
                have hw0 : IntKind.i64.wrap ((0 : Nat) : Int) = ((0 : Nat) : Int) := hw
                simp only [Int.natCast_zero] at hw0
                cases base <;> simp [Builtin.append_, run_underlying hut, run_underlying huu, sizeOf, typeInfo, hi, asInt, asIntOf, hw0, hle, storeCells]
              · intro hnp b off sLen sCap w' hu hle hcells hone hst
                rw [hu, hki]
                have hns : ¬ (n * info.size = 0) := Nat.mul_ne_zero (by omega) (by omega)
                have hzc : Builtin.zeroCells zu.cells n = ((List.replicate n zu.cells.toList).flatten).toArray := by
                  apply Array.ext'
                  simp only [Builtin.zeroCells]
                  exact rep_range n zu.cells
                have hns' : ¬ (n * sz = 0) := Nat.mul_ne_zero (by omega) (by omega)
                simp [Builtin.append_, run_underlying hut, run_underlying huu, sizeOf, typeInfo, zeroValue, hi, hz', asInt, asIntOf, hw, hneg, h48i, hb', hle, hns', hzc, hs', add_plain, hst]
              · intro hnp base sLen sCap olds hu hg hro2 hone hfc
                have hnx := nextslicecap_le (need := sLen + n) (old := sCap) hg
                have := Lib.run_append_grow_zeros (P := P) w t u ty el info zu kq kk hut huu hi hz' base sLen sCap olds (by rw [hs']; rw [← hu]; exact hfc) n hnp (by omega) hg (by
                  have : sLen + n ≤ (sLen + n) * (by_ + 1) := Nat.le_mul_of_pos_right _ (by omega)
                  omega) (by rw [hb']; omega) (by
                  rw [hb']
                  have h1 : Builtin.nextslicecap (sLen + n) sCap * by_ ≤ 2 * (sLen + n) * by_ := Nat.mul_le_mul_right _ hnx
                  have h2 : 2 * (sLen + n) * by_ = 2 * ((sLen + n) * by_) := Nat.mul_assoc ..
                  have h3 : (sLen + n) * by_ ≤ (sLen + n) * (by_ + 1) := Nat.mul_le_mul_left _ (Nat.le_succ _)
                  omega)
                refine ⟨Builtin.zeroCells zu.cells (grownCap w (sLen + n) sCap el - (sLen + n)), grownCap w (sLen + n) sCap el, ?_, ?_, ?_⟩
                · rw [hu, hki, this]
                  congr 2
                  congr 1
                  have hzc : Builtin.zeroCells zu.cells n = ((List.replicate n zu.cells.toList).flatten).toArray := by
                    apply Array.ext'
                    simp only [Builtin.zeroCells]
                    exact rep_range n zu.cells
                  rw [hzc]
                  simp
                · simp [grownCap, Question.cut]
                · simp [Builtin.zeroCells, hzl]
              · intro rv w' hres
                simp [execOp, resolve, invoke, builtin, hres]
          · simp at hev
        · simp at hev
      · simp at hc
    · simp at hc
  · rename_i el du ex ey hnk hut huu hx hy
    split at hc
    · rename_i sz by_ z hs hb hz
      split at hc
      · rename_i hzs
        simp only [Option.some.injEq, EOp.wet.injEq] at hc; subst hc
        simp only [evWet] at hev
        have hvx := eo_sound (a := a) hgl htm hx
        have hvy := eo_sound (a := a) hgl htm hy
        split at hev
        · rename_i n ys hn hcs
          obtain ⟨vs, hvs, hvl, hcells, hlens, _⟩ := cellsOf_sound (P := P) r hn hcs hvy
          obtain ⟨zu, hzu, hoz⟩ := zeroT_some hz
          have hzr := (ofValue_sound (ι := ι) (w := w) (Z := Z) (nx := s.nx) zu z hoz).flat
          have hzl : zu.cells.size = sz := by have := hzr.length; simp at this; omega
          have hkind : (∃ e', P.underlying u = some (.slice e')) ∨ P.underlying u = some .string := by
            have := hzs.2.2
            unfold srcT at this
            split at this
            · exact .inl ⟨_, by assumption⟩
            · exact .inr (by assumption)
            · simp at this
          cases hi : P.info? el with
          | none => rw [hi] at hzu; simp at hzu
          | some info =>
            have hs' : info.size = sz := by simpa [sizeT, hi] using hs
            have hb' : info.bytes = by_ := by simpa [bytesT, hi] using hb
            have hz' : info.zero = some zu := by simpa [hi] using hzu
            have src : (∀ x ∈ vs, oneC x = true) → Src P info.size u (a.eval y) n vs w := fun hone =>
              ⟨hkind, hlens, by rw [hs']; exact hcells w rfl, by rw [hs']; exact hcells w.drew rfl, by rw [hs']; exact hvl, fun x hx => by rw [oneC_eq]; exact hone x hx⟩
            refine fin (res := (Builtin.append_ #[t, u] ty #[a.eval x, a.eval y]).run P w) (append_rel (P := P) (el := el) (vs := vs) (.inr rfl) r hzs.2.1 hvx hvs hvl hev ?_ ?_ ?_) ?_
            · intro h0 base sLen sCap hu hle
              subst h0
              have hv0 : vs = [] := List.eq_nil_of_length_eq_zero (by omega)
              have hc0 := hcells w rfl
              rw [hv0] at hc0
              rw [hu]
              rcases hkind with ⟨e', hk⟩ | hk <;> cases base <;> simp [Builtin.append_, run_underlying hut, run_underlying hk, sizeOf, typeInfo, hi, hlens, hle, hs', hc0, storeCells]
            · intro hnp b off sLen sCap w' hu hle hcel hone hst
              have hrun := run_append_room_src (P := P) w t u ty el info hut hi b off sLen sCap (a.eval y) n vs (src hone) hle (fun j hj => by rw [hs']; exact (hcel j (by omega)).1) (fun j hj => by rw [hs']; exact (hcel j (by omega)).2)
              have hst2 := run_storeCells_cells (P := P) b (off + sLen * sz) vs 0 w (fun j hj => by simpa using (hcel j (by omega)).1) (fun j hj => by simpa using (hcel j (by omega)).2) (fun x hx => by rw [oneC_eq]; exact hone x hx)
              rw [hst] at hst2
              simp only [Nat.add_zero, Result.ok.injEq, true_and] at hst2
              rw [hu, hrun, hs', hst2]
            · intro hnp base sLen sCap olds hu hg hro2 hone hfc
              have hnx := nextslicecap_le (need := sLen + n) (old := sCap) hg
              have := run_append_grow_src (P := P) w t u ty el info zu hut hi hz' base sLen sCap olds (by rw [hs']; rw [← hu]; exact hfc) (a.eval y) n vs (src hone) hg (by
                have : sLen + n ≤ (sLen + n) * (by_ + 1) := Nat.le_mul_of_pos_right _ (by omega)
                omega) (by
                rw [hb']
                have h1 : Builtin.nextslicecap (sLen + n) sCap * by_ ≤ 2 * (sLen + n) * by_ := Nat.mul_le_mul_right _ hnx
                have h2 : 2 * (sLen + n) * by_ = 2 * ((sLen + n) * by_) := Nat.mul_assoc ..
                have h3 : (sLen + n) * by_ ≤ (sLen + n) * (by_ + 1) := Nat.mul_le_mul_left _ (Nat.le_succ _)
                omega)
              exact ⟨Builtin.zeroCells zu.cells (grownCap w (sLen + n) sCap el - (sLen + n)), grownCap w (sLen + n) sCap el, by rw [hu]; exact this, by simp [grownCap, Question.cut], by simp [Builtin.zeroCells, hzl]⟩
            · intro rv w' hres
              simp [execOp, resolve, invoke, builtin, hres]
        · simp at hev
      · simp at hc
    · simp at hc
  · simp at hc
end
end Go.Ev
