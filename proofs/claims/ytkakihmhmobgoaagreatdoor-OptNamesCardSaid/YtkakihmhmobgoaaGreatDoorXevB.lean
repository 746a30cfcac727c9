/- The evaluator: its instructions, what each does to abstract values and the abstract memory, and the run of code. -/
import Derived.Test.YtkakihmhmobgoaaGreatDoorXevA
import GoSem.Core.Code
import GoSem.Core.View
namespace Go.Ev

/-- An operand. -/
inductive Eo where
  | t (i : Nat)
  | k (v : AV)
  | g (n : Nat)

/-- Which values an '==' compares. -/
inductive PK where
  | b | i | s
  deriving DecidableEq
inductive RK where
  | p | s | m | f
  deriving DecidableEq
inductive EqK where
  | prim (k : PK) | ref (k : RK) | ifc | agg (ks : List PK)
  deriving DecidableEq

/-- Instructions that only look at their operands. -/
inductive Dry where
  | mov (x : Eo)
  | pick (c a b : Eo)
  | build (zero : List AV) (parts : List (Nat × Nat × Eo))
  | nilchk (x : Eo)
  | bin (op : BinOp) (x y : Eo)
  | eq (k : EqK) (neq : Bool) (x y : Eo)
  | not (x : Eo)
  | neg (x : Eo)
  | xor (x : Eo)
  | conv (k : IntKind) (x : Eo)
  | mkifc (t : TypeId) (x : Eo)
  | mkfn (f : FuncId) (first cap : List Eo)
  | strsl (x : Eo) (lo hi : Option Eo)
  | faddr (off n : Nat) (agg : Bool) (x : Eo)
  | fld (off n : Nat) (agg : Bool) (x : Eo)
  | iaddr (sz : Nat) (x i : Eo)
  | aaddr (len sz : Nat) (agg : Bool) (x i : Eo)
  | aidx (len sz : Nat) (agg : Bool) (x i : Eo)
  | sidx (x i : Eo)
  | extract (x : Eo) (i : Nat)
  | len (x : Eo)
  | slen (x : Eo)
  | mm (max : Bool) (xs : List Eo)
  | assert (t : TypeId) (x : Eo)
  | assertok (t : TypeId) (zero : AV) (x : Eo)

/-- Instructions that look at memory, or make some. -/
inductive Wet where
  | alloc (ex sz : Nat) (zero : List AV)
  | box (sz : Nat) (x : Eo)
  | bsl (sz len : Nat) (zero : List AV) (parts : List (Nat × Eo))
  | load (n : Nat) (agg : Bool) (x : Eo)
  | store (n : Nat) (a x : Eo)
  | mkmap
  | mksl (sz bytes : Nat) (zero : List AV) (len cap : Eo)
  | aslice (n sz : Nat) (x : Eo) (lo hi : Option Eo)
  | slice (sz : Nat) (x : Eo) (lo hi : Option Eo)
  | lookup (pk : PK) (zero : AV) (ok : Bool) (m k : Eo)
  | mapset (pk : PK) (m k v : Eo)
  | mlen (m : Eo)
  | append (ext sz bytes : Nat) (x y : Eo)
  | appz (sz bytes : Nat) (zero : List AV) (x n : Eo)
  | copy (sz : Nat) (x y : Eo)
  | clr (sz : Nat) (zero : List AV) (x : Eo)
  | b2s (x : Eo)

inductive EOp where
  | dry (o : Dry)
  | wet (o : Wet)
  | call (f : Eo) (args : List Eo)
  | defer (f : Eo) (args : List Eo)
  | panic (x : Eo)
  | recover
  | stuck

structure EOper where
  dst : Option Nat
  op : EOp
  guard : Option (Nat × Bool)   -- the place that is looked at, and what it must hold

/-- Code. 'draw': a region whose order is open: of each operation which ones are always done ahead of it (as bits), and whether it may write. -/
inductive ECode where
  | skip
  | reg (ops : List EOper)
  | draw (ops : List (EOper × Nat × Bool))
  | seq (a b : ECode)
  | cond (c : Eo) (a b : ECode)
  | block (id : Nat) (b : ECode)
  | loop (b : ECode)
  | exit (id : Nat)
  | scope (b : ECode)
  | label (l : Nat)
  | goto (l : Nat)
  | ret
  | stuck

/-- A result: a place, or the cells behind one. -/
inductive ERes where
  | tmp (t : Nat)
  | cell (a n : Nat) (agg : Bool)

/-- Functions of Go's library whose text the evaluator doesn't run: strings.Builder's copy check, and its String. -/
inductive Own where
  | check (t : Nat)   -- the type strings.Builder
  | text (e : Nat)    -- the type of a byte of its buffer
  | said (r : List AV → Option AV)    -- what a call answers, that looks at none of the evaluator's memory and writes nothing that was there
  | spec (r : Nat → St → List AV → Option (AV × St))    -- any other
structure EFunc where
  own : Option Own := none
  body : ECode
  res : List ERes
  ntmps : Nat
  pure : Bool      -- it writes nothing that was there, and what it answers is never written

/-! ### Values -/
def flat : AV → List AV
  | .agg cs => cs
  | v => [v]
def unflat (a : Bool) (cs : List AV) : Option AV :=
  match a, cs with
  | true, cs => some (.agg cs)
  | false, [.agg _] => none
  | false, [c] => some c
  | false, _ => none
def cut (cs : List AV) (off n : Nat) : Option (List AV) :=
  let c := (cs.drop off).take n
  match Nat.beq c.length n with
  | true => some c
  | false => none
def over (cs : List AV) (off : Nat) (c : List AV) : Option (List AV) :=
  match Nat.ble (off + c.length) cs.length with
  | true => some (cs.take off ++ c ++ cs.drop (off + c.length))
  | false => none
def AV.cellOk : AV → Bool
  | .agg _ | .tup _ => false
  | _ => true
def fills : List AV → List (Nat × Nat × AV) → Option (List AV)
  | cs, [] => some cs
  | cs, (off, n, v) :: r =>
    match Nat.beq (flat v).length n, over cs off (flat v) with
    | true, some cs => fills cs r
    | _, _ => none
def natOf : AV → Option Nat
  | .int _ (.ofNat n) => some n
  | _ => none
def chunks : Nat → Nat → List AV → List AV
  | 0, _, _ => []
  | n + 1, sz, cs => (match Nat.beq sz 1, cs with | true, c :: _ => c | _, _ => .agg (cs.take sz)) :: chunks n sz (cs.drop sz)
def gint (n : Nat) : AV := .int .i64 n
/-- What a place holds to which nothing was given. -/
def undefA : AV := .tup []

section
variable (gl : Nat → AV) (tm : Tr AV)
def Eo.ev : Eo → AV
  | .t i => (tm.get i).getD undefA
  | .k v => v
  | .g n => gl n
def evs (xs : List Eo) : List AV := xs.map (Eo.ev gl tm)
def evo : Option Eo → Nat → Option Nat
  | none, d => some d
  | some x, _ => natOf (x.ev gl tm)
end

def binInt (op : BinOp) (k : IntKind) (a b : Int) : Option AV :=
  match op with
  | .add => some (.int k (k.wrap (a + b)))
  | .sub => some (.int k (k.wrap (a - b)))
  | .mul => some (.int k (k.wrap (a * b)))
  | .quo => if b = 0 then none else some (.int k (k.wrap (a.tdiv b)))
  | .rem => if b = 0 then none else some (.int k (a.tmod b))
  | .and => some (.int k (k.wrap (BitVec.ofInt k.bits a &&& BitVec.ofInt k.bits b).toNat))
  | .or => some (.int k (k.wrap (BitVec.ofInt k.bits a ||| BitVec.ofInt k.bits b).toNat))
  | .xor => some (.int k (k.wrap (BitVec.ofInt k.bits a ^^^ BitVec.ofInt k.bits b).toNat))
  | .andNot => some (.int k (k.wrap (BitVec.ofInt k.bits a &&& ~~~ BitVec.ofInt k.bits b).toNat))
  | .shl => if b < 0 then none else some (.int k (k.wrap (a * 2 ^ (min b.toNat k.bits))))
  | .shr => if b < 0 then none else some (.int k (a.fdiv (2 ^ (min b.toNat k.bits))))
  | .eql => some (.bool (a == b))
  | .neq => some (.bool (a != b))
  | .lss => some (.bool (decide (a < b)))
  | .leq => some (.bool (decide (a ≤ b)))
  | .gtr => some (.bool (decide (a > b)))
  | .geq => some (.bool (decide (a ≥ b)))
def natsEq : List Nat → List Nat → Bool
  | [], [] => true
  | a :: x, b :: y => Nat.beq a b && natsEq x y
  | _, _ => false
def natsLess : List Nat → List Nat → Bool
  | _, [] => false
  | [], _ :: _ => true
  | a :: x, b :: y => Nat.blt a b || (Nat.beq a b && natsLess x y)
def binStr (op : BinOp) (a b : List Nat) : Option AV :=
  match op with
  | .add => if a.length + b.length < 9223372036854775808 then some (.str (a ++ b)) else none
  | .eql => some (.bool (natsEq a b))
  | .neq => some (.bool (!natsEq a b))
  | .lss => some (.bool (natsLess a b))
  | .leq => some (.bool (natsLess a b || natsEq a b))
  | .gtr => some (.bool (!(natsLess a b || natsEq a b)))
  | .geq => some (.bool (!natsLess a b))
  | _ => none
def isShift : BinOp → Bool
  | .shl | .shr => true
  | _ => false
/-- Of an int of which the lowest b bits are known: some of them, or all the others' neighbours. -/
def binMint (op : BinOp) (k : IntKind) (b m : Nat) (k' : IntKind) (c : Nat) : Option AV :=
  match op with
  | .and => if k = k' ∧ c < 2 ^ b ∧ b < k.bits then some (.int k (m &&& c : Nat)) else none
  | .shr => if c ≤ b ∧ b < k.bits then some (.mint k (b - c) (m / 2 ^ c)) else none
  | _ => none
def binAV (op : BinOp) : AV → AV → Option AV
  | .int k a, .int k' b => if isShift op || k = k' then binInt op k a b else none
  | .str a, .str b => binStr op a b
  | .mint k b m, .int k' (.ofNat c) => binMint op k b m k' c
  | _, _ => none
def eqPrim : PK → AV → AV → Option Bool
  | .b, .bool a, .bool b => some (a == b)
  | .i, .int k a, .int k' b => if k = k' then some (a == b) else none
  | .s, .str a, .str b => some (natsEq a b)
  | _, _, _ => none
def eqRef : RK → AV → AV → Option Bool
  | .p, .nilp, .nilp | .s, .nils, .nils | .m, .nilm, .nilm | .f, .nilf, .nilf => some true
  | .p, .nilp, .ptr _ _ | .p, .ptr _ _, .nilp | .p, .nilp, .cptr _ | .p, .cptr _, .nilp => some false
  | .s, .nils, .lst (_ :: _) | .s, .lst (_ :: _), .nils => some false
  | .s, .nils, .sl _ _ (_ + 1) | .s, .sl _ _ (_ + 1), .nils => some false
  | .m, .nilm, .mp _ | .m, .mp _, .nilm | .f, .nilf, .fn _ _ _ | .f, .fn _ _ _, .nilf => some false
  | _, _, _ => none
def eqPrims : List PK → List AV → List AV → Option Bool
  | [], [], [] => some true
  | k :: ks, a :: x, b :: y =>
    match eqPrim k a b, eqPrims ks x y with
    | some p, some q => some (p && q)
    | _, _ => none
  | _, _, _ => none
def eqAV : EqK → AV → AV → Option Bool
  | .prim k, a, b => eqPrim k a b
  | .ref k, a, b => eqRef k a b
  | .ifc, .nili, .ifc _ _ | .ifc, .ifc _ _, .nili => some false
  | .ifc, .nili, .nili => some true
  | .agg ks, .agg a, .agg b => eqPrims ks a b
  | _, _, _ => none
def mm2 (mx : Bool) : AV → AV → Option AV
  | .int k x, .int k' y => if k = k' then some (.int k (if mx then (if x < y then y else x) else (if y < x then y else x))) else none
  | _, _ => none
def mmAll (mx : Bool) : AV → List AV → Option AV
  | a, [] => some a
  | a, b :: r => match mm2 mx a b with | some c => mmAll mx c r | none => none

section
variable (gl : Nat → AV) (tm : Tr AV)
def evDry : Dry → Option AV
  | .mov x => some (x.ev gl tm)
  | .pick c a b => match c.ev gl tm with | .bool true => some (a.ev gl tm) | .bool false => some (b.ev gl tm) | _ => none
  | .build zero parts => match fills zero (parts.map fun p => (p.1, p.2.1, p.2.2.ev gl tm)) with | some cs => some (.agg cs) | none => none
  | .nilchk x => match x.ev gl tm with | .ptr i o => some (.ptr i o) | .cptr v => some (.cptr v) | .fn f a b => some (.fn f a b) | .ifc t v => some (.ifc t v) | _ => none
  | .bin op x y => binAV op (x.ev gl tm) (y.ev gl tm)
  | .eq k neq x y => match eqAV k (x.ev gl tm) (y.ev gl tm) with | some b => some (.bool (if neq then !b else b)) | none => none
  | .not x => match x.ev gl tm with | .bool b => some (.bool !b) | _ => none
  | .neg x => match x.ev gl tm with | .int k n => some (.int k (k.wrap (0 - n))) | _ => none
  | .xor x => match x.ev gl tm with | .int k n => binInt .xor k (if k.signed then -1 else k.max) n | _ => none
  | .conv k x => match x.ev gl tm with | .int _ n => some (.int k (k.wrap n)) | _ => none
  | .mkifc t x => some (.ifc t (x.ev gl tm))
  | .mkfn f a b => some (.fn f (evs gl tm a) (evs gl tm b))
  | .strsl x lo hi =>
    match x.ev gl tm with
    | .str s =>
      match evo gl tm lo 0, evo gl tm hi s.length with
      | some l, some h => if l ≤ h ∧ h ≤ s.length then some (.str ((s.drop l).take (h - l))) else none
      | _, _ => none
    | _ => none
  | .faddr off n agg x =>
    match x.ev gl tm with
    | .ptr i o => some (.ptr i (o + off))
    | .cptr v => match cut (flat v) off n with | some c => (match unflat agg c with | some u => some (.cptr u) | none => none) | none => none
    | _ => none
  | .fld off n agg x =>
    match x.ev gl tm with
    | .agg cs => match cut cs off n with | some c => unflat agg c | none => none
    | _ => none
  | .iaddr sz x i =>
    match x.ev gl tm, natOf (i.ev gl tm) with
    | .sl id off len, some k => if k < len then some (.ptr id (off + k * sz)) else none
    | .lst es, some k => match es[k]? with | some e => (match Nat.beq (flat e).length sz with | true => some (.cptr e) | false => none) | none => none
    | _, _ => none
  | .aaddr len sz agg x i =>
    match x.ev gl tm, natOf (i.ev gl tm) with
    | .ptr id off, some k => if k < len then some (.ptr id (off + k * sz)) else none
    | .cptr v, some k =>
      if k < len then (match cut (flat v) (k * sz) sz with | some c => (match unflat agg c with | some u => some (.cptr u) | none => none) | none => none) else none
    | _, _ => none
  | .aidx len sz agg x i =>
    match x.ev gl tm, natOf (i.ev gl tm) with
    | .agg cs, some k => if k < len then match cut cs (k * sz) sz with | some c => unflat agg c | none => none else none
    | _, _ => none
  | .sidx x i =>
    match x.ev gl tm, natOf (i.ev gl tm) with
    | .str s, some k => match s[k]? with | some b => some (.int .u8 b) | none => none
    | _, _ => none
  | .extract x i => match x.ev gl tm with | .tup vs => vs[i]? | _ => none
  | .len x =>
    match x.ev gl tm with
    | .nils => some (gint 0)
    | .sl _ _ n => some (gint n)
    | .lst es => some (gint es.length)
    | _ => none
  | .slen x => match x.ev gl tm with | .str s => some (gint s.length) | _ => none
  | .mm mx xs => match evs gl tm xs with | a :: r => mmAll mx a r | [] => none
  | .assert t x => match x.ev gl tm with | .ifc u v => if u = t then some v else none | _ => none
  | .assertok t zero x =>
    match x.ev gl tm with
    | .ifc u v => if u = t then some (.tup [v, .bool true]) else some (.tup [zero, .bool false])
    | .nili => some (.tup [zero, .bool false])
    | _ => none
end

/-! ### Memory -/
def St.new (s : St) (b : ABlk) : St := { H := s.H.set s.nx b, nx := s.nx + 1 }
def row (s : St) (id : Nat) : Option (List AV × Nat × Nat) :=
  match s.H.get id with
  | some (.cells cs sz ex) => some (cs, sz, ex)
  | _ => none
/-- The cells of a slice (or of a string). -/
def cellsOf (s : St) (sz : Nat) : AV → Option (List AV)
  | .nils => some []
  | .sl id off len => match row s id with | some (cs, z, _) => (match Nat.beq z sz with | true => cut cs off (len * sz) | false => none) | none => none
  | .lst es => match es.all (fun e => Nat.beq (flat e).length sz) with | true => some (es.flatMap flat) | false => none
  | .str l => match Nat.beq sz 1 with | true => some (l.map fun (n : Nat) => .int .u8 (n : Int)) | false => none
  | _ => none
def lenOf : AV → Option Nat
  | .nils => some 0
  | .sl _ _ n => some n
  | .lst es => some es.length
  | .str s => some s.length
  | _ => none
def bytesOf : List AV → Option (List Nat)
  | [] => some []
  | .int .u8 (.ofNat n) :: r => (match Nat.blt n 256, bytesOf r with | true, some l => some (n :: l) | _, _ => none)
  | _ => none
def isStr : AV → Bool
  | .str _ => true
  | _ => false
/-- Few enough, and of few enough bytes. -/
def roomy (n bytes : Nat) : Bool := Nat.ble (n * (bytes + 1)) 68719476736
/-- The tag of a row to which something was appended: it may be the old row, or a new one. -/
def keptEx (off ex ext : Nat) : Nat := match Nat.beq off 0 && Nat.beq (2 * (ex / 2)) ext with | true => ext | false => 0
/-- 'append': what was there goes over into a new row; a row whose end the slice is not is let go. -/
def appendTo (lo : Nat) (s : St) (ext sz bytes : Nat) (x : AV) (n : Nat) (ys : List AV) : Option (AV × St) :=
  match Nat.beq n 0 with
  | true => match x with | .nils | .sl _ _ _ | .lst _ => some (x, s) | _ => none
  | false =>
    match ys.all AV.cellOk with
    | false => none
    | true =>
    match x with
    | .nils => if roomy n bytes then some (.sl s.nx 0 n, s.new (.cells ys sz ext)) else none
    | .sl id off len =>
      match row s id with
      | some (cs, z, ex) =>
        match Nat.beq z sz, cut cs off (len * sz), roomy (len + n) bytes with
        | true, some xs, true =>
          if Nat.beq (ex % 2) 1 && Nat.beq (off + len * sz) cs.length then some (.sl s.nx 0 (len + n), s.new (.cells (xs ++ ys) sz ext))
          else if lo ≤ id then some (.sl s.nx 0 (len + n), St.new { s with H := s.H.del id } (.cells (xs ++ ys) sz (keptEx off ex ext)))
          else none
        | _, _, _ => none
      | none => none
    | _ => none
def headSz (sz : Nat) : List AV → Bool
  | e :: _ => Nat.beq (flat e).length sz
  | [] => true
def keyEq : AV → AV → Option Bool
  | .int k a, .int k' b => if k = k' then some (a == b) else none
  | .str a, .str b => some (natsEq a b)
  | .bool a, .bool b => some (a == b)
  | _, _ => none
def mfind (k : AV) : List (AV × AV) → Option (Option AV)
  | [] => some none
  | (a, v) :: r => match keyEq k a with | some true => some (some v) | some false => mfind k r | none => none
def mput (k v : AV) : List (AV × AV) → Option (List (AV × AV))
  | [] => some [(k, v)]
  | (a, u) :: r =>
    match keyEq k a with
    | some true => some ((k, v) :: r)
    | some false => match mput k v r with | some r => some ((a, u) :: r) | none => none
    | none => none
def plainKey : PK → AV → Bool
  | .i, .int _ _ | .s, .str _ | .b, .bool _ => true
  | _, _ => false

section
variable (gl : Nat → AV) (tm : Tr AV) (lo : Nat) (s : St)
def evWet : Wet → Option (AV × St)
  | .alloc ex sz zero => some (.ptr s.nx 0, s.new (.cells zero sz ex))
  | .box sz x => some (.ptr s.nx 0, s.new (.cells (flat (x.ev gl tm)) sz 1))
  | .bsl sz len zero parts =>
    match fills zero (parts.map fun p => (p.1, sz, p.2.ev gl tm)) with
    | some cs => some (.sl s.nx 0 len, s.new (.cells cs sz 1))
    | none => none
  | .load n agg x =>
    match x.ev gl tm with
    | .ptr id off =>
      match row s id with
      | some (cs, _, _) => match cut cs off n with | some c => (match unflat agg c with | some v => some (v, s) | none => none) | none => none
      | none => none
    | .cptr v => match Nat.beq (flat v).length n, unflat agg (flat v) with | true, some u => some (u, s) | _, _ => none
    | _ => none
  | .store n a x =>
    match a.ev gl tm with
    | .ptr id off =>
      if lo ≤ id then
        match row s id with
        | some (cs, sz, ex) =>
          let c := flat (x.ev gl tm)
          match Nat.beq c.length n, c.all AV.cellOk, over cs off c with
          | true, true, some cs' => some (undefA, { s with H := s.H.set id (.cells cs' sz ex) })
          | _, _, _ => none
        | none => none
      else none
    | _ => none
  | .mkmap => some (.mp s.nx, s.new (.map []))
  | .mksl sz bytes zero len cap =>
    match natOf (len.ev gl tm), natOf (cap.ev gl tm) with
    | some l, some c => if l ≤ c ∧ roomy c bytes then some (.sl s.nx 0 l, s.new (.cells (List.replicate c zero).flatten sz 1)) else none
    | _, _ => none
  | .aslice n sz x lo' hi' =>
    match x.ev gl tm with
    | .ptr id off =>
      match evo gl tm lo' 0, evo gl tm hi' n with
      | some l, some h =>
        if l ≤ h ∧ h ≤ n then
          match row s id with
          | some (cs, z, ex) => if off = 0 ∧ z = sz ∧ cs.length = n * sz ∧ ex % 2 = 1 then some (.sl id (l * sz) (h - l), s) else none
          | none => none
        else none
      | _, _ => none
    | _ => none
  | .slice sz x lo' hi' =>
    match x.ev gl tm with
    | .nils => (match evo gl tm lo' 0, evo gl tm hi' 0 with | some 0, some 0 => some (.nils, s) | _, _ => none)
    | .sl id off len =>
      match row s id, evo gl tm lo' 0, evo gl tm hi' len with
      | some (_, z, _), some l, some h => if l ≤ h ∧ h ≤ len ∧ z = sz then some (.sl id (off + l * sz) (h - l), s) else none
      | _, _, _ => none
    | .lst es =>
      match evo gl tm lo' 0, evo gl tm hi' es.length with
      | some l, some h =>
        if l ≤ h ∧ h ≤ es.length ∧ headSz sz es = true then some (.lst ((es.drop l).take (h - l)), s) else none
      | _, _ => none
    | _ => none
  | .lookup pk zero ok m k =>
    let es := match m.ev gl tm with
      | .nilm => some []
      | .mp id => match s.H.get id with | some (.map es) => some es | _ => none
      | _ => none
    match es with
    | some es =>
      match plainKey pk (k.ev gl tm), mfind (k.ev gl tm) es with
      | true, some (some v) => some (if ok then .tup [v, .bool true] else v, s)
      | true, some none => some (if ok then .tup [zero, .bool false] else zero, s)
      | _, _ => none
    | none => none
  | .mapset pk m k v =>
    match m.ev gl tm with
    | .mp id =>
      if lo ≤ id then
        match s.H.get id with
        | some (.map es) => match plainKey pk (k.ev gl tm), mput (k.ev gl tm) (v.ev gl tm) es with | true, some es' => some (undefA, { s with H := s.H.set id (.map es') }) | _, _ => none
        | _ => none
      else none
    | _ => none
  | .mlen m =>
    match m.ev gl tm with
    | .nilm => some (gint 0, s)
    | .mp id => match s.H.get id with | some (.map es) => some (gint es.length, s) | _ => none
    | _ => none
  | .append ext sz bytes x y =>
    match lenOf (y.ev gl tm), cellsOf s sz (y.ev gl tm) with
    | some n, some ys => appendTo lo s ext sz bytes (x.ev gl tm) n ys
    | _, _ => none
  | .appz sz bytes zero x n =>
    match natOf (n.ev gl tm) with
    | some n => if roomy n bytes then appendTo lo s 0 sz bytes (x.ev gl tm) n (List.replicate n zero).flatten else none
    | none => none
  | .copy sz x y =>
    match x.ev gl tm, lenOf (y.ev gl tm), cellsOf s sz (y.ev gl tm) with
    | .sl id off len, some n, some ys =>
      if lo ≤ id ∧ isStr (y.ev gl tm) = false then
        match row s id with
        | some (cs, z, ex) =>
          let m := min n len
          let c := ys.take (m * sz)
          match Nat.beq z sz, c.all AV.cellOk, over cs off c with
          | true, true, some cs' => some (gint m, { s with H := s.H.set id (.cells cs' sz ex) })
          | _, _, _ => none
        | none => none
      else none
    | .nils, some _, some _ => if isStr (y.ev gl tm) = false then some (gint 0, s) else none
    | _, _, _ => none
  | .clr sz zero x =>
    match x.ev gl tm with
    | .nils => some (.tup [], s)
    | .sl id off len =>
      if lo ≤ id then
        match row s id with
        | some (cs, z, ex) =>
          match Nat.beq z sz, (List.replicate len zero).flatten.all AV.cellOk, over cs off (List.replicate len zero).flatten with
          | true, true, some cs' => some (.tup [], { s with H := s.H.set id (.cells cs' sz ex) })
          | _, _, _ => none
        | none => none
      else none
    | _ => none
  | .b2s x =>
    match x.ev gl tm with
    | .nils => some (.str [], s)
    | v => (match isStr v, cellsOf s 1 v with | false, some cs => (match bytesOf cs with | some l => some (.str l, s) | none => none) | _, _ => none)
end

/-! ### What is answered and never written any more -/
mutual
def freeze (s : St) (lo b : Nat) : Nat → AV → Option AV
  | 0, _ => none
  | n + 1, v =>
    match v with
    | .ptr id o => if id < b then some (.ptr id o) else none
    | .mp id => if id < b then some (.mp id) else none
    | .sl id off len =>
      if id < b then some (.sl id off len) else
      if id < lo then none else
      match row s id with
      | some (cs, sz, _) =>
        match cut cs off (len * sz) with
        | some c => match freezes s lo 0 n c with | some c => (match c.all AV.cellOk with | true => some (.lst (chunks len sz c)) | false => none) | none => none
        | none => none
      | none => none
    | .agg cs => match freezes s lo b n cs with | some cs => some (.agg cs) | none => none
    | .tup cs => match freezes s lo b n cs with | some cs => some (.tup cs) | none => none
    | .ifc t v => match freeze s lo b n v with | some v => some (.ifc t v) | none => none
    | .fn f x y => match freezes s lo b n x, freezes s lo b n y with | some x, some y => some (.fn f x y) | _, _ => none
    | v => some v
def freezes (s : St) (lo b : Nat) : Nat → List AV → Option (List AV)
  | 0, _ => none
  | _, [] => some []
  | n + 1, v :: r => match freeze s lo b n v, freezes s lo b n r with | some v, some r => some (v :: r) | _, _ => none
end

/-! ### The run -/
structure Fr where
  tm : Tr AV
  df : List (FuncId × List AV)
inductive Ex where
  | nrm
  | exit (id : Nat)
  | goto (l : Nat)
  | ret
  | pan (v : AV)
inductive AOut where
  | ret (v : AV)
  | pan (v : AV)

def Fr.put (fr : Fr) (d : Option Nat) (v : AV) : Fr :=
  match d with
  | some d => { fr with tm := fr.tm.set d v }
  | none => fr
def wanted (tm : Tr AV) : Option (Nat × Bool) → Option Bool
  | none => some true
  | some (t, w) => match (tm.get t).getD undefA with | .bool b => some (b == w) | .tup _ => some false | _ => none
def resOf (tm : Tr AV) (s : St) : ERes → Option AV
  | .tmp t => some ((tm.get t).getD undefA)
  | .cell a n agg =>
    match (tm.get a).getD undefA with
    | .ptr id off => match row s id with | some (cs, _, _) => (match cut cs off n with | some c => unflat agg c | none => none) | none => none
    | _ => none
def resAll (tm : Tr AV) (s : St) : List ERes → Option (List AV)
  | [] => some []
  | r :: rs => match resOf tm s r, resAll tm s rs with | some v, some vs => some (v :: vs) | _, _ => none
def tupled : List AV → AV
  | [v] => v
  | vs => .tup vs
def args0 : Nat → List AV → Tr AV → Tr AV
  | _, [], t => t
  | i, a :: r, t => args0 (i + 1) r (t.set i a)
def delta (H : Tr ABlk) (a : Nat) : Nat → List (Nat × Option ABlk)
  | 0 => []
  | n + 1 => (a, H.get a) :: delta H (a + 1) n
def lay (H : Tr ABlk) : List (Nat × Option ABlk) → Tr ABlk
  | [] => H
  | (i, b) :: r => lay (H.put i b) r
/-- What an operation of an open region did: its number; the blocks that it looked at (none: any); those that were there and that it wrote; the blocks that it made or wrote; the numbers of those that it made. -/
structure Did where
  k : Nat
  F : Option (List Nat)
  W : List Nat
  d : List (Nat × Option ABlk)
  a : Nat
  z : Nat
def layIf (H : Tr ABlk) (bf : Nat) : List Did → Tr ABlk
  | [] => H
  | e :: r => layIf (match bf.testBit e.k with | true => lay H e.d | false => H) bf r
def layAll (H : Tr ABlk) : List Did → Tr ABlk
  | [] => H
  | e :: r => layAll (lay H e.d) r
def keep (H : Tr ABlk) : List Nat → Tr ABlk
  | [] => .lf
  | i :: r => match H.get i with | some b => (keep H r).set i b | none => keep H r
def keepF (H : Tr ABlk) : Option (List Nat) → Tr ABlk
  | some F => keep H F
  | none => H
def nmem (i : Nat) : List Nat → Bool
  | [] => false
  | j :: r => Nat.beq i j || nmem i r
def apartN : List Nat → List Nat → Bool
  | [], _ => true
  | i :: r, F => !nmem i F && apartN r F
def apartF (W : List Nat) (F : Option (List Nat)) : Bool :=
  match W, F with
  | [], _ => true
  | _, none => false
  | W, some F => apartN W F
/-- Whatever is done on neither side of this operation leaves alone what it looks at, and the other way round. -/
def clearOf (bf : Nat) (F : Option (List Nat)) (W : List Nat) : List Did → Bool
  | [] => true
  | e :: r => (match bf.testBit e.k with | true => true | false => apartF e.W F && apartF W e.F) && clearOf bf F W r
mutual
/-- No block of these numbers is told of. -/
def AV.clear (a z : Nat) : AV → Bool
  | .ptr i _ | .sl i _ _ | .mp i => Nat.blt i a || Nat.ble z i
  | .agg cs | .tup cs => AV.clears a z cs
  | .ifc _ v => AV.clear a z v
  | .fn _ x y => AV.clears a z x && AV.clears a z y
  | _ => true
def AV.clears (a z : Nat) : List AV → Bool
  | [] => true
  | v :: r => AV.clear a z v && AV.clears a z r
end
def ABlk.clear (a z : Nat) : ABlk → Bool
  | .cells cs _ _ => AV.clears a z cs
  | .map es => AV.clears a z (es.map (·.1)) && AV.clears a z (es.map (·.2))
def clearBlks (a z : Nat) : List (Nat × Option ABlk) → Bool
  | [] => true
  | (_, some b) :: r => b.clear a z && clearBlks a z r
  | (_, none) :: r => clearBlks a z r
/-- What an operation leaves tells of no block that was made by one that needn't be done yet. -/
def clearNew (bf : Nat) (v : AV) (d : List (Nat × Option ABlk)) : List Did → Bool
  | [] => true
  | e :: r => (match bf.testBit e.k || Nat.ble e.z e.a with | true => true | false => v.clear e.a e.z && clearBlks e.a e.z d) && clearNew bf v d r
def footOf (gl : Nat → AV) (tm : Tr AV) : Wet → Option (List Nat) × List Nat
  | .load _ _ x => (match x.ev gl tm with | .ptr id _ => some [id] | _ => some [], [])
  | .slice _ x _ _ => (match x.ev gl tm with | .sl id _ _ => some [id] | _ => some [], [])
  | .store _ a _ => match a.ev gl tm with | .ptr id _ => (some [id], [id]) | _ => (none, [])
  | .alloc _ _ _ | .box _ _ | .bsl _ _ _ _ | .mksl _ _ _ _ _ | .mkmap => (some [], [])
  | _ => (none, [])
def wrote (H : Tr ABlk) : List Nat → List (Nat × Option ABlk)
  | [] => []
  | i :: r => (i, H.get i) :: wrote H r

def findLabel : ECode → Nat → Option ECode
  | .seq a b, l => match findLabel a l with | some rest => some (.seq rest b) | none => findLabel b l
  | .label l', l => if l' = l then some .skip else none
  | _, _ => none

/-- The row's type is known, and that one. -/
def rowTag (s : St) (id t : Nat) : Bool := match row s id with | some (_, _, ex) => Nat.beq (2 * (ex / 2)) t | none => false
/-- A Builder's address cell is its own address from the first write on. -/
def ownRun (lo : Nat) (s : St) : Own → List AV → Option (AOut × St)
  | .check t, [.ptr id off] =>
    if lo ≤ id ∧ off = 0 then
      match row s id with
      | some (cs, sz, ex) =>
        if Nat.beq ex (2 * (t + 1) + 1) && Nat.beq cs.length 2 then
        match cs[off]? with
        | some .nilp => match over cs off [.ptr id off] with | some cs' => some (.ret (.tup []), { s with H := s.H.set id (.cells cs' sz ex) }) | none => none
        | some (.ptr i o) => if i = id ∧ o = off then some (.ret (.tup []), s) else none
        | _ => none
        else none
      | none => none
    else none
  | .text e, [.ptr id off] =>
    match row s id with
    | some (cs, _, ex) =>
      if Nat.ble 2 ex && Nat.beq off 0 then
      match cs[off + 1]? with
      | some .nils => some (.ret (.str []), s)
      | some (.sl j o len) =>
        if lo ≤ j ∧ o = 0 ∧ 0 < len ∧ len < 9223372036854775808 ∧ rowTag s j (2 * (e + 1)) = true then
          match cellsOf s 1 (.sl j o len) with
          | some c => match bytesOf c with | some l => some (.ret (.str l), { s with H := s.H.del j }) | none => none
          | none => none
        else none
      | _ => none
      else none
    | none => none
  | .said r, args => match r args with | some v => some (.ret v, s) | none => none
  | .spec r, args => match r lo s args with | some (v, s) => some (.ret v, s) | none => none
  | _, _ => none

structure Env where
  gl : Nat → AV
  fns : Nat → Option EFunc

/-- What a call looks at and writes, where that is known: the library's own functions. -/
def footCall (E : Env) (s : St) (g : FuncId) (args : List AV) : Option (List Nat) × List Nat :=
  match E.fns g with
  | some F =>
    match F.own, args with
    | some (.check _), [.ptr id _] => (some [id], [id])
    | some (.text _), [.ptr id off] =>
      match row s id with
      | some (cs, _, _) => match cs[off + 1]? with | some (.sl j _ _) => (some [id, j], [id, j]) | _ => (some [id], [])
      | none => (none, [])
    | some (.said _), _ => (some [], [])
    | _, _ => (none, [])
  | none => (none, [])
def didOf (s : St) (k nx : Nat) (f : Option (List Nat) × List Nat) : Did := ⟨k, f.1, f.2, wrote s.H f.2 ++ delta s.H nx (s.nx - nx), nx, s.nx⟩
/-- The numbers of blocks never fall; and what is left tells of no block too many. -/
def sane (bf : Nat) (v : AV) (nx : Nat) (s : St) (D : Did) (ds : List Did) : Bool := Nat.ble nx s.nx && clearNew bf v D.d ds
def lowOf (nx lo : Nat) : List Nat → Nat
  | [] => nx
  | _ => lo

/-- Behind a deferred function's body. -/
def left (b : Bool) (F : EFunc) : Option (Ex × Fr × St) → Option (Bool × St)
  | some (.nrm, fr, s) | some (.ret, fr, s) => match fr.df, resAll fr.tm s F.res with | [], some _ => some (b, s) | _, _ => none
  | _ => none

mutual
def exec (E : Env) : Nat → Nat → ECode → Fr → St → Option (Ex × Fr × St)
  | 0, _, _, _, _ => none
  | n + 1, lo, c, fr, s =>
    match c with
    | .skip => some (.nrm, fr, s)
    | .label _ => some (.nrm, fr, s)
    | .seq a b => match exec E n lo a fr s with | some (.nrm, fr, s) => exec E n lo b fr s | r => r
    | .cond c a b => match c.ev E.gl fr.tm with | .bool true => exec E n lo a fr s | .bool false => exec E n lo b fr s | _ => none
    | .block id b => match exec E n lo b fr s with | some (.exit i, fr, s) => some (if i = id then .nrm else .exit i, fr, s) | r => r
    | .loop b => match exec E n lo b fr s with | some (.nrm, fr, s) => exec E n lo (.loop b) fr s | r => r
    | .scope b =>
      match exec E n lo b fr s with
      | some (.goto l, fr, s) => match findLabel b l with | some c => scopeRun E n lo b c fr s | none => some (.goto l, fr, s)
      | r => r
    | .exit id => some (.exit id, fr, s)
    | .goto l => some (.goto l, fr, s)
    | .ret => some (.ret, fr, s)
    | .stuck => none
    | .reg ops => execOps E n lo ops fr s
    | .draw ops => execDraw E n lo 0 ops fr s.H [] [] s.nx
def scopeRun (E : Env) : Nat → Nat → ECode → ECode → Fr → St → Option (Ex × Fr × St)
  | 0, _, _, _, _, _ => none
  | n + 1, lo, b, c, fr, s =>
    match exec E n lo c fr s with
    | some (.goto l, fr, s) => match findLabel b l with | some c => scopeRun E n lo b c fr s | none => some (.goto l, fr, s)
    | r => r
def execOps (E : Env) : Nat → Nat → List EOper → Fr → St → Option (Ex × Fr × St)
  | 0, _, _, _, _ => none
  | _, _, [], fr, s => some (.nrm, fr, s)
  | n + 1, lo, o :: r, fr, s =>
    match wanted fr.tm o.guard with
    | some false => execOps E n lo r (fr.put o.dst undefA) s
    | some true =>
      match o.op with
      | .dry d => match evDry E.gl fr.tm d with | some v => execOps E n lo r (fr.put o.dst v) s | none => none
      | .wet d => match evWet E.gl fr.tm lo s d with | some (v, s) => execOps E n lo r (fr.put o.dst v) s | none => none
      | .call f args =>
        match f.ev E.gl fr.tm with
        | .fn g a b =>
          match callF E n lo g (a ++ evs E.gl fr.tm args ++ b) s with
          | some (.ret v, s) => execOps E n lo r (fr.put o.dst v) s
          | some (.pan v, s) => some (.pan v, fr, s)
          | none => none
        | _ => none
      | .defer f args =>
        match f.ev E.gl fr.tm with
        | .fn g a b => execOps E n lo r ({ fr with df := (g, a ++ evs E.gl fr.tm args ++ b) :: fr.df }.put o.dst undefA) s
        | _ => none
      | .panic x => match x.ev E.gl fr.tm with | .ifc t v => some (.pan (.ifc t v), fr, s) | _ => none
      | .recover | .stuck => none
    | none => none
def execDraw (E : Env) : Nat → Nat → Nat → List (EOper × Nat × Bool) → Fr → Tr ABlk → List Did → List Did → Nat → Option (Ex × Fr × St)
  | 0, _, _, _, _, _, _, _, _ => none
  | _, _, _, [], fr, H, ds, _, nx => some (.nrm, fr, ⟨layAll H ds, nx⟩)
  | n + 1, lo, k, (o, bf, wr) :: r, fr, H, ds, od, nx =>
    match wanted fr.tm o.guard with
    | some false => execDraw E n lo (k + 1) r (fr.put o.dst undefA) H ds od nx
    | some true =>
      match o.op with
      | .dry d => match evDry E.gl fr.tm d with | some v => (match clearNew bf v [] od with | true => execDraw E n lo (k + 1) r (fr.put o.dst v) H ds od nx | false => none) | none => none
      | .wet d =>
        match wr with
        | true =>
          match evWet E.gl fr.tm lo ⟨layAll H ds, nx⟩ d with
          | some (v, s) => (match Nat.ble nx s.nx with | true => execDraw E n lo (k + 1) r (fr.put o.dst v) s.H [] (⟨k, none, [], [], nx, s.nx⟩ :: od) s.nx | false => none)
          | none => none
        | false =>
          match clearOf bf (footOf E.gl fr.tm d).1 (footOf E.gl fr.tm d).2 ds with
          | true =>
            match evWet E.gl fr.tm (lowOf nx lo (footOf E.gl fr.tm d).2) ⟨keepF (layIf H bf ds) (footOf E.gl fr.tm d).1, nx⟩ d with
            | some (v, s) => (match sane bf v nx s (didOf s k nx (footOf E.gl fr.tm d)) ds with | true => execDraw E n lo (k + 1) r (fr.put o.dst v) H (ds ++ [didOf s k nx (footOf E.gl fr.tm d)]) (⟨k, none, [], [], nx, s.nx⟩ :: od) s.nx | false => none)
            | none => none
          | false => none
      | .call f args =>
        match f.ev E.gl fr.tm with
        | .fn g a b =>
          match wr with
          | true =>
            match callF E n lo g (a ++ evs E.gl fr.tm args ++ b) ⟨layAll H ds, nx⟩ with
            | some (.ret v, s) => (match Nat.ble nx s.nx with | true => execDraw E n lo (k + 1) r (fr.put o.dst v) s.H [] (⟨k, none, [], [], nx, s.nx⟩ :: od) s.nx | false => none)
            | _ => none
          | false =>
            match clearOf bf (footCall E ⟨layIf H bf ds, nx⟩ g (a ++ evs E.gl fr.tm args ++ b)).1 (footCall E ⟨layIf H bf ds, nx⟩ g (a ++ evs E.gl fr.tm args ++ b)).2 ds with
            | true =>
              match callF E n (lowOf nx lo (footCall E ⟨layIf H bf ds, nx⟩ g (a ++ evs E.gl fr.tm args ++ b)).2) g (a ++ evs E.gl fr.tm args ++ b) ⟨keepF (layIf H bf ds) (footCall E ⟨layIf H bf ds, nx⟩ g (a ++ evs E.gl fr.tm args ++ b)).1, nx⟩ with
              | some (.ret v, s) => (match sane bf v nx s (didOf s k nx (footCall E ⟨layIf H bf ds, nx⟩ g (a ++ evs E.gl fr.tm args ++ b))) ds with | true => execDraw E n lo (k + 1) r (fr.put o.dst v) H (ds ++ [didOf s k nx (footCall E ⟨layIf H bf ds, nx⟩ g (a ++ evs E.gl fr.tm args ++ b))]) (⟨k, none, [], [], nx, s.nx⟩ :: od) s.nx | false => none)
              | _ => none
            | false => none
        | _ => none
      | _ => none
    | none => none
def callF (E : Env) : Nat → Nat → FuncId → List AV → St → Option (AOut × St)
  | 0, _, _, _, _ => none
  | n + 1, lo, f, args, s =>
    match E.fns f with
    | none => none
    | some F =>
      match F.own with
      | some o => ownRun lo s o args
      | none =>
      match exec E n (if F.pure then s.nx else lo) F.body ⟨args0 0 args .lf, []⟩ s with
      | some (e, fr, s') =>
        match (match e with | .nrm | .ret => leave E n (if F.pure then s.nx else lo) F fr.tm fr.df none s' | .pan v => leave E n (if F.pure then s.nx else lo) F fr.tm fr.df (some v) s' | _ => none) with
        | some (.ret v, s') => if F.pure then (match freeze s' s.nx s.nx 100000 v with | some v => some (.ret v, s) | none => none) else some (.ret v, s')
        | some (.pan v, s') => if F.pure then (match freeze s' s.nx s.nx 100000 v with | some v => some (.pan v, s) | none => none) else some (.pan v, s')
        | none => none
      | none => none
/-- The deferred calls, the last one first; then the results are read. -/
def leave (E : Env) : Nat → Nat → EFunc → Tr AV → List (FuncId × List AV) → Option AV → St → Option (AOut × St)
  | 0, _, _, _, _, _, _ => none
  | _, _, F, tm, [], none, s => match resAll tm s F.res with | some vs => some (.ret (tupled vs), s) | none => none
  | _, _, _, _, [], some v, s => some (.pan v, s)
  | n + 1, lo, F, tm, (g, args) :: r, p, s =>
    match callD E n lo g args p s with
    | some (true, s) => leave E n lo F tm r none s
    | some (false, s) => leave E n lo F tm r p s
    | none => none
/-- A deferred call of a function that defers nothing itself; if it recovers, that is the first thing that it does. Whether it has recovered, or could have. -/
def callD (E : Env) : Nat → Nat → FuncId → List AV → Option AV → St → Option (Bool × St)
  | 0, _, _, _, _, _ => none
  | n + 1, lo, f, args, p, s =>
    match E.fns f with
    | none => none
    | some F =>
      match F.own, F.pure with
      | none, false =>
        match F.body with
        | .seq (.reg (⟨d, .recover, none⟩ :: ops)) rest =>
          match execOps E n lo ops (Fr.put ⟨args0 0 args .lf, []⟩ d (p.getD .nili)) s with
          | some (.nrm, fr, s) => left true F (exec E n lo rest fr s)
          | _ => none
        | c => left false F (exec E n lo c ⟨args0 0 args .lf, []⟩ s)
      | _, _ => none
end

end Go.Ev
