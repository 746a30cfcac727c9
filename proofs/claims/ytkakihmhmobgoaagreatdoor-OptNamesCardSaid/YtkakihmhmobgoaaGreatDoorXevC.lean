/- From the model's code to the evaluator's. -/
import Derived.Test.YtkakihmhmobgoaaGreatDoorXevB
import GoSem.Core.Layout
import GoSem.Machine.Frame
import GoSem.Core.Region
import Derived.Orders
namespace Go.Ev

mutual
def ofValue : Value → Option AV
  | .bool b => some (.bool b)
  | .int k n => some (.int k n)
  | .string s => some (.str (s.data.toList.map (·.toNat)))
  | .pointer none => some .nilp
  | .slice none 0 0 => some .nils
  | .map none => some .nilm
  | .nilFunc => some .nilf
  | .nilIface => some .nili
  | .func (.func f) ⟨[]⟩ ⟨[]⟩ => some (.fn f [] [])
  | .agg ⟨cs⟩ => (ofValues cs).map .agg
  | .tuple ⟨[]⟩ => some (.tup [])
  | _ => none
def ofValues : List Value → Option (List AV)
  | [] => some []
  | v :: r => match ofValue v, ofValues r with | some v, some r => some (v :: r) | _, _ => none
end

section
variable (P : Program)
def ofOperand : Operand → Option Eo
  | .tmp t => some (.t t)
  | .const v => (ofValue v).map .k
  | .global g => some (.g g)
  | .func f => some (.k (.fn f [] []))
def ofOperands : List Operand → Option (List Eo)
  | [] => some []
  | x :: r => match ofOperand x, ofOperands r with | some x, some r => some (x :: r) | _, _ => none
def ofOpt : Option Operand → Option (Option Eo)
  | none => some none
  | some x => (ofOperand x).map some
def sizeT (t : TypeId) : Option Nat := (P.info? t).map (·.size)
def bytesT (t : TypeId) : Option Nat := (P.info? t).map (·.bytes)
def aggT (t : TypeId) : Option Bool := (P.underlying t).map fun | .struct _ | .array _ _ => true | _ => false
def zeroT (t : TypeId) : Option AV := ((P.info? t).bind (·.zero)).bind ofValue
/-- How many cells an element has, where the memory of a type is taken as a row. -/
def rowSz (t : TypeId) : Option Nat :=
  match P.underlying t with
  | some (.array _ e) => sizeT P e
  | some _ => sizeT P t
  | none => none
/-- The type of a row that is a variable's own memory. -/
def exT (t : TypeId) : Nat :=
  match P.underlying t with
  | some (.struct _) => 2 * (t + 1) + 1
  | _ => 1
def ofParts (place : Nat → Option (Nat × Nat)) : List (Nat × Operand) → Option (List (Nat × Nat × Eo))
  | [] => some []
  | (i, x) :: r =>
    match place i, ofOperand x, ofParts place r with
    | some (o, n), some x, some r => some ((o, n, x) :: r)
    | _, _, _ => none
def fieldAt (fs : Array Field) (i : Nat) : Option (Nat × Nat × Bool) :=
  match fs[i]? with
  | some f => match sizeT P f.type, aggT P f.type with | some n, some a => some (f.offset, n, a) | _, _ => none
  | none => none
/-- Is a type one of plain fields? Then '==' goes cell by cell. -/
def primT (t : TypeId) : Option PK :=
  match P.underlying t with
  | some .bool => some .b
  | some (.int _) => some .i
  | some .string => some .s
  | _ => none
/-- The fields of a struct that has plain ones alone, from number i on. -/
def primFs : List Field → Nat → Option (List PK)
  | [], _ => some []
  | f :: r, i =>
    if f.name = "_" ∨ f.offset ≠ i ∨ sizeT P f.type ≠ some 1 ∨ aggT P f.type ≠ some false then none else
    match primT P f.type, primFs r (i + 1) with
    | some k, some ks => some (k :: ks)
    | _, _ => none
def eqKind (t : TypeId) : Option EqK :=
  match P.underlying t with
  | some .bool => some (.prim .b)
  | some (.int _) => some (.prim .i)
  | some .string => some (.prim .s)
  | some (.pointer _) => some (.ref .p)
  | some (.slice _) => some (.ref .s)
  | some (.map _ _) => some (.ref .m)
  | some (.func _ _ _) => some (.ref .f)
  | some (.interface _) => some .ifc
  | some (.struct fs) => if P.eqGuardType P.depth t || P.stoodInHeld t then none else (primFs P fs.toList 0).map .agg
  | _ => none

def isK : Eo → Bool
  | .k (.fn _ _ _) => false
  | .k _ => true
  | _ => false
def ofCallee (f : Operand) (args : List Operand) : Option EOp :=
  match ofOperand f, ofOperands args with
  | some f, some args => some (.call f args)
  | _, _ => none

/-- What may be appended: a slice, or a string. -/
def srcT (t : TypeId) : Bool :=
  match P.underlying t with
  | some (.slice _) | some .string => true
  | _ => false
def ofBuiltin (b : Builtin) (ts : List TypeId) (args : List Operand) : Option EOp :=
  match b, ts, args with
  | .len, [t], [x] =>
    match P.underlying t, ofOperand x with
    | some (.map _ _), some x => some (.wet (.mlen x))
    | some .string, some x => some (.dry (.slen x))
    | some (.slice _), some x => some (.dry (.len x))
    | some (.array n _), some _ => some (.dry (.mov (.k (gint n))))
    | _, _ => none
  | .append, [t, u], [x, y] =>
    match P.underlying t, P.underlying u, ofOperand x, ofOperand y with
    | some (.slice e), some (.int _), some x, some y =>
      match sizeT P e, bytesT P e, zeroT P e with
      | some sz, some by_, some z => if (flat z).length = sz ∧ 0 < sz then some (.wet (.appz sz by_ (flat z) x y)) else none
      | _, _, _ => none
    | some (.slice e), some _, some x, some y =>
      match sizeT P e, bytesT P e, zeroT P e with
      | some sz, some by_, some z => if (flat z).length = sz ∧ 0 < sz ∧ srcT P u then some (.wet (.append (2 * (e + 1)) sz by_ x y)) else none
      | _, _, _ => none
    | _, _, _, _ => none
  | .copy, [t, _], [x, y] =>
    match P.underlying t, ofOperand x, ofOperand y with
    | some (.slice e), some x, some y => match sizeT P e with | some sz => some (.wet (.copy sz x y)) | none => none
    | _, _, _ => none
  | .clear, [t], [x] =>
    match P.underlying t, ofOperand x with
    | some (.slice e), some x => match sizeT P e, zeroT P e with | some sz, some z => if (flat z).length = sz then some (.wet (.clr sz (flat z) x)) else none | _, _ => none
    | _, _ => none
  | .min, _, xs => (ofOperands xs).map fun xs => .dry (.mm false xs)
  | .max, _, xs => (ofOperands xs).map fun xs => .dry (.mm true xs)
  | .recover, _, _ => some .recover
  | _, _, _ => none

def ofOp (o : Op) : Option EOp :=
  match o with
  | .move x | .assign x => (ofOperand x).map fun x => .dry (.mov x)
  | .pick c a b => match ofOperand c, ofOperand a, ofOperand b with | some c, some a, some b => some (.dry (.pick c a b)) | _, _, _ => none
  | .alloc t => match rowSz P t, zeroT P t with | some sz, some z => some (.wet (.alloc (exT P t) sz (flat z))) | _, _ => none
  | .box t x => match rowSz P t, ofOperand x with | some sz, some x => some (.wet (.box sz x)) | _, _ => none
  | .build t parts =>
    match P.underlying t, zeroT P t with
    | some (.struct fs), some z =>
      if fs.toList.all fun f => (sizeT P f.type).isSome then
        match ofParts (fun i => (fieldAt P fs i).map fun (o, n, _) => (o, n)) parts.toList with
        | some ps => some (.dry (.build (flat z) ps))
        | none => none
      else none
    | some (.array _ e), some z =>
      match sizeT P e with
      | some sz => match ofParts (fun i => some (i * sz, sz)) parts.toList with | some ps => some (.dry (.build (flat z) ps)) | none => none
      | none => none
    | _, _ => none
  | .buildSlice t len parts =>
    match P.underlying t with
    | some (.slice e) =>
      match sizeT P e, zeroT P e with
      | some sz, some z =>
        if len * sz ≤ 16777216 ∧ (flat z).length = sz then
          match ofParts (fun i => some (i * sz, sz)) parts.toList with
          | some ps => some (.wet (.bsl sz len (List.replicate len (flat z)).flatten (ps.map fun p => (p.1, p.2.2))))
          | none => none
        else none
      | _, _ => none
    | _ => none
  | .load t x => match sizeT P t, aggT P t, ofOperand x with | some n, some a, some x => some (.wet (.load n a x)) | _, _, _ => none
  | .store t a x => match sizeT P t, ofOperand a, ofOperand x with | some n, some a, some x => some (.wet (.store n a x)) | _, _, _ => none
  | .nilCheck x => (ofOperand x).map fun x => .dry (.nilchk x)
  | .binOp op t x y _ =>
    match ofOperand x, ofOperand y with
    | some x, some y =>
      match op with
      | .eql => match eqKind P t with | some k => if k = .ifc && !isK x && !isK y then none else some (.dry (.eq k false x y)) | none => none
      | .neq => match eqKind P t with | some k => if k = .ifc && !isK x && !isK y then none else some (.dry (.eq k true x y)) | none => none
      | op => some (.dry (.bin op x y))
    | _, _ => none
  | .unOp op _ x =>
    match op, ofOperand x with
    | .not, some x => some (.dry (.not x))
    | .neg, some x => some (.dry (.neg x))
    | .xor, some x => some (.dry (.xor x))
    | _, _ => none
  | .convert src dst x =>
    match P.underlying src, P.underlying dst, ofOperand x with
    | some _, some (.int k), some x => some (.dry (.conv k x))
    | some .string, some .string, some x => some (.dry (.strsl x none none))
    | some (.slice e), some .string, some x => match P.underlying e with | some (.int .u8) => some (.wet (.b2s x)) | _ => none
    | _, _, _ => none
  | .makeInterface t x => match P.underlying t, ofOperand x with | some (.interface _), _ => none | some _, some x => some (.dry (.mkifc t x)) | _, _ => none
  | .makeFunc (.func f) a b => match ofOperands a.toList, ofOperands b.toList with | some a, some b => some (.dry (.mkfn f a b)) | _, _ => none
  | .makeMap _ none => some (.wet .mkmap)
  | .makeMap t (some (.const (.int _ _))) => match P.underlying t with | some (.map _ _) => some (.wet .mkmap) | _ => none
  | .makeSlice t l c =>
    match P.underlying t, ofOperand l, ofOperand c with
    | some (.slice e), some l, some c =>
      match sizeT P e, bytesT P e, zeroT P e with
      | some sz, some by_, some z => if (flat z).length = sz then some (.wet (.mksl sz by_ (flat z) l c)) else none
      | _, _, _ => none
    | _, _, _ => none
  | .slice t x lo hi none =>
    match P.underlying t, ofOperand x, ofOpt lo, ofOpt hi with
    | some .string, some x, some lo, some hi => some (.dry (.strsl x lo hi))
    | some (.slice e), some x, some lo, some hi => match sizeT P e with | some sz => some (.wet (.slice sz x lo hi)) | none => none
    | some (.array n e), some x, some lo, some hi => match sizeT P e with | some sz => some (.wet (.aslice n sz x lo hi)) | none => none
    | _, _, _, _ => none
  | .fieldAddr t x f =>
    match P.underlying t, ofOperand x with
    | some (.struct fs), some x => match fieldAt P fs f with | some (o, n + 1, a) => some (.dry (.faddr o (n + 1) a x)) | _ => none
    | _, _ => none
  | .field t x f =>
    match P.underlying t, ofOperand x with
    | some (.struct fs), some x => match fieldAt P fs f with | some (o, n, a) => some (.dry (.fld o n a x)) | _ => none
    | _, _ => none
  | .indexAddr t x i =>
    match P.underlying t, ofOperand x, ofOperand i with
    | some (.slice e), some x, some i => match sizeT P e with | some sz => some (.dry (.iaddr sz x i)) | none => none
    | some (.array n e), some x, some i => match sizeT P e, aggT P e with | some sz, some a => some (.dry (.aaddr n sz a x i)) | _, _ => none
    | _, _, _ => none
  | .index t x i =>
    match P.underlying t, ofOperand x, ofOperand i with
    | some .string, some x, some i => some (.dry (.sidx x i))
    | some (.array n e), some x, some i => match sizeT P e, aggT P e with | some sz, some a => some (.dry (.aidx n sz a x i)) | _, _ => none
    | _, _, _ => none
  | .lookup t m k ok =>
    match P.underlying t, ofOperand m, ofOperand k with
    | some (.map kt e), some m, some k => match zeroT P e, primT P kt with | some z, some pk => some (.wet (.lookup pk z ok m k)) | _, _ => none
    | _, _, _ => none
  | .mapUpdate t m k v | .insert t m k v =>
    match P.underlying t, ofOperand m, ofOperand k, ofOperand v with
    | some (.map kt _), some m, some k, some v => (primT P kt).map fun pk => .wet (.mapset pk m k v)
    | _, _, _, _ => none
  | .extract x i => (ofOperand x).map fun x => .dry (.extract x i)
  | .typeAssert x _ t ok =>
    match P.underlying t, ofOperand x, zeroT P t with
    | some (.interface _), _, _ => none
    | some _, some x, some z => some (.dry (if ok then .assertok t z x else .assert t x))
    | _, _, _ => none
  | .call { callee := .builtin b, args, argTypes } => ofBuiltin P b argTypes.toList args.toList
  | .call { callee := .value f, args, .. } => ofCallee f args.toList
  | .defer { callee := .value f, args, .. } => match ofOperand f, ofOperands args.toList with | some f, some args => some (.defer f args) | _, _ => none
  | .panic x => (ofOperand x).map .panic
  | _ => none

def ofOper (ops : Array Oper) (o : Oper) : Option EOper :=
  match o.guard with
  | none => some ⟨o.dst, (ofOp P o.op).getD .stuck, none⟩
  | some (j, w) => match (ops[j]?).bind (·.dst) with | some t => some ⟨o.dst, (ofOp P o.op).getD .stuck, some (t, w)⟩ | none => none
def ofOpers (ops : Array Oper) : List Oper → Option (List EOper)
  | [] => some []
  | o :: r => match ofOper P ops o, ofOpers ops r with | some o, some r => some (o :: r) | _, _ => none
end

/-! ### Regions whose order is open -/
def EOp.wetty : EOp → Bool
  | .dry _ => false
  | _ => true
def Eo.tmps : Eo → List Nat
  | .t i => [i]
  | _ => []
def optTmps : Option Eo → List Nat
  | some x => x.tmps
  | none => []
def Dry.tmps : Dry → List Nat
  | .mov x | .nilchk x | .not x | .neg x | .xor x | .conv _ x | .mkifc _ x | .faddr _ _ _ x | .fld _ _ _ x | .extract x _ | .len x | .slen x | .assert _ x | .assertok _ _ x => x.tmps
  | .pick c a b => c.tmps ++ a.tmps ++ b.tmps
  | .build _ ps => ps.flatMap fun p => p.2.2.tmps
  | .bin _ x y | .eq _ _ x y | .iaddr _ x y | .aaddr _ _ _ x y | .aidx _ _ _ x y | .sidx x y => x.tmps ++ y.tmps
  | .mkfn _ a b => a.flatMap Eo.tmps ++ b.flatMap Eo.tmps
  | .strsl x l h => x.tmps ++ optTmps l ++ optTmps h
  | .mm _ xs => xs.flatMap Eo.tmps
def Wet.tmps : Wet → List Nat
  | .alloc _ _ _ | .mkmap => []
  | .box _ x | .load _ _ x | .mlen x | .b2s x => x.tmps
  | .bsl _ _ _ ps => ps.flatMap fun p => p.2.tmps
  | .clr _ _ x => x.tmps
  | .store _ x y | .mksl _ _ _ x y | .lookup _ _ _ x y | .append _ _ _ x y | .appz _ _ _ x y | .copy _ x y => x.tmps ++ y.tmps
  | .aslice _ _ x l h | .slice _ x l h => x.tmps ++ optTmps l ++ optTmps h
  | .mapset _ x y z => x.tmps ++ y.tmps ++ z.tmps
def EOp.tmps : EOp → List Nat
  | .dry d => d.tmps
  | .wet d => d.tmps
  | .call f xs | .defer f xs => f.tmps ++ xs.flatMap Eo.tmps
  | .panic x => x.tmps
  | .recover | .stuck => []
/-- The places that an operation looks at, its guard's too. -/
def EOper.uses (o : EOper) : List Nat := (match o.guard with | some (t, _) => [t] | none => []) ++ o.op.tmps

/-- Of each operation, as bits, which ones are always done ahead of it. -/
def befores : List Oper → List Nat → List Nat
  | [], acc => acc
  | o :: r, acc =>
    befores r (acc ++ [o.after.toList.foldl (fun m e => if Region.binds .any e then m ||| 2 ^ e.on ||| acc.getD e.on 0 else m) 0])
def comparable (ms : List Nat) (i j : Nat) : Bool := i == j || (ms.getD i 0).testBit j || (ms.getD j 0).testBit i
/-- Places: each is written once at most, and whoever looks at it is done on one side of that. -/
def placesOk (ops : Array Oper) (ms : List Nat) : Bool :=
  (ops.toList.zipIdx).all fun (o, i) =>
    match o.dst with
    | none => true
    | some d => (ops.toList.zipIdx).all fun (u, j) => i == j || ((u.dst != some d) && (!(u.looksAt ops).contains d || comparable ms i j))
/-- What is done ahead of an operation stands ahead of it; and the evaluator looks at no more places than the model. -/
def edgesOk (ops : Array Oper) (es : List EOper) : Bool :=
  (ops.toList.zipIdx.all fun (o, i) => o.after.toList.all fun e => !Region.binds .any e || Nat.blt e.on i) &&
  (es.zip ops.toList).all fun (e, o) => e.uses.all fun t => (o.looksAt ops).contains t
def ofDraw (es : List EOper) (ms : List Nat) : List (EOper × Nat × Bool) :=
  es.zipIdx.map fun (o, i) => (o, ms.getD i 0, o.op.wetty && (es.zipIdx).all fun (u, j) => !u.op.wetty || comparable ms i j)

def ofCode (P : Program) : Code → Option ECode
  | .skip => some .skip
  | .region _ ops draw =>
    match ofOpers P ops ops.toList with
    | none => none
    | some es =>
      match draw with
      | false => some (.reg es)
      | true =>
        let ms := befores ops.toList []
        if placesOk ops ms && edgesOk ops es && es.all (fun o => match o.op with | .defer _ _ | .panic _ | .recover => false | _ => true) then some (.draw (ofDraw es ms)) else some .stuck
  | .seq a b => match ofCode P a, ofCode P b with | some a, some b => some (.seq a b) | _, _ => none
  | .cond c a b => match ofOperand c, ofCode P a, ofCode P b with | some c, some a, some b => some (.cond c a b) | _, _, _ => none
  | .block id b => (ofCode P b).map (.block id)
  | .loop b => (ofCode P b).map .loop
  | .scope b => (ofCode P b).map .scope
  | .label l => some (.label l)
  | .goto l => some (.goto l)
  | .exit id => some (.exit id)
  | .ret => some .ret
  | .rangeFunc _ _ _ _ => some .stuck
  | .refuse _ => some .stuck
def ofRes (P : Program) : List ResultVar → Option (List ERes)
  | [] => some []
  | .tmp t :: r => (ofRes P r).map (.tmp t :: ·)
  | .cell a t :: r => match sizeT P t, aggT P t, ofRes P r with | some n, some g, some r => some (.cell a n g :: r) | _, _, _ => none
/-- The type strings.Builder, and that of its bytes. -/
def ownT (P : Program) (f : Func) : Option (TypeId × TypeId) :=
  match f.params.toList with
  | [t] =>
    match P.underlying t with
    | some (.pointer e) =>
      match P.underlying e with
      | some (.struct fs) =>
        match fs[1]? with
        | some x => match P.underlying x.type with | some (.slice b) => some (e, b) | _ => none
        | none => none
      | _ => none
    | _ => none
  | _ => none
def ofFunc (P : Program) (pure : Bool) (f : Func) : Option EFunc :=
  if f.name = "(*strings.Builder).copyCheck" then (ownT P f).map fun x => { own := some (.check x.1), body := .skip, res := [], ntmps := 0, pure := false } else
  if f.name = "(*strings.Builder).String" then (ownT P f).map fun x => { own := some (.text x.2), body := .skip, res := [], ntmps := 0, pure := false } else
  match f.body.bind (ofCode P), ofRes P f.results.toList with
  | some c, some r => some { body := c, res := r, ntmps := f.ntmps, pure := pure }
  | _, _ => none

end Go.Ev
