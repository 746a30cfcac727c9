/- What a claim reads of its arguments, as the evaluator's values. -/
import Derived.Test.YtkakihmhmobgoaaGreatDoorXevZd
import GoSem.ClaimChange
namespace Go.Ev

section
variable {H : Type}
/-- An element's cells as one value. -/
def packed (g : Bool) (cs : List AV) : AV := match g, cs with | false, [c] => c | _, cs => .agg cs
def eachM (f : DataW H → Option (List AV)) : List (DataW H) → Option (List (List AV))
  | [] => some []
  | d :: r => match f d, eachM f r with | some c, some cs => some (c :: cs) | _, _ => none
def fieldsM (P : Program) (f : TypeId → DataW H → Option (List AV)) : Nat → List Field → List (DataW H) → Option (List AV)
  | _, [], [] => some []
  | o, x :: fs, d :: ds =>
    match sizeT P x.type, f x.type d with
    | some sz, some c => if x.offset = o ∧ c.length = sz then (fieldsM P f (o + sz) fs ds).map (c ++ ·) else none
    | _, _ => none
  | _, _, _ => none
/-- The cells of a datum of a type: plain things, pointers, slices, structs. -/
def avs (P : Program) : Nat → TypeId → DataW H → Option (List AV)
  | 0, _, _ => none
  | n + 1, t, d =>
    match P.underlying t, d with
    | some .bool, .lit (.bool b) => some [.bool b]
    | some (.int k), .lit (.int _ m) => some [.int k m]
    | some .string, .lit (.string l) => some [.str (l.map (·.toNat))]
    | some (.pointer _), .nil => some [.nilp]
    | some (.slice _), .nil => some [.nils]
    | some (.slice e), .slice elems _ =>
      match sizeT P e, eachM (avs P n e) elems with
      | some sz, some es => if 0 < sz ∧ (es.all fun c => Nat.beq c.length sz && c.all AV.cellOk) = true then some [.lst (es.map fun c => packed (!Nat.beq sz 1) c)] else none
      | _, _ => none
    | some (.struct fs), .agg parts => match sizeT P t, fieldsM P (avs P n) 0 fs.toList parts with | some sz, some as => if as.length = sz then some as else none | _, _ => none
    | _, _ => none
end
end Go.Ev
