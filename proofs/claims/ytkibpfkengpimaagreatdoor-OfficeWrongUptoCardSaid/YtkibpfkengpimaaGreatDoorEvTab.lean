/-
  A part of a verified evaluator of the model's code, or of its use at this seat; see the text YtkibpfkengpimaaGreatDoorEvCard.
-/
import Derived.Test.YtkibpfkengpimaaGreatDoorEvDef
noncomputable section
namespace Go.Ev
/-- A list of kinds that has as many as a type has cells. -/
def fitT (P : Program) (t : TypeId) (l : List CK) : Option (List CK) := bif Nat.beq (P.cellsOf t) l.length then some l else none
/-- The kinds of a struct's fields, each lying behind the one before it. -/
def flatFs (f : TypeId → Option (List CK)) : List Field → Nat → Option (List CK)
  | [], _ => some []
  | x :: r, o => bif Nat.beq x.offset o && x.name != "_" then (match f x.type with
      | some l => match flatFs f r (o + l.length) with
        | some m => some (l ++ m)
        | none => none
      | none => none) else none
def repL (l : List CK) : Nat → List CK
  | 0 => []
  | n + 1 => l ++ repL l n
/-- The kinds of the cells of a plain type. -/
def flatT (P : Program) : Nat → TypeId → Option (List CK)
  | 0, _ => none
  | d + 1, t => match P.underlying t with
    | some .bool => fitT P t [.bool]
    | some (.int k) => fitT P t [.int k]
    | some .string => fitT P t [.str]
    | some (.struct fs) => bif P.stoodInHeld t then none else (match flatFs (flatT P d) fs.toList 0 with
      | some l => fitT P t l
      | none => none)
    | some (.array n e) => match flatT P d e with
      | some l => fitT P t (repL l n)
      | none => none
    | _ => none
def mkTK : TypeDesc → TK
  | .bool => .bool | .int k => .int k | .string => .str | .pointer e => .ptr e | .slice e => .slice e | .array n e => .arr n e | .map k e => .map k e
  | .struct fs => .struct (fs.toList.map fun f => (f.offset, f.type)) | .func .. => .func | .interface _ => .iface | _ => .other
/-- Of a struct: each field's type is known. -/
def knownT (P : Program) : TypeDesc → Bool
  | .struct fs => fs.toList.all fun f => (P.info? f.type).isSome
  | _ => true
/-- The zero value is of the type's make. -/
def zeroFits : TypeDesc → Value → Bool
  | .struct _, .agg _ | .array _ _, .agg _ => true
  | .struct _, _ | .array _ _, _ => false
  | _, .agg _ => false
  | _, _ => true
def mkTI (P : Program) (t : TypeId) : Option TI :=
  match P.info? t, P.underlying t with
  | some i, some d => match i.zero with
    | some z => match mapA (constA 8) z.cells.toList with
      | some zs => bif zs.all AV.flat && Nat.beq zs.length i.size && knownT P d && zeroFits d z then some { kind := mkTK d, size := i.size, bytes := i.bytes, zero := zs, flat := flatT P 50 t } else none
      | none => none
    | none => none
  | _, _ => none
end Go.Ev
end
