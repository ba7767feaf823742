/-
  A part of a verified evaluator of the model's code, or of its use at this seat; see the text YtkibpfkengpimaaGreatDoorEvCard.
-/
import Derived.Test.YtkibpfkengpimaaGreatDoorEvTab
noncomputable section
namespace Go.Ev
/-! Functions of Go's library that have no Go text. -/
/-- The bytes of a string, or of a slice of bytes. -/
def bytesA (s : St) : AV → Option (List Nat)
  | .str l => bif known l then some l else none
  | .nilSlice => some []
  | .slice b o n _ => bif Nat.beq n 0 then some [] else (match s.elems 1 b o n with | some rows => codesOf rows | none => none)
  | _ => none
def findC (c : Nat) : List Nat → Nat → Option Nat
  | [], _ => none
  | x :: r, i => bif Nat.beq x c then some i else findC c r (i + 1)
def extIndexByte : List AV → St → Option AV
  | [x, .int .u8 (.ofNat c)], s => bif Nat.ble c 255 then (match bytesA s x with
    | some l => some (match findC c l 0 with | some i => .int .i64 (.ofNat i) | none => .int .i64 (.negSucc 0))
    | none => none) else none
  | _, _ => none
def countC (c : Nat) : List Nat → Nat → Nat
  | [], n => n
  | x :: r, n => countC c r (bif Nat.beq x c then n + 1 else n)
def extCount : List AV → St → Option AV
  | [x, .int .u8 (.ofNat c)], s => bif Nat.ble c 255 then (match bytesA s x with
    | some l => some (.int .i64 (.ofNat (countC c l 0)))
    | none => none) else none
  | _, _ => none
/-! Functions that are told. -/
def textsA : List (List AV) → Option (List (List Nat))
  | [] => some []
  | [.str l] :: r => (match textsA r with | some m => some (l :: m) | none => none)
  | _ => none
def joinL (sep : List Nat) : List (List Nat) → List Nat
  | [] => []
  | [x] => x
  | x :: r => x ++ (sep ++ joinL sep r)
/-- strings.Join. -/
def tellJoin : List AV → St → Option (AV × St)
  | [.nilSlice, .str _], s => some (.str [], s)
  | [.slice b o n _, .str sep], s => bif Nat.beq n 0 then some (.str [], s) else (match s.elems 1 b o n with
    | some rows => match textsA rows with
      | some l => bif Nat.ble (joinL sep l).length 1048576 && Nat.ble n 1048576 then some (.str (joinL sep l), s) else none
      | none => none
    | none => none)
  | _, _ => none
end Go.Ev
namespace Go.Ev
def insL (x : List Nat) : List (List Nat) → List (List Nat)
  | [] => [x]
  | y :: r => bif strLt x y then x :: y :: r else y :: insL x r
def keysA : List (AV × AV × Nat) → Option (List (List Nat))
  | [] => some []
  | (.str k, _, _) :: r => bif known k && Nat.ble k.length 1048576 then (match keysA r with | some l => some (insL k l) | none => none) else none
  | _ => none
def lessAll (x : List Nat) : List (List Nat) → Bool
  | [] => true
  | y :: r => bif strLt x y then lessAll x r else false
def ascA : List (List Nat) → Bool
  | [] => true
  | x :: r => bif lessAll x r then ascA r else false
/-- When the entries were born: one behind the other, all before the clock. -/
def ascN (clock : Nat) : Nat → List (AV × AV × Nat) → Bool
  | _, [] => true
  | lo, (_, _, n) :: r => bif Nat.ble lo n && Nat.ble (n + 1) clock then ascN clock (n + 1) r else false
def keysUp (clock : Nat) (es : List (AV × AV × Nat)) : Option (List (List Nat)) :=
  match keysA es with
  | some (k :: ks) => bif ascA (k :: ks) && ascN clock 0 es && Nat.ble es.length 1048576 then some (k :: ks) else none
  | _ => none
/-- The names of an office, in order: e is the type of strings. -/
def tellNames (e : TypeId) : List AV → St → Option (AV × St)
  | [.ptr b o], s => match s.rd b o 2 with
    | some [.ptr _ _, .map m] => match s.heap.get m with
      | some (.map es clock) => match keysUp clock es with
        | some ks => some (.slice s.nx 0 ks.length 1, s.newRow e 1 true (ks.map fun k => [.str k]))
        | none => none
      | _ => none
    | _ => none
  | _, _ => none
end Go.Ev
end
