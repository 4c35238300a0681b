/-
  The abstract machine, part 2: what it knows of a type.
-/
import Derived.Test.YtinckcpmkocakaaAmBase
set_option linter.unusedVariables false
namespace Go.Proofs.Ytinckcpmkocakaa.AM
open Go

inductive TK where
  | bool | int (k : IntKind) | str | slice (e : Nat) | arr (n e : Nat) | struct (fs : List (Nat × Nat)) | ptr (e : Nat) | fn | map | iface | other
structure TD where
  k : TK
  size : Nat
  bytes : Nat
  zero : List D

/-- A constant. -/
def constD1 : Value → D
  | .bool b => .lit b
  | .int k n => .v (.int k n)
  | .string s => .v (.str s.data.toList)
  | .slice none 0 0 => .nils
  | .pointer none => .v .nilp
  | .nilFunc => .v .nilfn
  | .nilIface => .v .nilif
  | .map none => .v .nilmap
  | .func (.func f) first cap => match first.toList, cap.toList with
    | [], [] => .fn f []
    | _, _ => .any
  | _ => .any
def constD : Value → D
  | .agg cs => if cs.toList.all (·.oneCell') then .agg (cs.toList.map constD1) else .any
  | v => constD1 v

def tkOf (P : Program) (t : Nat) : TK :=
  match P.underlying t with
  | some .bool => .bool
  | some (.int k) => .int k
  | some .string => .str
  | some (.slice e) => .slice e
  | some (.array n e) => .arr n e
  | some (.struct fs) => .struct (fs.toList.map fun f => (f.offset, f.type))
  | some (.pointer e) => .ptr e
  | some (.func ..) => .fn
  | some (.map ..) => .map
  | some (.interface _) => .iface
  | _ => .other
def tdOf (P : Program) (t : Nat) : Option TD :=
  match P.info? t with
  | some i => match i.zero with
    | some z => if z.cells.toList.all (·.oneCell') then if z.cells.size = i.size then some ⟨tkOf P t, i.size, i.bytes, z.cells.toList.map constD1⟩ else none else none
    | none => none
  | none => none
/-- The table of types, by number. -/
def tableOf (P : Program) : List (Option TD) := (List.range P.types.size).map (tdOf P)

def look? {α : Type} : List α → Nat → Option α
  | [], _ => none
  | x :: _, 0 => some x
  | _ :: r, n + 1 => look? r n
end Go.Proofs.Ytinckcpmkocakaa.AM
