/-
 The abstract machine, part 2: its operations, as a predicate transformer that 'cbv' computes. What is about symbolic data stands behind a record 'Prim'; 'std' is what it means.
-/
import Derived.Test.YthioccbgjkbmdaaGreatM01076ba6bf
set_option linter.unusedVariables false
set_option linter.unusedSimpArgs false
namespace Go.Proofs.YthioccbgjkbmdaaGreat.AM
open Go Go.RowKit
def tyOf (t : Nat) : TD :=
 match look? T t with
 | some (some d) => d
 | _ => ⟨.other, 0, 0, []⟩
inductive AExit where
 | normal
 | exit (id : Nat)
 | ret
def Subs : List V → List V → Prop
 | [], [] => True
 | x :: r, y :: s => (y = x ∨ (x = .nils ∧ y = .slice []) ∨ ∃ l, x = .xs l ∧ y = .slice l) ∧ Subs r s
 | _, _ => False
structure Prim where
 wrap : IntKind → Int → Int
 add : Int → Int → Int
 sub : Int → Int → Int
 mul : Int → Int → Int
 tdiv : Int → Int → Int
 tmod : Int → Int → Int
 shl : IntKind → Int → Int → Int
 shr : IntKind → Int → Int → Int
 bits : BinOp → IntKind → Int → Int → Int
 inot : IntKind → Int → Int
 imin : Int → Int → Int
 imax : Int → Int → Int
 ieq : Int → Int → Bool
 ine : Int → Int → Bool
 ilt : Int → Int → Bool
 ile : Int → Int → Bool
 seq : List UInt8 → List UInt8 → Bool
 sne : List UInt8 → List UInt8 → Bool
 slt : List UInt8 → List UInt8 → Bool
 sle : List UInt8 → List UInt8 → Bool
 beq : Bool → Bool → Bool
 not : Bool → Bool
 cat : List UInt8 → List UInt8 → List UInt8
 lenS : List UInt8 → Int
 lenL : List V → Int
 app : List V → List V → List V
 s2b : List UInt8 → List V
 repl : Int → V → List V
 setL : List V → Int → V → List V
 -- tests and obligations
 cond : Bool → (Bool → Prop) → Prop
 nz : Int → (Unit → Prop) → Prop
 nneg : Int → (Unit → Prop) → Prop
 inR : Int → List V → (Unit → Prop) → Prop
 catOk : List UInt8 → List UInt8 → (Unit → Prop) → Prop
 sized : List V → Nat → (Unit → Prop) → Prop
 isLen : List V → Nat → (Unit → Prop) → Prop
 room : List V → List V → Nat → (Unit → Prop) → Prop
 mkS : Int → Int → Nat → (Unit → Prop) → Prop
 getI : IntKind → List V → Int → (Int → Prop) → Prop
 getX : List V → Int → (V → Prop) → Prop
 getA : Nat → List V → Int → (List V → Prop) → Prop
 getC : List UInt8 → Int → (Int → Prop) → Prop
 subS : List UInt8 → Int → Int → (List UInt8 → Prop) → Prop
 subL : List V → Int → Int → (List V → Prop) → Prop
 b2s : List V → (List UInt8 → Prop) → Prop
 nilq : List V → (D → Prop) → Prop
 eqA : Nat → List V → List V → (Bool → Prop) → Prop
 call : Nat → List V → Option GH → (List Rs → Option GH → Prop) → Prop
 -- the common heap: what only reads; what changes it; what answers one of many
 gq : Op → List V → GH → (V → Prop) → Prop
 gop : Oper → List V → GH → (V → GH → Prop) → Prop
 gopN : Oper → List V → GH → (V → GH → Prop) → Prop
 gsl : GH → Nat → Nat → Int → (List V → Prop) → Prop
 chk : (Unit → Bool) → (Unit → Prop) → Prop
 -- a state that tells less
 weak : St → (St → Prop) → Prop
 loop : ((AExit → St → Prop) → St → Prop) → (AExit → St → Prop) → St → Prop
 ret : List (Nat × AObj) → List D → Prop
 -- a call that only looks at the common heap
 callH : Nat → List V → GH → (List Rs → Prop) → Prop
def keq : IntKind → IntKind → Bool
 | .i8, .i8 | .i16, .i16 | .i32, .i32 | .i64, .i64 | .u8, .u8 | .u16, .u16 | .u32, .u32 | .u64, .u64 => true
 | _, _ => false
section
variable (A : Prim)
def intD (op : BinOp) (k : IntKind) (a b : Int) (K : D → Prop) : Prop :=
 match op with
 | .add => K (.v (.int k (A.wrap k (A.add a b))))
 | .sub => K (.v (.int k (A.wrap k (A.sub a b))))
 | .mul => K (.v (.int k (A.wrap k (A.mul a b))))
 | .quo => A.nz b fun _ => K (.v (.int k (A.wrap k (A.tdiv a b))))
 | .rem => A.nz b fun _ => K (.v (.int k (A.tmod a b)))
 | .and => K (.v (.int k (A.bits .and k a b)))
 | .or => K (.v (.int k (A.bits .or k a b)))
 | .xor => K (.v (.int k (A.bits .xor k a b)))
 | .andNot => K (.v (.int k (A.bits .andNot k a b)))
 | .eql => K (.v (.bool (A.ieq a b)))
 | .neq => K (.v (.bool (A.ine a b)))
 | .lss => K (.v (.bool (A.ilt a b)))
 | .leq => K (.v (.bool (A.ile a b)))
 | .gtr => K (.v (.bool (A.ilt b a)))
 | .geq => K (.v (.bool (A.ile b a)))
 | .shl => A.nneg b fun _ => K (.v (.int k (A.shl k a b)))
 | .shr => A.nneg b fun _ => K (.v (.int k (A.shr k a b)))
def strD (op : BinOp) (a b : List UInt8) (K : D → Prop) : Prop :=
 match op with
 | .add => A.catOk a b fun _ => K (.v (.str (A.cat a b)))
 | .eql => K (.v (.bool (A.seq a b)))
 | .neq => K (.v (.bool (A.sne a b)))
 | .lss => K (.v (.bool (A.slt a b)))
 | .leq => K (.v (.bool (A.sle a b)))
 | .gtr => K (.v (.bool (A.slt b a)))
 | .geq => K (.v (.bool (A.sle b a)))
 | _ => False
def notD : D → D
 | .ub => .ub
 | .lit b => .lit (!b)
 | .v (.bool b) => .v (.bool (A.not b))
 | _ => .any
def isShift : BinOp → Bool
 | .shl | .shr => true
 | _ => false
def rowOf (ob : List (Nat × AObj)) (id : Nat) : Option (Nat × List V × Bool) :=
 match look ob id with
 | some (.row z l ex) => some (z, l, ex)
 | _ => none
mutual
def toV (ob : List (Nat × AObj)) : D → Option V
 | .any => none
 | .ub => none
 | .lit b => some (.bool b)
 | .v x => some x
 | .nils => some (.slice [])
 | .agg l => match toVs ob l with
  | some r => some (.agg r)
  | none => none
 | .tup l => match toVs ob l with
  | some r => some (.tup r)
  | none => none
 | .ptr id off => match look ob id with
  | some (.cbox l) => some (.ref (l.drop off))
  | _ => none
 | .own id => match look ob id with
  | some (.row _ l ex) => match ex with
   | false => some (.slice l)
   | true => none
  | _ => none
 | .rptr _ _ _ _ => none
 | .fn f cap => match toVs ob cap with
  | some r => some (.clo f r)
  | none => none
def toVs (ob : List (Nat × AObj)) : List D → Option (List V)
 | [] => some []
 | d :: r => match toV ob d with
  | some x => match toVs ob r with
   | some y => some (x :: y)
   | none => none
  | none => none
end
def toVa (ob : List (Nat × AObj)) : D → Option V
 | .nils => some .nils
 | d => toV ob d
def toVas (ob : List (Nat × AObj)) : List D → Option (List V)
 | [] => some []
 | d :: r => match toVa ob d with
  | some x => match toVas ob r with
   | some y => some (x :: y)
   | none => none
  | none => none
def toVg (ob : List (Nat × AObj)) : D → Option V
 | .agg l => match toVas ob l with
  | some r => some (.agg r)
  | none => none
 | d => toVa ob d
def toVgs (ob : List (Nat × AObj)) : List D → Option (List V)
 | [] => some []
 | d :: r => match toVg ob d with
  | some x => match toVgs ob r with
   | some y => some (x :: y)
   | none => none
  | none => none
def eqD (t : Nat) (ob : List (Nat × AObj)) (x y : D) (K : D → Prop) : Prop :=
 match (tyOf t).k with
 | .bool => match x, y with
  | .lit a, .lit b => K (.lit (a == b))
  | .lit a, .v (.bool b) => K (.v (.bool (A.beq a b)))
  | .v (.bool a), .lit b => K (.v (.bool (A.beq a b)))
  | .v (.bool a), .v (.bool b) => K (.v (.bool (A.beq a b)))
  | _, _ => False
 | .ptr _ => match x, y with
  | .v .nilp, .v .nilp => K (.lit true)
  | .ptr _ _, .v .nilp => K (.lit false)
  | .v .nilp, .ptr _ _ => K (.lit false)
  | .v (.ref _), .v .nilp => K (.lit false)
  | .v (.gp _ _), .v .nilp => K (.lit false)
  | .v .nilp, .v (.gp _ _) => K (.lit false)
  | _, _ => False
 | .slice _ => match x, y with
  | .nils, .nils => K (.lit true)
  | .v .nils, .nils => K (.lit true)
  | .own id, .nils => match rowOf ob id with
   | some (_, l, _) => A.nilq l K
   | none => False
  | .v (.slice l), .nils => A.nilq l K
  | _, _ => False
 | .fn => match x, y with
  | .v .nilfn, .v .nilfn => K (.lit true)
  | .fn _ _, .v .nilfn => K (.lit false)
  | .v (.clo _ _), .v .nilfn => K (.lit false)
  | .v (.mth _ _), .v .nilfn => K (.lit false)
  | _, _ => False
 | .struct _ => match toV ob x with
  | some (.agg a) => match toV ob y with
   | some (.agg b) => A.eqA t a b fun c => K (.v (.bool c))
   | _ => False
  | _ => False
 | _ => False
def zeroV (zero : List D) : Option V :=
 match toVs [] zero with
 | some [x] => if x.cell then some x else none
 | some l => if l.all V.cell then some (.agg l) else none
 | none => none
def cellsD : D → Option (List D)
 | .any => none
 | .ub => none
 | .tup _ => none
 | .v (.tup _) => none
 | .agg l => some l
 | .v (.agg l) => some (l.map .v)
 | d => some [d]
def cutD (l : List D) (off n : Nat) : List D := (l.drop off).take n
def known : TK → Bool
 | .other => false
 | _ => true
def isAggT : TK → Bool
 | .struct _ => true
 | .arr _ _ => true
 | _ => false
def elemD (td : TD) (l : List V) (i : Int) (K : V → Prop) : Prop :=
 match td.k with
 | .int k => A.getI k l i fun n => K (.int k n)
 | .struct _ => A.getA td.size l i fun cs => K (.agg cs)
 | .arr _ _ => A.getA td.size l i fun cs => K (.agg cs)
 | _ => A.getX l i fun x => K x
def elemRef (td : TD) (l : List V) (i : Int) (K : D → Prop) : Prop :=
 match td.k with
 | .int k => if td.size = 1 then A.getI k l i fun n => K (.v (.ref [.int k n])) else False
 | .struct _ => A.getA td.size l i fun cs => K (.v (.ref cs))
 | .arr _ _ => A.getA td.size l i fun cs => K (.v (.ref cs))
 | _ => if td.size = 1 then A.getX l i fun x => K (.v (.ref [x])) else False
def loadD (td : TD) (ob : List (Nat × AObj)) (x : D) (K : D → Prop) : Prop :=
 match x with
 | .ptr id off => match look ob id with
  | some (.box l) => match isAggT td.k with
   | true => if off + td.size ≤ l.length then K (.agg (cutD l off td.size)) else False
   | false => match look? l off with
    | some d => K d
    | none => False
  | some (.cbox l) => match isAggT td.k with
   | true => if off + td.size ≤ l.length then K (.v (.agg ((l.drop off).take td.size))) else False
   | false => match look? l off with
    | some d => K (.v d)
    | none => False
  | some (.row z l _) => match td.k, z, off with
   | .arr n e, 1, 0 => if td.size = n then A.isLen l n fun _ => K (.v (.agg l)) else False
   | _, _, _ => False
  | _ => False
 | .rptr id z i off => match look ob id with
  | some (.row z' l _) => if z = z' then match isAggT td.k with
   | true => if off = 0 then if td.size = z then elemD A td l i fun x => K (.v x) else False else False
   | false => if z = 1 then if off = 0 then elemD A td l i fun x => K (.v x) else False else
    A.getA z l i fun cs => match look? cs off with
     | some x => K (.v x)
     | none => False
   else False
  | _ => False
 | .v (.ref l) => match isAggT td.k with
  | true => if td.size ≤ l.length then K (.v (.agg (l.take td.size))) else False
  | false => match look? l 0 with
   | some x => K (.v x)
   | none => False
 | _ => False
def fieldOf (td : TD) (f : Nat) : Option (Nat × Nat) :=
 match td.k with
 | .struct fs => look? fs f
 | _ => none
def layD (place : Nat → Option (Nat × Nat)) : List D → List (Nat × D) → Option (List D)
 | cs, [] => some cs
 | cs, (i, d) :: r => match place i with
  | some (off, size) => match cellsD d with
   | some l => if l.length = size then if off + size ≤ cs.length then layD place (cs.take off ++ l ++ cs.drop (off + size)) r else none else none
   | none => none
  | none => none
def allParts : Nat → List (Nat × D) → Option (List D)
 | _, [] => some []
 | k, (i, d) :: r => if i = k then match allParts (k + 1) r with
   | some l => some (d :: l)
   | none => none
  else none
def lenD (t : Nat) (ob : List (Nat × AObj)) (x : D) (K : D → Prop) : Prop :=
 match (tyOf t).k with
 | .str => match x with
  | .v (.str s) => K (.v (.int .i64 (A.lenS s)))
  | _ => False
 | .slice _ => match x with
  | .v (.slice l) => K (.v (.int .i64 (A.lenL l)))
  | .v .nils => K (.v (.int .i64 0))
  | .nils => K (.v (.int .i64 0))
  | .own id => match rowOf ob id with
   | some (_, l, _) => K (.v (.int .i64 (A.lenL l)))
   | none => False
  | _ => False
 | .arr n _ => K (.v (.int .i64 n))
 | _ => False
def minD (mx : Bool) : List D → (D → Prop) → Prop
 | [], _ => False
 | d :: r, K => go d r K
where
 go : D → List D → (D → Prop) → Prop
  | d, [], K => K d
  | .v (.int k a), .v (.int k' b) :: r, K => match keq k k' with
   | true => go (.v (.int k (match mx with | true => A.imax a b | false => A.imin a b))) r K
   | false => False
  | _, _, _ => False
def convD (sk dk : TK) (ek : TK) (same : Bool) (ob : List (Nat × AObj)) (x : D) (K : D → Prop) : Prop :=
 match sk, dk, x with
 | .int _, .int k, .v (.int _ n) => K (.v (.int k (A.wrap k n)))
 | .str, .str, .v (.str s) => K (.v (.str s))
 | .str, .slice _, .v (.str s) => match ek with
  | .int .u8 => A.catOk s [] fun _ => K (.v (.slice (A.s2b s)))
  | _ => False
 | .slice _, .str, x => match ek with
  | .int .u8 => match x with
   | .v (.slice l) => A.b2s l fun s => K (.v (.str s))
   | .nils => K (.v (.str []))
   | .own id => match rowOf ob id with
    | some (_, l, _) => A.b2s l fun s => K (.v (.str s))
    | none => False
   | _ => False
  | _ => False
 | _, _, _ => False
def intOfD : D → Option Int
 | .v (.int _ n) => some n
 | _ => none
def boundsD (lo hi : Option D) (len : Int) (K : Int → Int → Prop) : Prop :=
 match lo with
 | none => match hi with
  | none => K 0 len
  | some h => match intOfD h with
   | some h => K 0 h
   | none => False
 | some l => match intOfD l with
  | some l => match hi with
   | none => K l len
   | some h => match intOfD h with
    | some h => K l h
    | none => False
  | none => False
def sliceD (tk : TK) (ob : List (Nat × AObj)) (x : D) (lo hi mx : Option D) (K : D → Prop) : Prop :=
 match mx with
 | some _ => False
 | none => match x with
  | .v (.str s) => match tk with
   | .str => boundsD lo hi (A.lenS s) fun l h => A.subS s l h fun r => K (.v (.str r))
   | _ => False
  | .v (.slice s) => match tk with
   | .slice e => match known (tyOf e).k with
    | true => A.sized s (tyOf e).size fun _ => boundsD lo hi (A.lenL s) fun l h => A.subL s l h fun r => K (.v (.slice r))
    | false => False
   | _ => False
  | .nils => match tk with
   | .slice e => match known (tyOf e).k with
    | true => boundsD lo hi 0 fun l h => A.subL [] l h fun r => K (.v (.slice r))
    | false => False
   | _ => False
  | .own id => match tk with
   | .slice e => match known (tyOf e).k with
    | true => match look ob id with
     | some (.row _ s ex) => match ex with
      | false => A.sized s (tyOf e).size fun _ => boundsD lo hi (A.lenL s) fun l h => A.subL s l h fun r => K (.v (.slice r))
      | true => False
     | _ => False
    | false => False
   | _ => False
  | _ => False
def calleeD : D → Option (Nat × List D × List D)
 | .fn f cap => some (f, [], cap)
 | .v (.clo f cap) => some (f, [], cap.map .v)
 | .v (.mth f fst) => some (f, fst.map .v, [])
 | _ => none
def frozenRs : Rs → V
 | .v x => x
 | .o _ l => .slice l
def resV : List Rs → D
 | [r] => .v (frozenRs r)
 | rs => .tup (rs.map fun r => .v (frozenRs r))
def qWp (ob : List (Nat × AObj)) (ρ : Operand → D) (op : Op) (K : D → Prop) : Prop :=
 match op with
 | .move x => K (ρ x)
 | .assign x => K (ρ x)
 | .pick c a b => match ρ c with
  | .lit true => K (ρ a)
  | .lit false => K (ρ b)
  | .v (.bool t) => A.cond t fun c => match c with
   | true => K (ρ a)
   | false => K (ρ b)
  | _ => False
 | .nilCheck x => match ρ x with
  | .ptr id off => K (.ptr id off)
  | .rptr id z i off => K (.rptr id z i off)
  | .v (.ref l) => K (.v (.ref l))
  | .fn f cap => K (.fn f cap)
  | .v (.clo f cap) => K (.v (.clo f cap))
  | .v (.gp id off) => K (.v (.gp id off))
  | .v (.ge id z i off) => K (.v (.ge id z i off))
  | .v (.mth f fst) => K (.v (.mth f fst))
  | _ => False
 | .binOp op t x y _ => match ρ x, ρ y with
  | .v (.int k a), .v (.int k' b) => match isShift op with
   | true => intD A op k a b K
   | false => match keq k k' with
    | true => intD A op k a b K
    | false => False
  | .v (.str a), .v (.str b) => strD A op a b K
  | a, b => match op with
   | .eql => eqD A t ob a b K
   | .neq => eqD A t ob a b fun d => K (notD A d)
   | _ => False
 | .unOp op _ x => match op, ρ x with
  | .not, d => match d with
   | .lit b => K (.lit (!b))
   | .v (.bool b) => K (.v (.bool (A.not b)))
   | _ => False
  | .xor, .v (.int k n) => K (.v (.int k (A.inot k n)))
  | .neg, .v (.int k n) => K (.v (.int k (A.wrap k (A.sub 0 n))))
  | _, _ => False
 | .convert s d x => match (tyOf s).k, (tyOf d).k with
  | .slice _, .slice _ => False
  | .slice e, .str => convD A (.slice e) .str (tyOf e).k false ob (ρ x) K
  | .str, .slice e => convD A .str (.slice e) (tyOf e).k false ob (ρ x) K
  | a, b => convD A a b .other false ob (ρ x) K
 | .field t x f => match ρ x, fieldOf (tyOf t) f with
  | .agg l, some (off, ft) => if known (tyOf ft).k = false then False else match isAggT (tyOf ft).k with
   | true => if off + (tyOf ft).size ≤ l.length then K (.agg (cutD l off (tyOf ft).size)) else False
   | false => match look? l off with
    | some d => K d
    | none => False
  | .v (.agg l), some (off, ft) => if known (tyOf ft).k = false then False else match isAggT (tyOf ft).k with
   | true => if off + (tyOf ft).size ≤ l.length then K (.v (.agg ((l.drop off).take (tyOf ft).size))) else False
   | false => match look? l off with
    | some d => K (.v d)
    | none => False
  | _, _ => False
 | .fieldAddr t x f => match fieldOf (tyOf t) f with
  | some (off, ft) => if known (tyOf ft).k = false then False else if (tyOf ft).size = 0 then False else match ρ x with
   | .ptr id o => K (.ptr id (o + off))
   | .rptr id z i o => K (.rptr id z i (o + off))
   | .v (.ref l) => K (.v (.ref (l.drop off)))
   | .v (.gp id o) => K (.v (.gp id (o + off)))
   | .v (.ge id z i o) => K (.v (.ge id z i (o + off)))
   | _ => False
  | none => False
 | .indexAddr t x i => match intOfD (ρ i) with
  | some i => match (tyOf t).k with
   | .slice e => if known (tyOf e).k = false then False else match ρ x with
    | .v (.slice l) => elemRef A (tyOf e) l i K
    | .own id => match rowOf ob id with
     | some (z, l, _) => if z = (tyOf e).size then A.inR i l fun _ => K (.rptr id z i 0) else False
     | none => False
    | _ => False
   | .arr n e => if known (tyOf e).k = false then False else match ρ x with
    | .ptr id 0 => match rowOf ob id with
     | some (z, l, _) => if z = (tyOf e).size then A.inR i l fun _ => A.inR i (List.replicate n (.bool true)) fun _ => K (.rptr id z i 0) else False
     | none => False
    | _ => False
   | _ => False
  | none => False
 | .index t x i => match intOfD (ρ i) with
  | some i => match (tyOf t).k, ρ x with
   | .str, .v (.str s) => A.getC s i fun c => K (.v (.int .u8 c))
   | .arr n e, .v (.agg l) => match (tyOf e).k with
    | .int k => if (tyOf e).size = 1 then A.inR i (List.replicate n (.bool true)) fun _ => A.getI k l i fun m => K (.v (.int k m)) else False
    | _ => False
   | _, _ => False
  | none => False
 | .load t x => match known (tyOf t).k with
  | true => loadD A (tyOf t) ob (ρ x) K
  | false => False
 | .slice t x lo hi mx => sliceD A (tyOf t).k ob (ρ x) (lo.map ρ) (hi.map ρ) (mx.map ρ) K
 | .extract x i => match ρ x with
  | .tup l => match look? l i with
   | some d => K d
   | none => False
  | .v (.tup l) => match look? l i with
   | some d => K (.v d)
   | none => False
  | _ => False
 | .makeFunc fn first cap => match fn, first.toList with
  | .func f, [] => K (.fn f (cap.toList.map ρ))
  | .func f, x :: r => match cap.toList with
   | [] => match toVs ob (ρ x :: r.map ρ) with
    | some l => K (.v (.mth f l))
    | none => False
   | _ => False
  | _, _ => False
 | .makeInterface t x => match (tyOf t).k with
  | .iface => False
  | .other => False
  | _ => match toV ob (ρ x) with
   | some y => K (.v (.iface t y))
   | none => False
 | .build t parts => match (tyOf t).k with
  | .struct fs => if fs.all (fun p => known (tyOf p.2).k) = false then False else match layD (fun i => match look? fs i with
    | some (off, ft) => some (off, (tyOf ft).size)
    | none => none) (tyOf t).zero (parts.toList.map fun p => (p.1, ρ p.2)) with
   | some l => K (.agg l)
   | none => False
  | .arr n e => if known (tyOf e).k = false then False else if (tyOf e).size = 1 then if parts.size = n then if (tyOf t).size = n then match allParts 0 (parts.toList.map fun p => (p.1, ρ p.2)) with
    | some l => match toVs ob l with
     | some r => if r.all V.cell then K (.v (.agg r)) else False
     | none => False
    | none => False
    else False else False else False
  | _ => False
 | .buildSlice t n parts => match (tyOf t).k with
  | .slice e => if known (tyOf e).k = false then False else if n * (tyOf e).size ≤ 16777216 then if n ≤ 16777216 then if parts.size = n then match allParts 0 (parts.toList.map fun p => (p.1, ρ p.2)) with
   | some l => match toVs ob l with
    | some r => if r.all (fun x => x.flat.length == (tyOf e).size && x.flat.all V.cell) then K (.v (.slice r)) else False
    | none => False
   | none => False
   else False else False else False
  | _ => False
 | .makeSlice t l c => match (tyOf t).k with
  | .slice e => if known (tyOf e).k = false then False else match ρ l, ρ c, zeroV (tyOf e).zero with
   | .v (.int .i64 l), .v (.int .i64 c), some x => A.mkS l c (tyOf e).bytes fun _ => K (.v (.slice (A.repl l x)))
   | _, _, _ => False
  | _ => False
 | .call c => match c.callee with
  | .builtin b => match b, c.args.toList with
   | .len, [x] => match c.argTypes.toList with
    | [t] => lenD A t ob (ρ x) K
    | _ => False
   | .min, xs => minD A false (xs.map ρ) K
   | .max, xs => minD A true (xs.map ρ) K
   | _, _ => False
  | .value f => match calleeD (ρ f) with
   | some (g, fst, cap) => match toVas ob (fst ++ c.args.toList.map ρ ++ cap) with
    | some xs => A.call g xs none fun rs h => match h with
     | none => K (resV rs)
     | some _ => False
    | none => False
   | none => False
  | _ => False
 | _ => False
def heapOf (ob : List (Nat × AObj)) : Option (GH × List Nat) :=
 match look ob hk with
 | some (.heap gh pub) => some (gh, pub)
 | _ => none
def isGp : D → Bool
 | .v (.gp _ _) => true
 | .v (.ge _ _ _ _) => true
 | _ => false
def isGs : D → Bool
 | .v (.gs _ _) => true
 | .v (.gm _) => true
 | .v (.xs _) => true
 | _ => false
def gReads (ρ : Operand → D) (op : Op) : Bool :=
 match op with
 | .load _ x => isGp (ρ x)
 | .lookup _ _ _ _ => true
 | .entry _ => true
 | .typeAssert _ _ _ _ => true
 | .slice _ x _ _ mx => match mx with
  | some _ => true
  | none => isGs (ρ x)
 | .indexAddr _ x _ => isGs (ρ x)
 | .convert _ _ x => isGs (ρ x)
 | .binOp _ _ x y _ => isGs (ρ x) || isGs (ρ y)
 | .call c => match c.callee, c.args.toList with
  | .builtin .len, [x] => isGs (ρ x)
  | _, _ => false
 | _ => false
def rWp (ob : List (Nat × AObj)) (ρ : Operand → D) (op : Op) (K : D → Prop) : Prop :=
 match gReads ρ op with
 | true => match heapOf ob with
  | some (gh, _) => match toVas ob (op.operands.toList.map ρ) with
   | some xs => A.gq op xs gh fun x => K (.v x)
   | none => False
  | none => False
 | false => qWp A ob ρ op K
end
mutual
def mentions (id : Nat) : D → Bool
 | .ptr i _ => i == id
 | .own i => i == id
 | .rptr i _ _ _ => i == id
 | .agg l => mentionsL id l
 | .tup l => mentionsL id l
 | .fn _ l => mentionsL id l
 | _ => false
def mentionsL (id : Nat) : List D → Bool
 | [] => false
 | d :: r => mentions id d || mentionsL id r
end
def unD (id : Nat) (d : D) : D := match mentions id d with
 | true => .any
 | false => d
def remOb (id : Nat) : List (Nat × AObj) → List (Nat × AObj)
 | [] => []
 | (k, o) :: r => if k = id then remOb id r else (k, o) :: remOb id r
def unOb (id : Nat) : AObj → AObj
 | .box l => .box (l.map (unD id))
 | o => o
def St.kill (S : St) (id : Nat) : St :=
 { S with sl := S.sl.map fun p => (p.1, unD id p.2), ob := (remOb id S.ob).map fun p => (p.1, unOb id p.2) }
def St.new (S : St) (id : Nat) (o : AObj) : St :=
 { S.kill id with ob := (id, unOb id o) :: (S.kill id).ob }
def St.setOb (S : St) (id : Nat) (o : AObj) : St := { S with ob := (id, o) :: remOb id S.ob }
mutual
def idsD (inFn : Bool) : D → List Nat
 | .own i => [i]
 | .ptr i _ => match inFn with
  | true => [i]
  | false => []
 | .agg l => idsDs inFn l
 | .tup l => idsDs inFn l
 | .fn _ l => idsDs true l
 | _ => []
def idsDs (inFn : Bool) : List D → List Nat
 | [] => []
 | d :: r => idsD inFn d ++ idsDs inFn r
end
def cellV (ob : List (Nat × AObj)) (l : List D) : Option (List V) :=
 match toVs ob l with
 | some r => if r.all V.cell then some r else none
 | none => none
def softOb (ob : List (Nat × AObj)) : List Nat → List (Nat × AObj)
 | [] => ob
 | id :: r => match look ob id with
  | some (.row z l true) => softOb ((id, .row z l false) :: remOb id ob) r
  | some (.box l) => match cellV ob l with
   | some x => softOb ((id, .cbox x) :: remOb id ob) r
   | none => softOb ob r
  | _ => softOb ob r
def St.soft (S : St) (ids : List Nat) : St := { S with ob := softOb S.ob ids }
def St.ev (S : St) : Operand → D
 | .tmp t => S.get t
 | .const v => constD v
 | .global _ => .any
 | .func f => .fn f []
def handsOn (S : St) (op : Op) : List Nat :=
 match op with
 | .call c => match c.callee with
  | .value f => idsDs false (S.ev f :: c.args.toList.map S.ev)
  | _ => []
 | .slice _ x _ _ _ => idsD false (S.ev x)
 | .makeInterface _ x => idsD false (S.ev x)
 | .build _ _ => []
 | .buildSlice _ _ ps => idsDs false (ps.toList.map fun p => S.ev p.2)
 | _ => []
def gheap (ob : List (Nat × AObj)) : Option GH :=
 match heapOf ob with
 | some (gh, _) => some gh
 | none => none
def isPub (ob : List (Nat × AObj)) (d : Nat) : Bool :=
 match heapOf ob with
 | some (_, pub) => pub.contains d
 | none => false
def St.setHeap (S : St) (h : Option GH) : St :=
 match h with
 | none => S
 | some gh' => match heapOf S.ob with
  | some (_, pub) => S.setOb hk (.heap gh' pub)
  | none => S
section
variable (A : Prim)
def srcW (z : Nat) (ob : List (Nat × AObj)) (d : D) (K : List V → Prop) : Prop :=
 match d with
 | .v (.slice l) => A.sized l z fun _ => K l
 | .v (.str s) => if z = 1 then K (A.s2b s) else False
 | .nils => K []
 | .v .nils => K []
 | .own id => match rowOf ob id with
  | some (z', l, _) => if z' = z then K l else False
  | none => False
 | .v (.gs id n) => match heapOf ob with
  | some (gh, _) => A.gsl gh id z n K
  | none => False
 | _ => False
def isSrcT : TK → D → Bool
 | .slice _, .v (.slice _) => true
 | .slice _, .nils => true
 | .slice _, .own _ => true
 | .slice _, .v (.gs _ _) => true
 | .slice _, .v .nils => true
 | .str, .v (.str _) => true
 | _, _ => false
def resObs (d : Nat) : Nat → List Rs → List (Nat × AObj)
 | _, [] => []
 | j, .v _ :: r => resObs d (j + 1) r
 | j, .o z l :: r => (1000 + 8 * d + j, .row z l true) :: resObs d (j + 1) r
def resDs (d : Nat) : Nat → List Rs → List D
 | _, [] => []
 | j, .v x :: r => .v x :: resDs d (j + 1) r
 | j, .o _ _ :: r => .own (1000 + 8 * d + j) :: resDs d (j + 1) r
def resD (d : Nat) (rs : List Rs) : D :=
 match resDs d 0 rs with
 | [x] => x
 | l => .tup l
def addObs (S : St) : List (Nat × AObj) → St
 | [] => S
 | (k, o) :: r => (addObs S r).new k o
def anyOwn : List Rs → Bool
 | [] => false
 | .o _ _ :: _ => true
 | .v _ :: r => anyOwn r
def setCells (l : List D) (off : Nat) (cs : List D) : List D := l.take off ++ cs ++ l.drop (off + cs.length)
def storeW (td : TD) (S : St) (a x : D) (K : St → Prop) : Prop :=
 match a with
 | .ptr id off => match look S.ob id with
  | some (.box l) => match cellsD x with
   | some cs => if cs.length = td.size then if off + td.size ≤ l.length then K (S.setOb id (.box (setCells l off cs))) else False else False
   | none => False
  | some (.row 1 l true) => match td.k, off, x with
   | .arr n _, 0, .v (.agg l') => if l'.length = td.size then if l.length = td.size then if td.size = n then if l'.all V.cell then K (S.setOb id (.row 1 l' true)) else False else False else False else False
   | _, _, _ => False
  | _ => False
 | .rptr id z i off => match look S.ob id with
  | some (.row z' l true) => if z = z' then match isAggT td.k with
   | true => if off = 0 then if td.size = z then match toV S.ob x with
     | some (.agg cs) => if cs.length = z then if cs.all V.cell then A.inR i l fun _ => K (S.setOb id (.row z (A.setL l i (.agg cs)) true)) else False else False
     | _ => False
     else False else False
   | false => match toV S.ob x with
    | some y => if y.cell then
      if z = 1 then if off = 0 then if td.size = 1 then A.inR i l fun _ => K (S.setOb id (.row z (A.setL l i y) true)) else False else False
      else if td.size = 1 then A.getA z l i fun cs => if off < cs.length then K (S.setOb id (.row z (A.setL l i (.agg (cs.take off ++ [y] ++ cs.drop (off + 1)))) true)) else False else False
     else False
    | none => False
   else False
  | _ => False
 | _ => False
def eWp (o : Oper) (S0 : St) (K : St → Prop) : Prop :=
 let S := S0.soft (handsOn S0 o.op)
 match o.op with
 | .alloc t => match o.dst with
  | some d => if known (tyOf t).k = false then False else match (tyOf t).k with
   | .arr n e => if (tyOf e).size = 1 then match cellV [] (tyOf t).zero with
    | some l => if l.length = n then if n ≤ 1000000 then K ((S.new d (.row 1 l true)).put (some d) (.ptr d 0)) else False else False
    | none => False
    else False
   | _ => K ((S.new d (.box (tyOf t).zero)).put (some d) (.ptr d 0))
  | none => False
 | .box t x => match o.dst, (tyOf t).k with
  | some d, .arr n _ => match S.ev x with
   | .v (.agg l) => if l.length = n then if n ≤ 1000000 then K ((S.new d (.row 1 l true)).put (some d) (.ptr d 0)) else False else False
   | _ => False
  | some d, _ => match cellsD (S.ev x) with
   | some l => K ((S.new d (.box l)).put (some d) (.ptr d 0))
   | none => False
  | none, _ => False
 | .store t a x => match known (tyOf t).k with
  | true => storeW A (tyOf t) S (S.ev a) (S.ev x) fun S' => K (S'.put o.dst (.v (.tup [])))
  | false => False
 | .buildSlice t n parts => match o.dst, (tyOf t).k with
  | some d, .slice e => qWp A S.ob S.ev (.buildSlice t n parts) fun r => match r with
   | .v (.slice l) => K ((S.new d (.row (tyOf e).size l true)).put (some d) (.own d))
   | _ => False
  | _, _ => False
 | .makeSlice t l c => match o.dst, (tyOf t).k with
  | some d, .slice e => qWp A S.ob S.ev (.makeSlice t l c) fun r => match r with
   | .v (.slice l) => K ((S.new d (.row (tyOf e).size l true)).put (some d) (.own d))
   | _ => False
  | _, _ => False
 | .convert s d x => match (tyOf s).k, (tyOf d).k with
  | .slice e, .slice _ => match s == d with
   | true => match (tyOf e).k with
    | .int .u8 => match S.ev x with
     | .own id => match rowOf S.ob id with
      | some (1, y :: l, _) => K (({ S with ob := remOb id S.ob } : St).put o.dst (.v (.slice (y :: l))))
      | _ => False
     | _ => False
    | _ => False
   | false => False
  | _, _ => rWp A S.ob S.ev o.op fun r => K (S.put o.dst r)
 | .call c => match c.callee with
  | .builtin .append => match o.dst, c.argTypes.toList, c.args.toList with
   | some d, [t, t2], [s, x] => match (tyOf t).k with
    | .slice e => if known (tyOf e).k = false then False else if (tyOf e).size = 0 then False else match isSrcT (tyOf t2).k (S.ev x) with
     | true => srcW A (tyOf e).size S.ob (S.ev x) fun l2 => match S.ev s with
      | .nils => A.room [] l2 (tyOf e).bytes fun _ => K ((S.new d (.row (tyOf e).size (A.app [] l2) true)).put (some d) (.own d))
      | .own id => match rowOf S.ob id with
       | some (z, l, ex) => if z = (tyOf e).size then
         A.room l l2 (tyOf e).bytes fun _ => K ((({ S with ob := remOb id S.ob } : St).new d (.row z (A.app l l2) ex)).put (some d) (.own d))
        else False
       | none => False
      | _ => False
     | false => False
    | _ => False
   | _, _, _ => False
  | .value f => match o.dst, calleeD (S.ev f) with
   | some d, some (g, fst, cap) => match toVas S.ob (fst ++ c.args.toList.map S.ev ++ cap) with
    | some xs => A.call g xs (gheap S.ob) fun rs h => K ((addObs (S.setHeap h) (resObs d 0 rs)).put (some d) (resD d rs))
    | none => False
   | _, _ => False
  | _ => rWp A S.ob S.ev o.op fun r => K (S.put o.dst r)
 | op => rWp A S.ob S.ev op fun r => K (S.put o.dst r)
def gTouch (S : St) (o : Oper) : Nat :=
 match o.op with
 | .store _ a _ => match isGp (S.ev a) with
  | true => 1
  | false => 0
 | .alloc _ | .box _ _ | .makeSlice _ _ _ | .buildSlice _ _ _ => match o.dst with
  | some d => match isPub S.ob d with
   | true => 1
   | false => 0
  | none => 0
 | .makeMap _ _ | .mapUpdate _ _ _ _ | .mapEntry _ _ _ | .entryStore _ _ _ _ | .range _ _ => 1
 | .next _ s => match s with
  | true => 1
  | false => 2
 | .call c => match c.callee, c.args.toList with
  | .builtin .append, x :: _ => match isGs (S.ev x) with
   | true => 1
   | false => match o.dst with
    | some d => match isPub S.ob d with
     | true => 1
     | false => 0
    | none => 0
  | .builtin .delete, _ => 1
  | .builtin .copy, _ => 1
  | .builtin .clear, _ => 1
  | .value _, _ => match o.dst with
   | some d => match isPub S.ob (2000000 + d) with
    | true => 1
    | false => 0
   | none => 0
  | _, _ => 0
 | _ => 0
def hWp (o : Oper) (S0 : St) (K : St → Prop) : Prop :=
 match gTouch S0 o with
 | 0 => eWp A o S0 K
 | m => let S := S0.soft (idsDs false (o.op.operands.toList.map S0.ev))
  match heapOf S.ob with
  | some (gh, pub) => match toVgs S.ob (o.op.operands.toList.map S.ev) with
   | some xs => match m with
    | 1 => A.gop o xs gh fun r gh' => K ((S.setOb hk (.heap gh' pub)).put o.dst (.v r))
    | _ => A.gopN o xs gh fun r gh' => K ((S.setOb hk (.heap gh' pub)).put o.dst (.v r))
   | none => False
  | none => False
def gWp (ops : List Oper) (o : Oper) (run : St → Prop) (skip : St → Prop) (S : St) : Prop :=
 match o.guard with
 | none => run S
 | some (j, want) => match look? ops j with
  | some p => match p.dst with
   | some t => match S.get t with
    | .lit b => match b == want with
     | true => run S
     | false => skip (S.put o.dst (.v (.tup [])))
    | .v (.bool c) => A.cond c fun b => match b == want with
     | true => run (S.put (some t) (.lit b))
     | false => skip ((S.put (some t) (.lit b)).put o.dst (.v (.tup [])))
    | .v (.tup []) => skip (S.put o.dst (.v (.tup [])))
    | _ => False
   | none => False
  | none => False
def thawQ (S : St) (o : Oper) : Bool :=
 match o.op with
 | .store _ a _ => match S.ev a with
  | .rptr id _ _ _ => match rowOf S.ob id with
   | some (_, _, false) => true
   | _ => false
  | _ => false
 | _ => false
def hookQ (S : St) (o : Oper) : Bool :=
 match o.dst with
 | some d => isPub S.ob (1000000 + d)
 | none => false
def wWp (o : Oper) (S : St) (K : St → Prop) : Prop :=
 match thawQ S o || hookQ S o with
 | true => A.weak S fun S' => hWp A o S' K
 | false => hWp A o S K
def opsWp (all : List Oper) : List Oper → St → (St → Prop) → Prop
 | [], S, K => K S
 | o :: r, S, K => gWp A all o (fun S => wWp A o S fun S => opsWp all r S K) (fun S => opsWp all r S K) S
def bindsA (e : Edge) : Bool := match e.ground with
 | .textOnly _ => false
 | .gcOnly _ => false
 | _ => true
def ownCalls : List (Nat × Nat) := [
 (65, 4),
 (1000000, 0)]
def heapCalls : List Nat := [
 26,
 25,
 13,
 20,
 21,
 23,
 14,
 15,
 64,
 1000000]
def isHeapCall (c : Call) : Bool := match c.callee with
 | .value (.func f) => heapCalls.any fun p => Nat.beq p f
 | _ => false
def isOwnCall (c : Call) : Bool := isHeapCall c || match c.callee with
 | .value (.func f) => match c.args.toList with
  | [.tmp t] => ownCalls.any fun p => Nat.beq p.1 f && Nat.beq p.2 t
  | _ => false
 | _ => false
def loud (op : Op) : Bool := match op with
 | .store _ _ _ => true
 | .alloc _ => true
 | .box _ _ => true
 | .call c => match c.callee with
  | .builtin .append => true
  | .value _ => isOwnCall c
  | _ => false
 | .buildSlice _ n ps => match n, ps.toList with
  | 0, [] => true
  | _, _ => false
 | _ => false
def bset (n : Nat) : Nat := Nat.shiftLeft 1 n
def depSet : List Edge → Nat
 | [] => 0
 | e :: r => match bindsA e with
  | true => Nat.lor (bset e.on) (depSet r)
  | false => depSet r
def getA : List (Nat × Nat) → Nat → Nat
 | [], _ => 0
 | (k, s) :: r, i => match Nat.beq k i with
  | true => s
  | false => getA r i
def ancOf (acc : List (Nat × Nat)) : List Edge → Nat
 | [] => 0
 | e :: r => match bindsA e with
  | true => Nat.lor (Nat.lor (bset e.on) (getA acc e.on)) (ancOf acc r)
  | false => ancOf acc r
def ancGo : Nat → List (Nat × Nat) → List Oper → List (Nat × Nat)
 | _, acc, [] => acc
 | i, acc, o :: r => ancGo (i + 1) ((i, ancOf acc o.after.toList) :: acc) r
def quietGo : Nat → List (Nat × Oper) → List Nat × List (Nat × Oper)
 | _, [] => ([], [])
 | taint, (i, o) :: r => match loud o.op || !(Nat.beq (Nat.land (depSet o.after.toList) taint) 0) with
  | true => match quietGo (Nat.lor taint (bset i)) r with
   | (a, b) => (a, (i, o) :: b)
  | false => match quietGo taint r with
   | (a, b) => (i :: a, b)
def orderGo : Nat → List (Nat × Oper) → List Nat
 | 0, l => l.map fun p => p.1
 | n + 1, l => match quietGo 0 l with
  | (a, []) => a
  | (a, x :: b) => a ++ x.1 :: orderGo n b
def idxGo : Nat → List Oper → List (Nat × Oper)
 | _, [] => []
 | i, o :: r => (i, o) :: idxGo (i + 1) r
def orderOf (ops : List Oper) : List Nat := orderGo ops.length (idxGo 0 ops)
def newIds (d : Nat) : List Nat := (List.range 8).map fun j => 1000 + 8 * d + j
def killOf (o : Oper) : List Nat := match o.op with
 | .store _ _ _ => []
 | .call c => match c.callee with
  | .value _ => match o.dst with
   | some d => newIds d
   | none => []
  | _ => match o.dst with
   | some d => [d]
   | none => []
 | _ => match o.dst with
  | some d => [d]
  | none => []
def freeOf (ops : List Oper) (anc : List (Nat × Nat)) (i : Nat) : List Nat → Option (List Nat)
 | [] => none
 | l :: r => match look? ops l with
  | some o => match loud o.op && !(Nat.testBit (getA anc l) i) with
   | true => match freeOf ops anc i r with
    | some ks => some (killOf o ++ ks)
    | none => some (killOf o)
   | false => freeOf ops anc i r
  | none => freeOf ops anc i r
def noMent (ks : List Nat) (d : D) : Bool := ks.all fun k => !(mentions k d)
def isGuard (i : Nat) : List Oper → Bool
 | [] => false
 | o :: r => match o.guard with
  | some (j, _) => match Nat.beq j i with
   | true => true
   | false => isGuard i r
  | none => isGuard i r
def dGuard (ops : List Oper) (o : Oper) (run : St → Prop) (skip : St → Prop) (S : St) : Prop :=
 match o.guard with
 | none => run S
 | some (j, want) => match look? ops j with
  | some p => match p.dst with
   | some t => match S.get t with
    | .lit b => match b == want with
     | true => run S
     | false => skip (S.put o.dst (.v (.tup [])))
    | .v (.tup []) => skip (S.put o.dst (.v (.tup [])))
    | _ => False
   | none => False
  | none => False
def dRes (g : Bool) (dst : Option Nat) (S : St) (d : D) (K : St → Prop) : Prop :=
 match g with
 | true => match d with
  | .lit b => K (S.put dst (.lit b))
  | .v (.bool c) => A.cond c fun b => K (S.put dst (.lit b))
  | _ => False
 | false => K (S.put dst d)
mutual
def idsM : D → List Nat
 | .own i => [i]
 | .ptr i _ => [i]
 | .rptr i _ _ _ => [i]
 | .agg l => idsMs l
 | .tup l => idsMs l
 | .fn _ l => idsMs l
 | _ => []
def idsMs : List D → List Nat
 | [] => []
 | d :: r => idsM d ++ idsMs r
end
def watchIds (ρ : Operand → D) (op : Op) : List Nat := match op with
 | .move _ => []
 | .assign _ => []
 | .extract _ _ => []
 | _ => match gReads ρ op with
  | true => hk :: idsMs (op.operands.toList.map ρ)
  | false => idsMs (op.operands.toList.map ρ)
def restrict (ob : List (Nat × AObj)) : List Nat → List (Nat × AObj)
 | [] => []
 | id :: r => match look ob id with
  | some o => (id, o) :: restrict ob r
  | none => restrict ob r
def quietOb (ks : List Nat) : AObj → Bool
 | .box l => l.all (noMent ks)
 | _ => true
def newTouch (S : St) (o : Oper) (ids : List Nat) : Option (List Nat) := match gTouch S o with
 | 0 => match o.dst with
  | some d => match S.ob.all fun p => quietOb [d] p.2 with
   | true => some (d :: ids)
   | false => none
  | none => none
 | _ => none
def appIds (S : St) (c : Call) : List Nat := match c.args.toList with
 | s :: _ => match S.ev s with
  | .own id => [id]
  | _ => []
 | [] => []
def touchOf (S : St) (o : Oper) : Option (List Nat) :=
 match o.op with
 | .store _ a _ => match S.ev a with
  | .ptr id _ => some [id]
  | .rptr id _ _ _ => some [id]
  | .v (.gp _ _) => some (hk :: idsDs false (o.op.operands.toList.map S.ev))
  | .v (.ge _ _ _ _) => some (hk :: idsDs false (o.op.operands.toList.map S.ev))
  | _ => none
 | .call c => match c.callee with
  | .value _ => some (handsOn S o.op ++ killOf o)
  | .builtin .append => newTouch S o (appIds S c)
  | _ => none
 | .buildSlice _ _ _ => newTouch S o []
 | _ => none
def apartL (T : List Nat) : List Nat → Bool
 | [] => true
 | u :: r => !(T.contains u) && apartL T r
def watchOk (anc : List (Nat × Nat)) (l : Nat) (T : Option (List Nat)) : List (Nat × List Nat) → Bool
 | [] => true
 | (k, U) :: r => (Nat.testBit (getA anc l) k || match U with
  | [] => true
  | u :: s => match T with
   | some T => apartL T (u :: s)
   | none => false) && watchOk anc l T r
def lcOk (ob : List (Nat × AObj)) (d : Nat) (rs : List Rs) : Bool := Nat.ble rs.length 8 && ob.all fun p => quietOb (newIds d) p.2
def lcWp (o : Oper) (f : Operand) (c : Call) (S0 : St) (K : St → Prop) : Prop :=
 match gTouch S0 o with
 | 0 =>
  let S := S0.soft (handsOn S0 o.op)
  match o.dst, calleeD (S.ev f) with
  | some d, some (g, fst, cap) => match toVas S.ob (fst ++ c.args.toList.map S.ev ++ cap) with
   | some xs => A.call g xs none fun rs h => match h with
    | none => match lcOk S.ob d rs with
     | true => K ((addObs S (resObs d 0 rs)).put (some d) (resD d rs))
     | false => False
    | some _ => False
   | none => False
  | _, _ => False
 | _ => False
def lhWp (o : Oper) (f : Operand) (c : Call) (S0 : St) (K : St → Prop) : Prop :=
 match gTouch S0 o with
 | 0 =>
  let S := S0.soft (handsOn S0 o.op)
  match o.dst, calleeD (S.ev f) with
  | some d, some (g, fst, cap) => match toVas S.ob (fst ++ c.args.toList.map S.ev ++ cap) with
   | some xs => match gheap S.ob with
    | some gh => A.callH g xs gh fun rs => match lcOk (S.setHeap (some gh)).ob d rs with
     | true => K ((addObs (S.setHeap (some gh)) (resObs d 0 rs)).put (some d) (resD d rs))
     | false => False
    | none => False
   | none => False
  | _, _ => False
 | _ => False
def lWp (o : Oper) (S : St) (K : St → Prop) : Prop :=
 match o.op with
 | .call c => match c.callee with
  | .value f => match isHeapCall c with
   | true => match gheap S.ob with
    | some _ => lhWp A o f c S K
    | none => lcWp A o f c S K
   | false => lcWp A o f c S K
  | _ => hWp A o S K
 | _ => hWp A o S K
def dWp (ops : List Oper) (anc : List (Nat × Nat)) : List (Nat × List Nat) → List Nat → St → (St → Prop) → Prop
 | _, [], S, K => K S
 | W, i :: r, S, K => match look? ops i with
  | some o => dGuard ops o (fun S => match loud o.op with
   | true => match watchOk anc i (touchOf S o) W with
    | true => lWp A o S fun S => dWp ops anc W r S K
    | false => False
   | false => match freeOf ops anc i r with
    | none => rWp A S.ob S.ev o.op fun d => dRes A (isGuard i ops) o.dst S d fun S => dWp ops anc W r S K
    | some ks => match (o.op.operands.toList.map S.ev).all (noMent ks) with
     | true => rWp A (restrict S.ob (watchIds S.ev o.op)) S.ev o.op fun d => match noMent ks d with
      | true => dRes A (isGuard i ops) o.dst S d fun S' => dWp ops anc ((i, watchIds S.ev o.op) :: W) r S' K
      | false => False
     | false => False) (fun S => dWp ops anc W r S K) S
  | none => False
def moveTo (t : Nat) : List Oper → Option (Option Operand)
 | [] => none
 | o :: r => match o.dst with
  | some u => match Nat.beq u t with
   | true => match o.op with
    | .move x => some (some x)
    | .assign x => some (some x)
    | _ => some none
   | false => moveTo t r
  | none => moveTo t r
def rootD (ops : List Oper) (S : St) : Nat → Operand → D
 | 0, _ => .any
 | k + 1, .tmp t => match moveTo t ops with
  | some (some x) => rootD ops S k x
  | some none => .any
  | none => S.get t
 | _, x => S.ev x
def preIds (ops : List Oper) (S : St) : List Oper → List Nat
 | [] => []
 | o :: r => (match o.op with
  | .call c => match c.callee with
   | .value f => idsDs false (rootD ops S 9 f :: c.args.toList.map (rootD ops S 9))
   | _ => []
  | .slice _ x _ _ _ => idsD false (rootD ops S 9 x)
  | .makeInterface _ x => idsD false (rootD ops S 9 x)
  | _ => []) ++ preIds ops S r
def looks (ops : List Oper) (o : Oper) : List Nat :=
 (o.op.operands.toList.filterMap fun
  | .tmp t => some t
  | _ => none) ++ match o.guard with
  | some (j, _) => match look? ops j with
   | some p => p.dst.toList
   | none => []
  | none => []
def meets (ops : List Oper) (o p : Oper) : Bool :=
 (match o.dst with
  | some t => p.dst == some t || (looks ops p).contains t
  | none => false) ||
 (match p.dst with
  | some t => (looks ops o).contains t
  | none => false)
def posOk (ops : List Oper) (anc : List (Nat × Nat)) : Nat → List Nat → Bool
 | _, [] => true
 | done, i :: r => match look? ops i with
  | some o => !(Nat.testBit done i) && Nat.beq (Nat.land (depSet o.after.toList) done) (depSet o.after.toList) && (!(loud o.op) || r.all fun k => Nat.testBit (getA anc k) i) && posOk ops anc (Nat.lor done (bset i)) r
  | none => false
def drawOk (ops : List Oper) : Bool :=
 Nat.beq (orderOf ops).length ops.length && (List.range ops.length).all (fun i => (orderOf ops).contains i) && posOk ops (ancGo 0 [] ops) 0 (orderOf ops) &&
 (List.range ops.length).all fun i => (List.range ops.length).all fun j => match look? ops i, look? ops j with
  | some o, some p => Nat.beq i j || !(meets ops o p) || Nat.testBit (getA (ancGo 0 [] ops) i) j || Nat.testBit (getA (ancGo 0 [] ops) j) i
  | _, _ => false
def stripGo (anc : List (Nat × Nat)) : Nat → List Oper → Nat
 | i + 1, o :: r => match ((getA anc i) &&& (bset i - 1)) == (bset i - 1) && ((depSet o.after.toList) &&& (bset i - 1)) == (depSet o.after.toList) with
  | true => stripGo anc i r
  | false => i + 1
 | _, _ => 0
def stripAt (ops : List Oper) : Nat := stripGo (ancGo 0 [] ops) ops.length ops.reverse
def stripOk (ops : List Oper) (k : Nat) : Bool :=
 drawOk (ops.take k) && (ops.take k).all (fun o => Nat.beq (Nat.land (depSet o.after.toList) (bset k - 1)) (depSet o.after.toList) && match o.guard with
  | some (j, _) => Nat.blt j k
  | none => true)
def drawS (ops : List Oper) (k : Nat) (S : St) (K : St → Prop) : Prop :=
 A.chk (fun _ => stripOk ops k) fun _ => dWp A (ops.take k) (ancGo 0 [] (ops.take k)) [] (orderOf (ops.take k)) (S.soft (preIds (ops.take k) S (ops.take k))) fun S' => opsWp A ops (ops.drop k) S' K
def condW (d : D) (K : Bool → Prop) : Prop :=
 match d with
 | .ub => K true ∧ K false
 | .lit b => K b
 | .v (.bool c) => A.cond c K
 | _ => False
def ewp : Code → (AExit → St → Prop) → St → Prop
 | .skip, Q, S => Q .normal S
 | .seq a b, Q, S => ewp a (fun e S => match e with
   | .normal => ewp b Q S
   | .exit id => Q (.exit id) S
   | .ret => Q .ret S) S
 | .region _ ops false, Q, S => opsWp A ops.toList ops.toList S (Q .normal)
 | .region _ ops true, Q, S => match heapOf S.ob with
  | none => A.chk (fun _ => drawOk ops.toList) fun _ => dWp A ops.toList (ancGo 0 [] ops.toList) [] (orderOf ops.toList) (S.soft (preIds ops.toList S ops.toList)) (Q .normal)
  | some _ => drawS A ops.toList (stripAt ops.toList) S (Q .normal)
 | .cond c a b, Q, S => condW A (S.ev c) fun t => match t with
   | true => ewp a Q S
   | false => ewp b Q S
 | .block id a, Q, S => ewp a (fun e S => match e with
   | .normal => Q .normal S
   | .exit i => match i == id with
    | true => Q .normal S
    | false => Q (.exit i) S
   | .ret => Q .ret S) S
 | .loop a, Q, S => A.loop (ewp a) Q S
 | .exit id, Q, S => Q (.exit id) S
 | .ret, Q, S => Q .ret S
 | _, _, _ => False
def resultsD (S : St) : List ResultVar → Option (List D)
 | [] => some []
 | .tmp t :: r => match resultsD S r with
  | some l => some (S.get t :: l)
  | none => none
 | .cell a t :: r => match resultsD S r with
  | some l => if known (tyOf t).k = false then none else match S.get a with
   | .ptr id 0 => match look S.ob id with
    | some (.box cs) => match isAggT (tyOf t).k with
     | true => if (tyOf t).size = cs.length then some (.agg cs :: l) else none
     | false => match cs with
      | [d] => some (d :: l)
      | _ => none
    | some (.cbox cs) => match isAggT (tyOf t).k with
     | true => if (tyOf t).size = cs.length then some (.v (.agg cs) :: l) else none
     | false => match cs with
      | [x] => some (.v x :: l)
      | _ => none
    | some (.row 1 cs _) => match (tyOf t).k with
     | .arr n _ => if (tyOf t).size = n then if cs.length = n then if cs.all V.cell then some (.v (.agg cs) :: l) else none else none else none
     | _ => none
    | _ => none
   | _ => none
  | none => none
def bodyWp (c : Code) (res : List ResultVar) (S : St) : Prop :=
 ewp A c (fun e S => match e with
  | .exit _ => False
  | _ => match resultsD S res with
   | some l => A.ret S.ob l
   | none => False) S
end
def retIds : List D → List Rs → List Nat
 | d :: ds, .v _ :: rs => idsD false d ++ retIds ds rs
 | _ :: ds, .o _ _ :: rs => retIds ds rs
 | _, _ => []
def rsOk (ob : List (Nat × AObj)) : List Nat → List D → List Rs → Prop
 | _, [], [] => True
 | seen, d :: ds, .v x :: rs => toV ob d = some x ∧ rsOk ob seen ds rs
 | seen, .nils :: ds, .o z l :: rs => l = [] ∧ rsOk ob seen ds rs
 | seen, .own id :: ds, .o z l :: rs => seen.contains id = false ∧ look ob id = some (.row z l true) ∧ rsOk ob (id :: seen) ds rs
 | _, _, _ => False
def retOk (rs : List Rs) (ob : List (Nat × AObj)) (ds : List D) : Prop := rsOk (softOb ob (retIds ds rs)) [] ds rs
def slotD : V → D
 | .nils => .nils
 | x => .v x
def slotsOf : Nat → List V → List (Nat × D)
 | _, [] => []
 | k, x :: r => (k, slotD x) :: slotsOf (k + 1) r
def initSt (n : Nat) (xs : List V) : St := { n, sl := slotsOf 0 xs, ob := [] }
end Go.Proofs.YthioccbgjkbmdaaGreat.AM
