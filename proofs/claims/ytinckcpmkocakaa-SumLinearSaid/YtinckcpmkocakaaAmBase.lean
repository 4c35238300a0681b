/-
  The abstract machine, part 1: pure data, frame data, and how they lie in a world of the model. No program in it.
-/
import Derived.WalkKit
import Derived.Orders
set_option linter.unusedVariables false
set_option linter.unusedSimpArgs false
namespace Go.Proofs.Ytinckcpmkocakaa.AM
open Go Go.RowKit

/-- Pure data. -/
inductive V where
  | bool (b : Bool)
  | int (k : IntKind) (n : Int)
  | str (s : List UInt8)
  | slice (l : List V)
  | agg (l : List V)
  | tup (l : List V)
  | nilp
  | clo (f : Nat) (cap : List V)
  | nilfn
  | nilif
  | iface (t : Nat) (x : V)
  | nilmap
  | ref (l : List V)

/-- The cells of a datum. -/
def V.flat : V → List V
  | .agg l => l
  | x => [x]
/-- Is it of one cell? -/
def V.cell : V → Bool
  | .agg _ => false
  | .tup _ => false
  | _ => true

/-- Frame data: pure, or about objects of the call's own. -/
inductive D where
  | any
  | lit (b : Bool)
  | v (x : V)
  | nils
  | agg (l : List D)
  | tup (l : List D)
  | ptr (id off : Nat)
  | own (id : Nat)
  | rptr (id z : Nat) (i : Int) (off : Nat)
  | fn (f : Nat) (cap : List D)

/-- Objects: variables in memory; rows (what a slice of the call's own, or an array variable, has); 'ex': nobody else looks at the row's cells. -/
inductive AObj where
  | box (l : List D)
  | cbox (l : List V)
  | row (z : Nat) (l : List V) (ex : Bool)

/-- Which cells never change any more. -/
abbrev Oks := Nat → Nat → Prop

/-- A pure datum, as a value in a world. -/
inductive Rep (ok : Oks) (w : World) : V → Value → Prop
  | bool (b : Bool) : Rep ok w (.bool b) (.bool b)
  | int (k : IntKind) (n : Int) : Rep ok w (.int k n) (.int k n)
  | str (s : List UInt8) : Rep ok w (.str s) (.string ⟨s.toArray⟩)
  | slice (l : List V) (a : Option Addr) (c z : Nat) (us : Nat → Nat → Value) (hc : l.length ≤ c) (hm : c ≤ maxLen)
      (ha : 0 < l.length → ∃ b off, a = some ⟨b, off, none⟩ ∧ ∀ i j, i < l.length → j < z → ok b (off + (i * z + j)) ∧ w.cell? ⟨b, off + (i * z + j), none⟩ = some (us i j))
      (hz : ∀ i (h : i < l.length), (l[i]'h).flat.length = z)
      (hcell : ∀ i (h : i < l.length) j (hj : j < (l[i]'h).flat.length), ((l[i]'h).flat[j]'hj).cell = true)
      (hr : ∀ i (h : i < l.length) j (hj : j < (l[i]'h).flat.length), Rep ok w ((l[i]'h).flat[j]'hj) (us i j)) :
      Rep ok w (.slice l) (.slice a l.length c)
  | agg (l : List V) (cs : List Value) (hl : cs.length = l.length) (hcell : ∀ i (h : i < l.length), (l[i]'h).cell = true)
      (hr : ∀ i (h : i < l.length) (h' : i < cs.length), Rep ok w (l[i]'h) (cs[i]'h')) : Rep ok w (.agg l) (.agg cs.toArray)
  | tup (l : List V) (cs : List Value) (hl : cs.length = l.length)
      (hr : ∀ i (h : i < l.length) (h' : i < cs.length), Rep ok w (l[i]'h) (cs[i]'h')) : Rep ok w (.tup l) (.tuple cs.toArray)
  | nilp : Rep ok w .nilp (.pointer none)
  | clo (f : Nat) (cap : List V) (cs : List Value) (hl : cs.length = cap.length)
      (hr : ∀ i (h : i < cap.length) (h' : i < cs.length), Rep ok w (cap[i]'h) (cs[i]'h')) : Rep ok w (.clo f cap) (.func (.func f) #[] cs.toArray)
  | nilfn : Rep ok w .nilfn .nilFunc
  | nilif : Rep ok w .nilif .nilIface
  | iface (t : Nat) (x : V) (u : Value) (hr : Rep ok w x u) : Rep ok w (.iface t x) (.iface t u)
  | nilmap : Rep ok w .nilmap (.map none)
  | ref (l : List V) (b off : Nat) (us : Nat → Value)
      (ha : ∀ j, j < l.length → ok b (off + j) ∧ w.cell? ⟨b, off + j, none⟩ = some (us j))
      (hcell : ∀ j (h : j < l.length), (l[j]'h).cell = true)
      (hr : ∀ j (h : j < l.length), Rep ok w (l[j]'h) (us j)) : Rep ok w (.ref l) (.pointer (some ⟨b, off, none⟩))

/-- The cells that never change are as they were. -/
structure Same (ok ok' : Oks) (w w' : World) : Prop where
  sub : ∀ b o, ok b o → ok' b o
  cell : ∀ b o, ok b o → w'.cell? ⟨b, o, none⟩ = w.cell? ⟨b, o, none⟩
theorem Same.refl (ok : Oks) (w : World) : Same ok ok w w := ⟨fun _ _ h => h, fun _ _ _ => rfl⟩
theorem Same.trans {ok ok' ok'' : Oks} {w w' w'' : World} (h : Same ok ok' w w') (k : Same ok' ok'' w' w'') : Same ok ok'' w w'' :=
  ⟨fun b o q => k.sub b o (h.sub b o q), fun b o q => (k.cell b o (h.sub b o q)).trans (h.cell b o q)⟩

theorem Rep.mono {ok ok' : Oks} {w w' : World} (h : Same ok ok' w w') {x : V} {u : Value} (r : Rep ok w x u) : Rep ok' w' x u := by
  induction r with
  | bool b => exact .bool b
  | int k n => exact .int k n
  | str s => exact .str s
  | slice l a c z us hc hm ha hz hcell hr ih =>
    refine .slice l a c z us hc hm (fun hp => ?_) hz hcell ih
    obtain ⟨b, off, e, hx⟩ := ha hp
    exact ⟨b, off, e, fun i j hi hj => ⟨h.sub _ _ (hx i j hi hj).1, (h.cell _ _ (hx i j hi hj).1).trans (hx i j hi hj).2⟩⟩
  | agg l cs hl hcell hr ih => exact .agg l cs hl hcell ih
  | tup l cs hl hr ih => exact .tup l cs hl ih
  | nilp => exact .nilp
  | clo f cap cs hl hr ih => exact .clo f cap cs hl ih
  | nilfn => exact .nilfn
  | nilif => exact .nilif
  | iface t x u hr ih => exact .iface t x u ih
  | nilmap => exact .nilmap
  | ref l b off us ha hcell hr ih =>
    exact .ref l b off us (fun j hj => ⟨h.sub _ _ (ha j hj).1, (h.cell _ _ (ha j hj).1).trans (ha j hj).2⟩) hcell ih

/-- Data without memory: they read so in every world. -/
def V.plain : V → Bool
  | .bool _ | .int _ _ | .str _ | .nilp | .nilfn | .nilif | .nilmap => true
  | _ => false
theorem Rep.plain {ok ok' : Oks} {w w' : World} {x : V} {u : Value} (r : Rep ok w x u) (h : x.plain = true) : Rep ok' w' x u := by
  cases r <;> simp [V.plain] at h
  · exact .bool _
  · exact .int _ _
  · exact .str _
  · exact .nilp
  · exact .nilfn
  · exact .nilif
  · exact .nilmap

theorem Rep.oneCell {ok : Oks} {w : World} {x : V} {u : Value} (r : Rep ok w x u) (h : x.cell = true) : u.cells = #[u] ∧ u.oneCell' = true := by
  cases r <;> simp [V.cell] at h <;> exact ⟨rfl, rfl⟩

/-- Where the objects lie. 'hdr': the header of a row. -/
structure Env where
  blk : Nat → Option Nat
  ha : Nat → Option Addr
  hl : Nat → Nat
  hc : Nat → Nat
def Env.hdr (E : Env) (id : Nat) : Value := .slice (E.ha id) (E.hl id) (E.hc id)

/-- A frame datum, as a value. -/
inductive RepD (E : Env) (ok : Oks) (w : World) : D → Value → Prop
  | any (u : Value) : RepD E ok w .any u
  | lit (b : Bool) : RepD E ok w (.lit b) (.bool b)
  | v (x : V) (u : Value) (h : Rep ok w x u) : RepD E ok w (.v x) u
  | nils : RepD E ok w .nils (.slice none 0 0)
  | agg (l : List D) (cs : List Value) (hl : cs.length = l.length) (hcell : ∀ u ∈ cs, u.oneCell' = true)
      (hr : ∀ i (h : i < l.length) (h' : i < cs.length), RepD E ok w (l[i]'h) (cs[i]'h')) : RepD E ok w (.agg l) (.agg cs.toArray)
  | tup (l : List D) (cs : List Value) (hl : cs.length = l.length)
      (hr : ∀ i (h : i < l.length) (h' : i < cs.length), RepD E ok w (l[i]'h) (cs[i]'h')) : RepD E ok w (.tup l) (.tuple cs.toArray)
  | ptr (id off b : Nat) (hb : E.blk id = some b) : RepD E ok w (.ptr id off) (.pointer (some ⟨b, off, none⟩))
  | own (id : Nat) : RepD E ok w (.own id) (E.hdr id)
  | rptr (id z : Nat) (i : Int) (off b : Nat) (hb : E.blk id = some b) (hi : 0 ≤ i) : RepD E ok w (.rptr id z i off) (.pointer (some ⟨b, i.toNat * z + off, none⟩))
  | fn (f : Nat) (cap : List D) (cs : List Value) (hl : cs.length = cap.length)
      (hr : ∀ i (h : i < cap.length) (h' : i < cs.length), RepD E ok w (cap[i]'h) (cs[i]'h')) : RepD E ok w (.fn f cap) (.func (.func f) #[] cs.toArray)

theorem RepD.mono {E : Env} {ok ok' : Oks} {w w' : World} (h : Same ok ok' w w') {d : D} {u : Value} (r : RepD E ok w d u) : RepD E ok' w' d u := by
  induction r with
  | any u => exact .any u
  | lit b => exact .lit b
  | v x u r => exact .v x u (r.mono h)
  | nils => exact .nils
  | agg l cs hl hcell hr ih => exact .agg l cs hl hcell ih
  | tup l cs hl hr ih => exact .tup l cs hl ih
  | ptr id off b hb => exact .ptr id off b hb
  | own id => exact .own id
  | rptr id z i off b hb hi => exact .rptr id z i off b hb hi
  | fn f cap cs hl hr ih => exact .fn f cap cs hl ih

/-- The cells of a row of pure data, from 'off' on. -/
structure RowAt (ok : Oks) (w : World) (b off z : Nat) (l : List V) : Prop where
  hz : ∀ i (h : i < l.length), (l[i]'h).flat.length = z
  hcell : ∀ i (h : i < l.length) j (hj : j < (l[i]'h).flat.length), ((l[i]'h).flat[j]'hj).cell = true
  hr : ∀ i (h : i < l.length) j (hj : j < (l[i]'h).flat.length), ∃ u, w.cell? ⟨b, off + (i * z + j), none⟩ = some u ∧ Rep ok w ((l[i]'h).flat[j]'hj) u

theorem RowAt.mono {ok ok' : Oks} {w w' : World} {b off z : Nat} {l : List V} (h : Same ok ok' w w') (r : RowAt ok w b off z l)
    (hc : ∀ i, i < l.length * z → w'.cell? ⟨b, off + i, none⟩ = w.cell? ⟨b, off + i, none⟩) : RowAt ok' w' b off z l := by
  refine ⟨r.hz, r.hcell, fun i hi j hj => ?_⟩
  obtain ⟨u, hu, hx⟩ := r.hr i hi j hj
  refine ⟨u, (hc _ ?_).trans hu, hx.mono h⟩
  have h1 := r.hz i hi
  have h2 : i * z + z ≤ l.length * z := by rw [← Nat.succ_mul]; exact Nat.mul_le_mul_right _ hi
  omega

/-- A row in its block, and its header. -/
def RowRep (E : Env) (ok : Oks) (w : World) (id z : Nat) (l : List V) (ex : Bool) : Prop :=
  (l = [] ∧ E.blk id = none ∧ E.hdr id = .slice none 0 0) ∨
  ∃ b cap cs e, E.blk id = some b ∧ E.hdr id = .slice (some ⟨b, 0, none⟩) l.length cap ∧ w.heap[b]? = some (.cells cs e) ∧ cs.size = cap * z ∧ l.length ≤ cap ∧ cap ≤ maxLen ∧
    RowAt ok w b 0 z l ∧ ∀ o, ok b o ↔ ex = false ∧ o < l.length * z

/-- A variable's cells. -/
def BoxRep (E : Env) (ok : Oks) (w : World) (id : Nat) (l : List D) : Prop :=
  ∃ b e cs, E.blk id = some b ∧ w.heap[b]? = some (.cells cs e) ∧ cs.size = l.length ∧ (∀ o, ¬ ok b o) ∧
    ∀ j (h : j < l.length), ∃ u, cs[j]? = some u ∧ u.oneCell' = true ∧ RepD E ok w (l[j]'h) u

/-- A variable that nobody writes any more. -/
def CboxRep (E : Env) (ok : Oks) (w : World) (id : Nat) (l : List V) : Prop :=
  ∃ b, E.blk id = some b ∧ b < w.heap.size ∧ (∀ j (h : j < l.length), (l[j]'h).cell = true) ∧ ∀ j (h : j < l.length), ok b j ∧ ∃ u, w.cell? ⟨b, j, none⟩ = some u ∧ Rep ok w (l[j]'h) u

def ObjRep (E : Env) (ok : Oks) (w : World) (id : Nat) : AObj → Prop
  | .box l => BoxRep E ok w id l
  | .cbox l => CboxRep E ok w id l
  | .row z l ex => RowRep E ok w id z l ex

def look {α : Type} : List (Nat × α) → Nat → Option α
  | [], _ => none
  | (k, x) :: r, j => if k = j then some x else look r j

structure St where
  n : Nat
  sl : List (Nat × D)
  ob : List (Nat × AObj)

def St.get (S : St) (t : Nat) : D :=
  match look S.sl t with
  | some d => d
  | none => .any
def St.put (S : St) (dst : Option Nat) (d : D) : St :=
  match dst with
  | none => S
  | some t => if t < S.n then { S with sl := (t, d) :: S.sl } else S

/-- All that is fixed while a call runs: the world at its begin, the blocks that it was handed. -/
structure Gh where
  w0 : World
  M : Nat → Prop
  ok0 : Oks

/-- The abstract state tells of the frame and of the world. -/
structure Conc (G : Gh) (E : Env) (ok : Oks) (S : St) (a : Act) (w : World) : Prop where
  n : a.tmps.size = S.n
  defers : a.defers = []
  slot : ∀ t, RepD E ok w (S.get t) (a.tmps.getD t undef)
  obj : ∀ id o, look S.ob id = some o → ObjRep E ok w id o
  apart : ∀ i j o p b, look S.ob i = some o → look S.ob j = some p → i ≠ j → E.blk i = some b → E.blk j ≠ some b
  reg : ∀ i o b, look S.ob i = some o → E.blk i = some b → G.w0.heap.size ≤ b ∨ G.M b
  okb : ∀ b o, ok b o → b < w.heap.size
  sub : ∀ b o, G.ok0 b o → ok b o
  newk : ∀ b o, ok b o → G.ok0 b o ∨ G.w0.heap.size ≤ b ∨ G.M b
  os : w.os = G.w0.os
  tape : w.tape = G.w0.tape
  output : w.output = G.w0.output
  size : G.w0.heap.size ≤ w.heap.size
  old : ∀ b, b < G.w0.heap.size → ¬ G.M b → w.heap[b]? = G.w0.heap[b]?

theorem cell_lt {w : World} {b o : Nat} {u : Value} (h : w.cell? ⟨b, o, none⟩ = some u) : b < w.heap.size := World.block_lt_of_cell? w _ h
theorem heap_lt {w : World} {b : Nat} {o : Obj} (h : w.heap[b]? = some o) : b < w.heap.size := (Array.getElem?_eq_some_iff.1 h).1
theorem cell_of_heap {w : World} {b o : Nat} {cs : Array Value} {e : TypeId} {fr : Nat × Nat} (h : w.heap[b]? = some (.cells cs e fr)) : w.cell? ⟨b, o, none⟩ = cs[o]? := by
  simp [World.cell?, h]

/-- What a call answers, as values. 'B': the heap's size when it began. -/
inductive Rs where
  | v (x : V)
  | o (z : Nat) (l : List V)
def RsRep (B : Nat) (ok : Oks) (w : World) : Rs → Value → Option Nat → Prop
  | .v x, u, g => g = none ∧ Rep ok w x u
  | .o z l, u, g => (l = [] ∧ g = none ∧ u = .slice none 0 0) ∨ ∃ b cap cs e, g = some b ∧ B ≤ b ∧ u = .slice (some ⟨b, 0, none⟩) l.length cap ∧ w.heap[b]? = some (.cells cs e) ∧ cs.size = cap * z ∧ l.length ≤ cap ∧ cap ≤ maxLen ∧
      RowAt ok w b 0 z l ∧ ∀ o, ¬ ok b o
def retVal (us : List Value) : Value :=
  match us with
  | [u] => u
  | us => .tuple us.toArray
/-- **The contract of a function** that changes nothing that was there: called with values that tell 'xs', it answers 'rs'. -/
def FnR (P : Program) (f : Nat) (xs : List V) (rs : List Rs) : Prop :=
  (∃ fn, P.funcs[f]? = some fn ∧ fn.body.isSome = true ∧ (fn.name == "runtime.NumGoroutine") = false) ∧
  ∀ (w : World) (ok : Oks) (vs : List Value), (∀ b o, ok b o → b < w.heap.size) → vs.length = xs.length → (∀ i (h : i < xs.length) (h' : i < vs.length), Rep ok w (xs[i]'h) (vs[i]'h')) →
    Calls P f vs.toArray w fun e w' => ∃ (us : List Value) (gs : List (Option Nat)) (ok' : Oks), e = .returned (retVal us) ∧ Below w.heap.size w w' ∧ (∀ b o, ok b o → ok' b o) ∧
      (∀ b o, ok' b o → ok b o ∨ (w.heap.size ≤ b ∧ b < w'.heap.size)) ∧ us.length = rs.length ∧ gs.length = rs.length ∧
      (∀ i (h : i < rs.length) (h' : i < us.length) (h'' : i < gs.length), RsRep w.heap.size ok' w' (rs[i]'h) (us[i]'h') (gs[i]'h'')) ∧
      (∀ (i j b : Nat), gs[i]? = some (some b) → gs[j]? = some (some b) → i = j)

end Go.Proofs.Ytinckcpmkocakaa.AM
