/-
 The abstract machine, part 1: pure data, frame data, and how they lie in a world of the model. No program in it.
-/
import Derived.WalkKit
import Derived.Orders
import Derived.Test.YthioccbgjkbmdaaGreatProg
import Derived.KernelRfl
set_option linter.unusedVariables false
set_option linter.unusedSimpArgs false
namespace Go.Proofs.YthioccbgjkbmdaaGreat.AM
open Go Go.RowKit
inductive V where
 | bool (b : Bool)
 | int (k : IntKind) (n : Int)
 | str (s : List UInt8)
 | slice (l : List V)
 | agg (l : List V)
 | tup (l : List V)
 | nilp
 | clo (f : Nat) (cap : List V)
 | nilfn
 | nilif
 | iface (t : Nat) (x : V)
 | nilmap
 | ref (l : List V)
 -- about objects of the common heap: a pointer, a pointer into a row, a slice of a row from its begin, a map; a method's value
 | gp (id off : Nat)
 | ge (id z : Nat) (i : Int) (off : Nat)
 | gs (id : Nat) (n : Int)
 | gm (id : Nat)
 | mth (f : Nat) (fst : List V)
 | nils
 -- a slice that has no room behind it
 | xs (l : List V)
def V.flat : V → List V
 | .agg l => l
 | x => [x]
def V.cell : V → Bool
 | .agg _ => false
 | .tup _ => false
 | _ => true
inductive D where
 | any
 | ub
 | lit (b : Bool)
 | v (x : V)
 | nils
 | agg (l : List D)
 | tup (l : List D)
 | ptr (id off : Nat)
 | own (id : Nat)
 | rptr (id z : Nat) (i : Int) (off : Nat)
 | fn (f : Nat) (cap : List D)
inductive GObj where
 | box (l : List V)
 | row (z : Nat) (l : List V)
 | map (es : List (Nat × V × V)) (clock : Nat)
 | sit (s : List UInt8) (pos : Nat)
 | mit (m : Option Nat) (since : Nat) (seen : List Nat) (stepped : Nat)
 | frow (z : Nat) (l : List V)
 | arow (z : Nat) (l : List V)
def GObj.isF : GObj → Prop
 | .frow _ _ => True
 | _ => False
def GObj.isA : GObj → Prop
 | .arow _ _ => True
 | _ => False
structure GH where
 next : Nat
 get : Nat → Option GObj
inductive AObj where
 | box (l : List D)
 | cbox (l : List V)
 | row (z : Nat) (l : List V) (ex : Bool)
 | heap (gh : GH) (pub : List Nat)
structure Oks where
 ok : Nat → Nat → Prop
 next : Nat
 blk : Nat → Option Nat
 cap : Nat → Nat
instance : CoeFun Oks fun _ => Nat → Nat → Prop := ⟨Oks.ok⟩
inductive Rep (ok : Oks) (w : World) : V → Value → Prop
 | bool (b : Bool) : Rep ok w (.bool b) (.bool b)
 | int (k : IntKind) (n : Int) : Rep ok w (.int k n) (.int k n)
 | str (s : List UInt8) : Rep ok w (.str s) (.string ⟨s.toArray⟩)
 | slice (l : List V) (a : Option Addr) (c z : Nat) (us : Nat → Nat → Value) (hc : l.length ≤ c) (hm : c ≤ maxLen)
   (ha : 0 < l.length → ∃ b off, a = some ⟨b, off, none⟩ ∧ ∀ i j, i < l.length → j < z → ok b (off + (i * z + j)) ∧ w.cell? ⟨b, off + (i * z + j), none⟩ = some (us i j))
   (hz : ∀ i (h : i < l.length), (l[i]'h).flat.length = z)
   (hcell : ∀ i (h : i < l.length) j (hj : j < (l[i]'h).flat.length), ((l[i]'h).flat[j]'hj).cell = true)
   (hr : ∀ i (h : i < l.length) j (hj : j < (l[i]'h).flat.length), Rep ok w ((l[i]'h).flat[j]'hj) (us i j)) :
   Rep ok w (.slice l) (.slice a l.length c)
 | agg (l : List V) (cs : List Value) (hl : cs.length = l.length) (hcell : ∀ i (h : i < l.length), (l[i]'h).cell = true)
   (hr : ∀ i (h : i < l.length) (h' : i < cs.length), Rep ok w (l[i]'h) (cs[i]'h')) : Rep ok w (.agg l) (.agg cs.toArray)
 | tup (l : List V) (cs : List Value) (hl : cs.length = l.length)
   (hr : ∀ i (h : i < l.length) (h' : i < cs.length), Rep ok w (l[i]'h) (cs[i]'h')) : Rep ok w (.tup l) (.tuple cs.toArray)
 | nilp : Rep ok w .nilp (.pointer none)
 | clo (f : Nat) (cap : List V) (cs : List Value) (hl : cs.length = cap.length)
   (hr : ∀ i (h : i < cap.length) (h' : i < cs.length), Rep ok w (cap[i]'h) (cs[i]'h')) : Rep ok w (.clo f cap) (.func (.func f) #[] cs.toArray)
 | nilfn : Rep ok w .nilfn .nilFunc
 | nilif : Rep ok w .nilif .nilIface
 | iface (t : Nat) (x : V) (u : Value) (hr : Rep ok w x u) : Rep ok w (.iface t x) (.iface t u)
 | nilmap : Rep ok w .nilmap (.map none)
 | ref (l : List V) (b off : Nat) (us : Nat → Value)
   (ha : ∀ j, j < l.length → ok b (off + j) ∧ w.cell? ⟨b, off + j, none⟩ = some (us j))
   (hcell : ∀ j (h : j < l.length), (l[j]'h).cell = true)
   (hr : ∀ j (h : j < l.length), Rep ok w (l[j]'h) (us j)) : Rep ok w (.ref l) (.pointer (some ⟨b, off, none⟩))
 | gp (id off b : Nat) (hn : id < ok.next) (hb : ok.blk id = some b) : Rep ok w (.gp id off) (.pointer (some ⟨b, off, none⟩))
 | ge (id z : Nat) (i : Int) (off b : Nat) (hn : id < ok.next) (hb : ok.blk id = some b) (hi : 0 ≤ i) : Rep ok w (.ge id z i off) (.pointer (some ⟨b, i.toNat * z + off, none⟩))
 | gs0 (id : Nat) (hn : id < ok.next) (hb : ok.blk id = none) : Rep ok w (.gs id 0) (.slice none 0 0)
 | gs (id : Nat) (n : Int) (b : Nat) (hn : id < ok.next) (hb : ok.blk id = some b) (h0 : 0 ≤ n) (hc : n ≤ ok.cap id) (hm : ok.cap id ≤ maxLen) : Rep ok w (.gs id n) (.slice (some ⟨b, 0, none⟩) n.toNat (ok.cap id))
 | gm (id b : Nat) (hn : id < ok.next) (hb : ok.blk id = some b) : Rep ok w (.gm id) (.map (some b))
 | nils : Rep ok w .nils (.slice none 0 0)
 | xs (l : List V) (u : Value) (ad : Option Addr) (hu : u = .slice ad l.length l.length) (hr : Rep ok w (.slice l) u) : Rep ok w (.xs l) u
 | mth (f : Nat) (fst : List V) (cs : List Value) (hl : cs.length = fst.length)
   (hr : ∀ i (h : i < fst.length) (h' : i < cs.length), Rep ok w (fst[i]'h) (cs[i]'h')) : Rep ok w (.mth f fst) (.func (.func f) cs.toArray #[])
structure Ext (ok ok' : Oks) : Prop where
 next : ok.next ≤ ok'.next
 blk : ∀ id, id < ok.next → ok'.blk id = ok.blk id
 cap : ∀ id, id < ok.next → ok'.cap id = ok.cap id
theorem Ext.refl (ok : Oks) : Ext ok ok := ⟨Nat.le_refl _, fun _ _ => rfl, fun _ _ => rfl⟩
theorem Ext.trans {a b c : Oks} (h : Ext a b) (k : Ext b c) : Ext a c :=
 ⟨Nat.le_trans h.next k.next, fun id q => (k.blk id (Nat.lt_of_lt_of_le q h.next)).trans (h.blk id q), fun id q => (k.cap id (Nat.lt_of_lt_of_le q h.next)).trans (h.cap id q)⟩
structure EnvEq (ok ok' : Oks) : Prop where
 next : ok'.next = ok.next
 blk : ok'.blk = ok.blk
 cap : ok'.cap = ok.cap
theorem EnvEq.refl (ok : Oks) : EnvEq ok ok := ⟨rfl, rfl, rfl⟩
theorem EnvEq.trans {a b c : Oks} (h : EnvEq a b) (k : EnvEq b c) : EnvEq a c := ⟨k.next.trans h.next, k.blk.trans h.blk, k.cap.trans h.cap⟩
theorem EnvEq.ext {ok ok' : Oks} (h : EnvEq ok ok') : Ext ok ok' := ⟨by rw [h.next]; exact Nat.le_refl _, fun _ _ => by rw [h.blk], fun _ _ => by rw [h.cap]⟩
structure Same (ok ok' : Oks) (w w' : World) : Prop where
 sub : ∀ b o, ok b o → ok' b o
 cell : ∀ b o, ok b o → w'.cell? ⟨b, o, none⟩ = w.cell? ⟨b, o, none⟩
 env : Ext ok ok'
theorem Same.refl (ok : Oks) (w : World) : Same ok ok w w := ⟨fun _ _ h => h, fun _ _ _ => rfl, .refl _⟩
theorem Same.trans {ok ok' ok'' : Oks} {w w' w'' : World} (h : Same ok ok' w w') (k : Same ok' ok'' w' w'') : Same ok ok'' w w'' :=
 ⟨fun b o q => k.sub b o (h.sub b o q), fun b o q => (k.cell b o (h.sub b o q)).trans (h.cell b o q), h.env.trans k.env⟩
theorem Rep.mono {ok ok' : Oks} {w w' : World} (h : Same ok ok' w w') {x : V} {u : Value} (r : Rep ok w x u) : Rep ok' w' x u := by
 induction r with
 | bool b => exact .bool b
 | int k n => exact .int k n
 | str s => exact .str s
 | slice l a c z us hc hm ha hz hcell hr ih =>
  refine .slice l a c z us hc hm (fun hp => ?_) hz hcell ih
  obtain ⟨b, off, e, hx⟩ := ha hp
  exact ⟨b, off, e, fun i j hi hj => ⟨h.sub _ _ (hx i j hi hj).1, (h.cell _ _ (hx i j hi hj).1).trans (hx i j hi hj).2⟩⟩
 | agg l cs hl hcell hr ih => exact .agg l cs hl hcell ih
 | tup l cs hl hr ih => exact .tup l cs hl ih
 | nilp => exact .nilp
 | clo f cap cs hl hr ih => exact .clo f cap cs hl ih
 | nilfn => exact .nilfn
 | nilif => exact .nilif
 | iface t x u hr ih => exact .iface t x u ih
 | nilmap => exact .nilmap
 | ref l b off us ha hcell hr ih =>
  exact .ref l b off us (fun j hj => ⟨h.sub _ _ (ha j hj).1, (h.cell _ _ (ha j hj).1).trans (ha j hj).2⟩) hcell ih
 | gp id off b hn hb => exact .gp id off b (Nat.lt_of_lt_of_le hn h.env.next) ((h.env.blk id hn).trans hb)
 | ge id z i off b hn hb hi => exact .ge id z i off b (Nat.lt_of_lt_of_le hn h.env.next) ((h.env.blk id hn).trans hb) hi
 | gs0 id hn hb => exact .gs0 id (Nat.lt_of_lt_of_le hn h.env.next) ((h.env.blk id hn).trans hb)
 | gs id n b hn hb h0 hc hm =>
  have hcap := h.env.cap id hn
  rw [← hcap]
  exact .gs id n b (Nat.lt_of_lt_of_le hn h.env.next) ((h.env.blk id hn).trans hb) h0 (by rw [hcap]; exact hc) (by rw [hcap]; exact hm)
 | gm id b hn hb => exact .gm id b (Nat.lt_of_lt_of_le hn h.env.next) ((h.env.blk id hn).trans hb)
 | mth f fst cs hl hr ih => exact .mth f fst cs hl ih
 | nils => exact .nils
 | xs l u ad hu hr ih => exact .xs l u ad hu ih
def V.plain : V → Bool
 | .bool _ | .int _ _ | .str _ | .nilp | .nilfn | .nilif | .nilmap => true
 | _ => false
theorem Rep.plain {ok ok' : Oks} {w w' : World} {x : V} {u : Value} (r : Rep ok w x u) (h : x.plain = true) : Rep ok' w' x u := by
 cases r <;> simp [V.plain] at h
 ·exact .bool _
 ·exact .int _ _
 ·exact .str _
 ·exact .nilp
 ·exact .nilfn
 ·exact .nilif
 ·exact .nilmap
theorem Rep.oneCell {ok : Oks} {w : World} {x : V} {u : Value} (r : Rep ok w x u) (h : x.cell = true) : u.cells = #[u] ∧ u.oneCell' = true := by
 cases r <;> simp [V.cell] at h <;> first | exact ⟨rfl, rfl⟩ | (rename_i hu _; subst hu; exact ⟨rfl, rfl⟩)
structure Env where
 blk : Nat → Option Nat
 ha : Nat → Option Addr
 hl : Nat → Nat
 hc : Nat → Nat
def Env.hdr (E : Env) (id : Nat) : Value := .slice (E.ha id) (E.hl id) (E.hc id)
inductive RepD (E : Env) (ok : Oks) (w : World) : D → Value → Prop
 | any (u : Value) : RepD E ok w .any u
 | ub (b : Bool) : RepD E ok w .ub (.bool b)
 | lit (b : Bool) : RepD E ok w (.lit b) (.bool b)
 | v (x : V) (u : Value) (h : Rep ok w x u) : RepD E ok w (.v x) u
 | nils : RepD E ok w .nils (.slice none 0 0)
 | agg (l : List D) (cs : List Value) (hl : cs.length = l.length) (hcell : ∀ u ∈ cs, u.oneCell' = true)
   (hr : ∀ i (h : i < l.length) (h' : i < cs.length), RepD E ok w (l[i]'h) (cs[i]'h')) : RepD E ok w (.agg l) (.agg cs.toArray)
 | tup (l : List D) (cs : List Value) (hl : cs.length = l.length)
   (hr : ∀ i (h : i < l.length) (h' : i < cs.length), RepD E ok w (l[i]'h) (cs[i]'h')) : RepD E ok w (.tup l) (.tuple cs.toArray)
 | ptr (id off b : Nat) (hb : E.blk id = some b) : RepD E ok w (.ptr id off) (.pointer (some ⟨b, off, none⟩))
 | own (id : Nat) : RepD E ok w (.own id) (E.hdr id)
 | rptr (id z : Nat) (i : Int) (off b : Nat) (hb : E.blk id = some b) (hi : 0 ≤ i) : RepD E ok w (.rptr id z i off) (.pointer (some ⟨b, i.toNat * z + off, none⟩))
 | fn (f : Nat) (cap : List D) (cs : List Value) (hl : cs.length = cap.length)
   (hr : ∀ i (h : i < cap.length) (h' : i < cs.length), RepD E ok w (cap[i]'h) (cs[i]'h')) : RepD E ok w (.fn f cap) (.func (.func f) #[] cs.toArray)
theorem RepD.mono {E : Env} {ok ok' : Oks} {w w' : World} (h : Same ok ok' w w') {d : D} {u : Value} (r : RepD E ok w d u) : RepD E ok' w' d u := by
 induction r with
 | any u => exact .any u
 | ub b => exact .ub b
 | lit b => exact .lit b
 | v x u r => exact .v x u (r.mono h)
 | nils => exact .nils
 | agg l cs hl hcell hr ih => exact .agg l cs hl hcell ih
 | tup l cs hl hr ih => exact .tup l cs hl ih
 | ptr id off b hb => exact .ptr id off b hb
 | own id => exact .own id
 | rptr id z i off b hb hi => exact .rptr id z i off b hb hi
 | fn f cap cs hl hr ih => exact .fn f cap cs hl ih
structure RowAt (ok : Oks) (w : World) (b off z : Nat) (l : List V) : Prop where
 hz : ∀ i (h : i < l.length), (l[i]'h).flat.length = z
 hcell : ∀ i (h : i < l.length) j (hj : j < (l[i]'h).flat.length), ((l[i]'h).flat[j]'hj).cell = true
 hr : ∀ i (h : i < l.length) j (hj : j < (l[i]'h).flat.length), ∃ u, w.cell? ⟨b, off + (i * z + j), none⟩ = some u ∧ Rep ok w ((l[i]'h).flat[j]'hj) u
theorem RowAt.mono {ok ok' : Oks} {w w' : World} {b off z : Nat} {l : List V} (h : Same ok ok' w w') (r : RowAt ok w b off z l)
  (hc : ∀ i, i < l.length * z → w'.cell? ⟨b, off + i, none⟩ = w.cell? ⟨b, off + i, none⟩) : RowAt ok' w' b off z l := by
 refine ⟨r.hz, r.hcell, fun i hi j hj => ?_⟩
 obtain ⟨u, hu, hx⟩ := r.hr i hi j hj
 refine ⟨u, (hc _ ?_).trans hu, hx.mono h⟩
 have h1 := r.hz i hi
 have h2 : i * z + z ≤ l.length * z := by rw [← Nat.succ_mul]; exact Nat.mul_le_mul_right _ hi
 omega
def RowRep (E : Env) (ok : Oks) (w : World) (id z : Nat) (l : List V) (ex : Bool) : Prop :=
 (l = [] ∧ E.blk id = none ∧ E.hdr id = .slice none 0 0) ∨
 ∃ b cap cs e, E.blk id = some b ∧ E.hdr id = .slice (some ⟨b, 0, none⟩) l.length cap ∧ w.heap[b]? = some (.cells cs e) ∧ cs.size = cap * z ∧ l.length ≤ cap ∧ cap ≤ maxLen ∧
  RowAt ok w b 0 z l ∧ ∀ o, ok b o ↔ ex = false ∧ o < l.length * z
def BoxRep (E : Env) (ok : Oks) (w : World) (id : Nat) (l : List D) : Prop :=
 ∃ b e cs, E.blk id = some b ∧ w.heap[b]? = some (.cells cs e) ∧ cs.size = l.length ∧ (∀ o, ¬ ok b o) ∧
  ∀ j (h : j < l.length), ∃ u, cs[j]? = some u ∧ u.oneCell' = true ∧ RepD E ok w (l[j]'h) u
def CboxRep (E : Env) (ok : Oks) (w : World) (id : Nat) (l : List V) : Prop :=
 ∃ b, E.blk id = some b ∧ b < w.heap.size ∧ (∀ j (h : j < l.length), (l[j]'h).cell = true) ∧ ∀ j (h : j < l.length), ok b j ∧ ∃ u, w.cell? ⟨b, j, none⟩ = some u ∧ Rep ok w (l[j]'h) u
def GRep (ok : Oks) (w : World) (id : Nat) : GObj → Prop
 | .box l => ∃ b e cs, ok.blk id = some b ∧ w.heap[b]? = some (.cells cs e) ∧ cs.size = l.length ∧ (∀ o, ¬ ok b o) ∧
   ∀ j (h : j < l.length), ∃ u, cs[j]? = some u ∧ u.oneCell' = true ∧ Rep ok w (l[j]'h) u
 | .row z l => (l = [] ∧ ok.blk id = none) ∨
   ∃ b cs e, ok.blk id = some b ∧ w.heap[b]? = some (.cells cs e) ∧ ok.cap id * z ≤ cs.size ∧ l.length ≤ ok.cap id ∧ ok.cap id ≤ maxLen ∧ RowAt ok w b 0 z l ∧ ∀ o, ¬ ok b o
 | .map es clock => ∃ b ents, ok.blk id = some b ∧ w.heap[b]? = some (.map ents clock) ∧ (∀ o, ¬ ok b o) ∧ ents.size = es.length ∧
   ∀ i (h : i < es.length) (h' : i < ents.size), (es[i]'h).1 = (ents[i]'h').born ∧ Rep ok w (es[i]'h).2.1 (ents[i]'h').key ∧ Rep ok w (es[i]'h).2.2 (ents[i]'h').val
 | .sit s pos => ∃ b, ok.blk id = some b ∧ w.heap[b]? = some (.stringIter ⟨s.toArray⟩ pos) ∧ ∀ o, ¬ ok b o
 | .mit m since seen stepped => ∃ b r, ok.blk id = some b ∧ w.heap[b]? = some (.mapIter r since seen.toArray stepped) ∧ (∀ o, ¬ ok b o) ∧ match m with
   | none => r = none
   | some k => k < ok.next ∧ ∃ bk, ok.blk k = some bk ∧ r = some bk
 | .frow z l => (l = [] ∧ ok.blk id = none) ∨
   ∃ b, ok.blk id = some b ∧ b < w.heap.size ∧ l.length ≤ ok.cap id ∧ ok.cap id ≤ maxLen ∧ RowAt ok w b 0 z l ∧ ∀ j, j < l.length * z → ok b j
 | .arow z l => (l = [] ∧ ok.blk id = none) ∨
   ∃ b cs e, ok.blk id = some b ∧ w.heap[b]? = some (.cells cs e) ∧ ok.cap id * z ≤ cs.size ∧ l.length ≤ ok.cap id ∧ ok.cap id ≤ maxLen ∧ RowAt ok w b 0 z l ∧ (∀ o, o < l.length * z → ok b o) ∧ ∀ o, l.length * z ≤ o → o < ok.cap id * z → ¬ ok b o
structure GlOk (ok : Oks) (gh : GH) (w : World) : Prop where
 next : gh.next = ok.next
 obj : ∀ id o, gh.get id = some o → id < ok.next ∧ GRep ok w id o
 apart : ∀ i j o p b, gh.get i = some o → gh.get j = some p → i ≠ j → ¬ o.isF → ¬ p.isF → ok.blk i = some b → ok.blk j ≠ some b
def occG (ok : Oks) (gh : GH) (b : Nat) : Prop := ∃ id o, gh.get id = some o ∧ ¬ o.isF ∧ ok.blk id = some b
def AObj.isHeap : AObj → Prop
 | .heap _ _ => True
 | _ => False
def hk : Nat := 999999
def ObjRep (E : Env) (ok : Oks) (w : World) (id : Nat) : AObj → Prop
 | .box l => BoxRep E ok w id l
 | .cbox l => CboxRep E ok w id l
 | .row z l ex => RowRep E ok w id z l ex
 | .heap gh _ => id = hk ∧ GlOk ok gh w
def occ (E : Env) (ok : Oks) (id : Nat) : AObj → Nat → Prop
 | .heap gh _, b => occG ok gh b
 | .box _, b => E.blk id = some b
 | .cbox _, b => E.blk id = some b
 | .row _ _ _, b => E.blk id = some b
def look {α : Type} : List (Nat × α) → Nat → Option α
 | [], _ => none
 | (k, x) :: r, j => if k = j then some x else look r j
structure St where
 n : Nat
 sl : List (Nat × D)
 ob : List (Nat × AObj)
def St.get (S : St) (t : Nat) : D :=
 match look S.sl t with
 | some d => d
 | none => .any
def St.put (S : St) (dst : Option Nat) (d : D) : St :=
 match dst with
 | none => S
 | some t => if t < S.n then { S with sl := (t, d) :: S.sl } else S
structure Gh where
 w0 : World
 M : Nat → Prop
 ok0 : Oks
 heap : Bool
 lt : ∀ b o, ok0 b o → b < w0.heap.size
structure Conc (G : Gh) (E : Env) (ok : Oks) (S : St) (a : Act) (w : World) : Prop where
 n : a.tmps.size = S.n
 defers : a.defers = []
 slot : ∀ t, RepD E ok w (S.get t) (a.tmps.getD t undef)
 obj : ∀ id o, look S.ob id = some o → ObjRep E ok w id o
 apart : ∀ i j o p b, look S.ob i = some o → look S.ob j = some p → i ≠ j → occ E ok i o b → ¬ occ E ok j p b
 reg : ∀ i o b, look S.ob i = some o → occ E ok i o b → G.w0.heap.size ≤ b ∨ (o.isHeap ∧ G.M b)
 okb : ∀ b o, ok b o → b < w.heap.size
 sub : ∀ b o, G.ok0 b o → ok b o
 env : Ext G.ok0 ok
 envq : G.heap = false → EnvEq G.ok0 ok
 hp : ∀ i gh pub, look S.ob i = some (.heap gh pub) → G.heap = true
 newk : ∀ b o, ok b o → G.ok0 b o ∨ G.w0.heap.size ≤ b ∨ G.M b
 os : w.os = G.w0.os
 tape : w.tape = G.w0.tape
 output : w.output = G.w0.output
 size : G.w0.heap.size ≤ w.heap.size
 old : ∀ b, b < G.w0.heap.size → ¬ G.M b → w.heap[b]? = G.w0.heap[b]?
 keep : ∀ b o, G.ok0 b o → w.cell? ⟨b, o, none⟩ = G.w0.cell? ⟨b, o, none⟩
theorem Conc.regL {G : Gh} {E : Env} {ok : Oks} {S : St} {a : Act} {w : World} (c : Conc G E ok S a w) {i b : Nat} {o : AObj} (h : look S.ob i = some o) (hn : ¬ o.isHeap) (hb : occ E ok i o b) : G.w0.heap.size ≤ b :=
 (c.reg i o b h hb).elim id fun q => absurd q.1 hn
theorem cell_lt {w : World} {b o : Nat} {u : Value} (h : w.cell? ⟨b, o, none⟩ = some u) : b < w.heap.size := World.block_lt_of_cell? w _ h
theorem heap_lt {w : World} {b : Nat} {o : Obj} (h : w.heap[b]? = some o) : b < w.heap.size := (Array.getElem?_eq_some_iff.1 h).1
theorem cell_of_heap {w : World} {b o : Nat} {cs : Array Value} {e : TypeId} {fr : Nat × Nat} (h : w.heap[b]? = some (.cells cs e fr)) : w.cell? ⟨b, o, none⟩ = cs[o]? := by
 simp [World.cell?, h]
inductive Rs where
 | v (x : V)
 | o (z : Nat) (l : List V)
def RsRep (B : Nat) (ok : Oks) (w : World) : Rs → Value → Option Nat → Prop
 | .v x, u, g => g = none ∧ Rep ok w x u
 | .o z l, u, g => (l = [] ∧ g = none ∧ u = .slice none 0 0) ∨ ∃ b cap cs e, g = some b ∧ B ≤ b ∧ u = .slice (some ⟨b, 0, none⟩) l.length cap ∧ w.heap[b]? = some (.cells cs e) ∧ cs.size = cap * z ∧ l.length ≤ cap ∧ cap ≤ maxLen ∧
   RowAt ok w b 0 z l ∧ ∀ o, ¬ ok b o
def retVal (us : List Value) : Value :=
 match us with
 | [u] => u
 | us => .tuple us.toArray
def FnR (P : Program) (f : Nat) (xs : List V) (rs : List Rs) : Prop :=
 (∃ fn, P.funcs[f]? = some fn ∧ fn.body.isSome = true ∧ (fn.name == "runtime.NumGoroutine") = false) ∧
 ∀ (w : World) (ok : Oks) (vs : List Value), (∀ b o, ok b o → b < w.heap.size) → vs.length = xs.length → (∀ i (h : i < xs.length) (h' : i < vs.length), Rep ok w (xs[i]'h) (vs[i]'h')) →
  Calls P f vs.toArray w fun e w' => ∃ (us : List Value) (gs : List (Option Nat)) (ok' : Oks), e = .returned (retVal us) ∧ Below w.heap.size w w' ∧ (∀ b o, ok b o → ok' b o) ∧ EnvEq ok ok' ∧
   (∀ b o, ok' b o → ok b o ∨ (w.heap.size ≤ b ∧ b < w'.heap.size)) ∧ us.length = rs.length ∧ gs.length = rs.length ∧
   (∀ i (h : i < rs.length) (h' : i < us.length) (h'' : i < gs.length), RsRep w.heap.size ok' w' (rs[i]'h) (us[i]'h') (gs[i]'h'')) ∧
   (∀ (i j b : Nat), gs[i]? = some (some b) → gs[j]? = some (some b) → i = j)
structure Frame (M : Nat → Prop) (w w' : World) : Prop where
 os : w'.os = w.os
 tape : w'.tape = w.tape
 output : w'.output = w.output
 size : w.heap.size ≤ w'.heap.size
 old : ∀ b, b < w.heap.size → ¬ M b → w'.heap[b]? = w.heap[b]?
def FnG (P : Program) (f : Nat) (xs : List V) (gh : GH) (post : List Rs → GH → Prop) : Prop :=
 (∃ fn, P.funcs[f]? = some fn ∧ fn.body.isSome = true ∧ (fn.name == "runtime.NumGoroutine") = false) ∧
 ∀ (w : World) (ok : Oks) (vs : List Value), (∀ b o, ok b o → b < w.heap.size) → GlOk ok gh w → vs.length = xs.length → (∀ i (h : i < xs.length) (h' : i < vs.length), Rep ok w (xs[i]'h) (vs[i]'h')) →
  Calls P f vs.toArray w fun e w' => ∃ (us : List Value) (gs : List (Option Nat)) (ok' : Oks) (rs : List Rs) (gh' : GH), post rs gh' ∧ e = .returned (retVal us) ∧ Frame (occG ok gh) w w' ∧ Same ok ok' w w' ∧
   (∀ b o, ok' b o → b < w'.heap.size ∧ (ok b o ∨ occG ok gh b ∨ w.heap.size ≤ b)) ∧ us.length = rs.length ∧ gs.length = rs.length ∧
   (∀ i (h : i < rs.length) (h' : i < us.length) (h'' : i < gs.length), RsRep w.heap.size ok' w' (rs[i]'h) (us[i]'h') (gs[i]'h'')) ∧
   (∀ (i j b : Nat), gs[i]? = some (some b) → gs[j]? = some (some b) → i = j) ∧ GlOk ok' gh' w' ∧ (∀ b, occG ok' gh' b → (occG ok gh b ∨ w.heap.size ≤ b) ∧ ∀ i : Nat, gs[i]? ≠ some (some b))
open Go
inductive TK where
 | bool | int (k : IntKind) | str | slice (e : Nat) | arr (n e : Nat) | struct (fs : List (Nat × Nat)) | ptr (e : Nat) | fn | map | iface | other
structure TD where
 k : TK
 size : Nat
 bytes : Nat
 zero : List D
def constD1 : Value → D
 | .bool b => .lit b
 | .int k n => .v (.int k n)
 | .string s => .v (.str s.data.toList)
 | .slice none 0 0 => .nils
 | .pointer none => .v .nilp
 | .nilFunc => .v .nilfn
 | .nilIface => .v .nilif
 | .map none => .v .nilmap
 | .func (.func f) first cap => match first.toList, cap.toList with
  | [], [] => .fn f []
  | _, _ => .any
 | _ => .any
def constD : Value → D
 | .agg cs => if cs.toList.all (·.oneCell') then .agg (cs.toList.map constD1) else .any
 | v => constD1 v
def tkOf (P : Program) (t : Nat) : TK :=
 match P.underlying t with
 | some .bool => .bool
 | some (.int k) => .int k
 | some .string => .str
 | some (.slice e) => .slice e
 | some (.array n e) => .arr n e
 | some (.struct fs) => .struct (fs.toList.map fun f => (f.offset, f.type))
 | some (.pointer e) => .ptr e
 | some (.func ..) => .fn
 | some (.map ..) => .map
 | some (.interface _) => .iface
 | _ => .other
def tdOf (P : Program) (t : Nat) : Option TD :=
 match P.info? t with
 | some i => match i.zero with
  | some z => if z.cells.toList.all (·.oneCell') then if z.cells.size = i.size then some ⟨tkOf P t, i.size, i.bytes, z.cells.toList.map constD1⟩ else none else none
  | none => none
 | none => none
def tableOf (P : Program) : List (Option TD) := (List.range P.types.size).map (tdOf P)
def look? {α : Type} : List α → Nat → Option α
 | [], _ => none
 | x :: _, 0 => some x
 | _ :: r, n + 1 => look? r n
open Go
def T : List (Option TD) := [none,
 some { k := .fn, size := 1, bytes := 8, zero := [.v .nilfn] },
 some { k := .int .i64, size := 1, bytes := 8, zero := [.v (.int .i64 0)] },
 some { k := .int .i64, size := 1, bytes := 8, zero := [.v (.int .i64 0)] },
 some { k := .bool, size := 1, bytes := 1, zero := [.lit false] },
 some { k := .int .u8, size := 1, bytes := 1, zero := [.v (.int .u8 0)] },
 some { k := .int .u8, size := 1, bytes := 1, zero := [.v (.int .u8 0)] },
 some { k := .struct [(0, 2), (1, 3), (2, 4), (3, 6)], size := 4, bytes := 24, zero := [.v (.int .i64 0), .v (.int .i64 0), .lit false, .v (.int .u8 0)] },
 some { k := .struct [(0, 2), (1, 3), (2, 4), (3, 6)], size := 4, bytes := 24, zero := [.v (.int .i64 0), .v (.int .i64 0), .lit false, .v (.int .u8 0)] },
 some { k := .str, size := 1, bytes := 16, zero := [.v (.str [])] },
 some { k := .str, size := 1, bytes := 16, zero := [.v (.str [])] },
 some { k := .str, size := 1, bytes := 16, zero := [.v (.str [])] },
 some { k := .int .u64, size := 1, bytes := 8, zero := [.v (.int .u64 0)] },
 some { k := .struct [(0, 9), (1, 12)], size := 2, bytes := 24, zero := [.v (.str []), .v (.int .u64 0)] },
 some { k := .struct [(0, 9), (1, 12)], size := 2, bytes := 24, zero := [.v (.str []), .v (.int .u64 0)] },
 some { k := .ptr 209, size := 1, bytes := 8, zero := [.v .nilp] },
 some { k := .ptr 212, size := 1, bytes := 8, zero := [.v .nilp] },
 some { k := .ptr 220, size := 1, bytes := 8, zero := [.v .nilp] },
 some { k := .struct [(0, 17)], size := 1, bytes := 8, zero := [.v .nilp] },
 some { k := .struct [(0, 17)], size := 1, bytes := 8, zero := [.v .nilp] },
 some { k := .iface, size := 1, bytes := 16, zero := [.v .nilif] },
 some { k := .int .i32, size := 1, bytes := 4, zero := [.v (.int .i32 0)] },
 some { k := .int .u16, size := 1, bytes := 2, zero := [.v (.int .u16 0)] },
 some { k := .slice 47, size := 1, bytes := 24, zero := [.nils] },
 some { k := .fn, size := 1, bytes := 8, zero := [.v .nilfn] },
 some { k := .fn, size := 1, bytes := 8, zero := [.v .nilfn] },
 some { k := .ptr 37, size := 1, bytes := 8, zero := [.v .nilp] },
 some { k := .ptr 60, size := 1, bytes := 8, zero := [.v .nilp] },
 some { k := .fn, size := 1, bytes := 8, zero := [.v .nilfn] },
 some { k := .slice 65, size := 1, bytes := 24, zero := [.nils] },
 some { k := .struct [(0, 29), (1, 3), (2, 3), (3, 3), (4, 4), (5, 4), (6, 3), (7, 4), (8, 4), (9, 3)], size := 10, bytes := 80, zero := [.nils, .v (.int .i64 0), .v (.int .i64 0), .v (.int .i64 0), .lit false, .lit false, .v (.int .i64 0), .lit false, .lit false, .v (.int .i64 0)] },
 some { k := .struct [(0, 29), (1, 3), (2, 3), (3, 3), (4, 4), (5, 4), (6, 3), (7, 4), (8, 4), (9, 3)], size := 10, bytes := 80, zero := [.nils, .v (.int .i64 0), .v (.int .i64 0), .v (.int .i64 0), .lit false, .lit false, .v (.int .i64 0), .lit false, .lit false, .v (.int .i64 0)] },
 some { k := .fn, size := 1, bytes := 8, zero := [.v .nilfn] },
 some { k := .ptr 93, size := 1, bytes := 8, zero := [.v .nilp] },
 some { k := .struct [(0, 3), (1, 3)], size := 2, bytes := 16, zero := [.v (.int .i64 0), .v (.int .i64 0)] },
 some { k := .struct [(0, 3), (1, 3)], size := 2, bytes := 16, zero := [.v (.int .i64 0), .v (.int .i64 0)] },
 some { k := .struct [(0, 27), (1, 33), (2, 31), (12, 35)], size := 14, bytes := 112, zero := [.v .nilp, .v .nilp, .nils, .v (.int .i64 0), .v (.int .i64 0), .v (.int .i64 0), .lit false, .lit false, .v (.int .i64 0), .lit false, .lit false, .v (.int .i64 0), .v (.int .i64 0), .v (.int .i64 0)] },
 some { k := .struct [(0, 27), (1, 33), (2, 31), (12, 35)], size := 14, bytes := 112, zero := [.v .nilp, .v .nilp, .nils, .v (.int .i64 0), .v (.int .i64 0), .v (.int .i64 0), .lit false, .lit false, .v (.int .i64 0), .lit false, .lit false, .v (.int .i64 0), .v (.int .i64 0), .v (.int .i64 0)] },
 some { k := .fn, size := 1, bytes := 8, zero := [.v .nilfn] },
 some { k := .slice 9, size := 1, bytes := 24, zero := [.nils] },
 some { k := .int .u32, size := 1, bytes := 4, zero := [.v (.int .u32 0)] },
 some { k := .struct [(0, 3), (1, 3), (2, 40), (3, 40)], size := 4, bytes := 24, zero := [.v (.int .i64 0), .v (.int .i64 0), .v (.int .u32 0), .v (.int .u32 0)] },
 some { k := .struct [(0, 3), (1, 3), (2, 40), (3, 40)], size := 4, bytes := 24, zero := [.v (.int .i64 0), .v (.int .i64 0), .v (.int .u32 0), .v (.int .u32 0)] },
 some { k := .struct [(0, 5), (1, 39), (2, 3), (3, 40), (4, 42)], size := 8, bytes := 72, zero := [.v (.int .u8 0), .nils, .v (.int .i64 0), .v (.int .u32 0), .v (.int .i64 0), .v (.int .i64 0), .v (.int .u32 0), .v (.int .u32 0)] },
 some { k := .struct [(0, 5), (1, 39), (2, 3), (3, 40), (4, 42)], size := 8, bytes := 72, zero := [.v (.int .u8 0), .nils, .v (.int .i64 0), .v (.int .u32 0), .v (.int .i64 0), .v (.int .i64 0), .v (.int .u32 0), .v (.int .u32 0)] },
 some { k := .slice 5, size := 1, bytes := 24, zero := [.nils] },
 some { k := .struct [(0, 5), (1, 44), (9, 45), (10, 5), (11, 4)], size := 12, bytes := 112, zero := [.v (.int .u8 0), .v (.int .u8 0), .nils, .v (.int .i64 0), .v (.int .u32 0), .v (.int .i64 0), .v (.int .i64 0), .v (.int .u32 0), .v (.int .u32 0), .nils, .v (.int .u8 0), .lit false] },
 some { k := .struct [(0, 5), (1, 44), (9, 45), (10, 5), (11, 4)], size := 12, bytes := 112, zero := [.v (.int .u8 0), .v (.int .u8 0), .nils, .v (.int .i64 0), .v (.int .u32 0), .v (.int .i64 0), .v (.int .i64 0), .v (.int .u32 0), .v (.int .u32 0), .nils, .v (.int .u8 0), .lit false] },
 some { k := .fn, size := 1, bytes := 8, zero := [.v .nilfn] },
 some { k := .slice 44, size := 1, bytes := 24, zero := [.nils] },
 some { k := .int .i64, size := 1, bytes := 8, zero := [.v (.int .i64 0)] }, none,
 some { k := .fn, size := 1, bytes := 8, zero := [.v .nilfn] },
 some { k := .fn, size := 1, bytes := 8, zero := [.v .nilfn] },
 some { k := .fn, size := 1, bytes := 8, zero := [.v .nilfn] },
 some { k := .fn, size := 1, bytes := 8, zero := [.v .nilfn] },
 some { k := .slice 102, size := 1, bytes := 24, zero := [.nils] },
 some { k := .struct [(0, 4), (1, 3)], size := 2, bytes := 16, zero := [.lit false, .v (.int .i64 0)] },
 some { k := .struct [(0, 4), (1, 3)], size := 2, bytes := 16, zero := [.lit false, .v (.int .i64 0)] },
 some { k := .struct [(0, 56), (1, 3), (2, 3), (3, 3), (4, 4), (5, 4), (6, 58), (8, 58)], size := 10, bytes := 88, zero := [.nils, .v (.int .i64 0), .v (.int .i64 0), .v (.int .i64 0), .lit false, .lit false, .lit false, .v (.int .i64 0), .lit false, .v (.int .i64 0)] },
 some { k := .struct [(0, 56), (1, 3), (2, 3), (3, 3), (4, 4), (5, 4), (6, 58), (8, 58)], size := 10, bytes := 88, zero := [.nils, .v (.int .i64 0), .v (.int .i64 0), .v (.int .i64 0), .lit false, .lit false, .lit false, .v (.int .i64 0), .lit false, .v (.int .i64 0)] },
 some { k := .fn, size := 1, bytes := 8, zero := [.v .nilfn] },
 some { k := .slice 120, size := 1, bytes := 24, zero := [.nils] },
 some { k := .slice 135, size := 1, bytes := 24, zero := [.nils] },
 some { k := .struct [(0, 4), (1, 9), (2, 62), (3, 63)], size := 4, bytes := 72, zero := [.lit false, .v (.str []), .nils, .nils] },
 some { k := .struct [(0, 4), (1, 9), (2, 62), (3, 63)], size := 4, bytes := 72, zero := [.lit false, .v (.str []), .nils, .nils] },
 some { k := .slice 70, size := 1, bytes := 24, zero := [.nils] }, none,
 some { k := .fn, size := 1, bytes := 8, zero := [.v .nilfn] },
 some { k := .fn, size := 1, bytes := 8, zero := [.v .nilfn] },
 some { k := .struct [(0, 5), (1, 39), (2, 3), (3, 40), (4, 42)], size := 8, bytes := 72, zero := [.v (.int .u8 0), .nils, .v (.int .i64 0), .v (.int .u32 0), .v (.int .i64 0), .v (.int .i64 0), .v (.int .u32 0), .v (.int .u32 0)] }, none,
 some { k := .fn, size := 1, bytes := 8, zero := [.v .nilfn] }, none,
 some { k := .fn, size := 1, bytes := 8, zero := [.v .nilfn] }, none,
 some { k := .fn, size := 1, bytes := 8, zero := [.v .nilfn] },
 some { k := .fn, size := 1, bytes := 8, zero := [.v .nilfn] }, none,
 some { k := .fn, size := 1, bytes := 8, zero := [.v .nilfn] }, none,
 some { k := .fn, size := 1, bytes := 8, zero := [.v .nilfn] },
 some { k := .fn, size := 1, bytes := 8, zero := [.v .nilfn] },
 some { k := .fn, size := 1, bytes := 8, zero := [.v .nilfn] },
 some { k := .fn, size := 1, bytes := 8, zero := [.v .nilfn] }, none,
 some { k := .fn, size := 1, bytes := 8, zero := [.v .nilfn] },
 some { k := .fn, size := 1, bytes := 8, zero := [.v .nilfn] },
 some { k := .fn, size := 1, bytes := 8, zero := [.v .nilfn] },
 some { k := .fn, size := 1, bytes := 8, zero := [.v .nilfn] },
 some { k := .fn, size := 1, bytes := 8, zero := [.v .nilfn] },
 some { k := .fn, size := 1, bytes := 8, zero := [.v .nilfn] },
 some { k := .struct [(0, 27), (1, 3), (2, 3)], size := 3, bytes := 24, zero := [.v .nilp, .v (.int .i64 0), .v (.int .i64 0)] },
 some { k := .struct [(0, 27), (1, 3), (2, 3)], size := 3, bytes := 24, zero := [.v .nilp, .v (.int .i64 0), .v (.int .i64 0)] },
 some { k := .fn, size := 1, bytes := 8, zero := [.v .nilfn] }, none,
 some { k := .fn, size := 1, bytes := 8, zero := [.v .nilfn] },
 some { k := .fn, size := 1, bytes := 8, zero := [.v .nilfn] },
 some { k := .fn, size := 1, bytes := 8, zero := [.v .nilfn] },
 some { k := .fn, size := 1, bytes := 8, zero := [.v .nilfn] },
 some { k := .fn, size := 1, bytes := 8, zero := [.v .nilfn] },
 some { k := .fn, size := 1, bytes := 8, zero := [.v .nilfn] },
 some { k := .ptr 108, size := 1, bytes := 8, zero := [.v .nilp] },
 some { k := .map, size := 1, bytes := 8, zero := [.v .nilmap] },
 some { k := .struct [(0, 45), (1, 103)], size := 2, bytes := 32, zero := [.nils, .v .nilmap] },
 some { k := .struct [(0, 45), (1, 103)], size := 2, bytes := 32, zero := [.nils, .v .nilmap] },
 some { k := .slice 132, size := 1, bytes := 24, zero := [.nils] },
 some { k := .struct [(0, 4), (1, 105), (3, 105), (5, 106)], size := 6, bytes := 96, zero := [.lit false, .nils, .v .nilmap, .nils, .v .nilmap, .nils] },
 some { k := .struct [(0, 4), (1, 105), (3, 105), (5, 106)], size := 6, bytes := 96, zero := [.lit false, .nils, .v .nilmap, .nils, .v .nilmap, .nils] }, none,
 some { k := .fn, size := 1, bytes := 8, zero := [.v .nilfn] },
 some { k := .fn, size := 1, bytes := 8, zero := [.v .nilfn] },
 some { k := .fn, size := 1, bytes := 8, zero := [.v .nilfn] },
 some { k := .fn, size := 1, bytes := 8, zero := [.v .nilfn] }, none,
 some { k := .fn, size := 1, bytes := 8, zero := [.v .nilfn] }, none,
 some { k := .fn, size := 1, bytes := 8, zero := [.v .nilfn] },
 some { k := .fn, size := 1, bytes := 8, zero := [.v .nilfn] },
 some { k := .struct [(0, 9), (1, 3)], size := 2, bytes := 24, zero := [.v (.str []), .v (.int .i64 0)] },
 some { k := .struct [(0, 9), (1, 3)], size := 2, bytes := 24, zero := [.v (.str []), .v (.int .i64 0)] },
 some { k := .fn, size := 1, bytes := 8, zero := [.v .nilfn] },
 some { k := .fn, size := 1, bytes := 8, zero := [.v .nilfn] },
 some { k := .fn, size := 1, bytes := 8, zero := [.v .nilfn] },
 some { k := .fn, size := 1, bytes := 8, zero := [.v .nilfn] },
 some { k := .ptr 58, size := 1, bytes := 8, zero := [.v .nilp] },
 some { k := .fn, size := 1, bytes := 8, zero := [.v .nilfn] },
 some { k := .fn, size := 1, bytes := 8, zero := [.v .nilfn] },
 some { k := .fn, size := 1, bytes := 8, zero := [.v .nilfn] },
 some { k := .ptr 105, size := 1, bytes := 8, zero := [.v .nilp] },
 some { k := .fn, size := 1, bytes := 8, zero := [.v .nilfn] },
 some { k := .struct [(0, 3), (1, 130)], size := 2, bytes := 16, zero := [.v (.int .i64 0), .v .nilfn] },
 some { k := .struct [(0, 3), (1, 130)], size := 2, bytes := 16, zero := [.v (.int .i64 0), .v .nilfn] },
 some { k := .fn, size := 1, bytes := 8, zero := [.v .nilfn] },
 some { k := .struct [(0, 4), (1, 3), (2, 9), (3, 9), (4, 120)], size := 6, bytes := 72, zero := [.lit false, .v (.int .i64 0), .v (.str []), .v (.str []), .v (.str []), .v (.int .i64 0)] },
 some { k := .struct [(0, 4), (1, 3), (2, 9), (3, 9), (4, 120)], size := 6, bytes := 72, zero := [.lit false, .v (.int .i64 0), .v (.str []), .v (.str []), .v (.str []), .v (.int .i64 0)] },
 some { k := .fn, size := 1, bytes := 8, zero := [.v .nilfn] }, none,
 some { k := .fn, size := 1, bytes := 8, zero := [.v .nilfn] }, none,
 some { k := .fn, size := 1, bytes := 8, zero := [.v .nilfn] }, none,
 some { k := .fn, size := 1, bytes := 8, zero := [.v .nilfn] }, none,
 some { k := .fn, size := 1, bytes := 8, zero := [.v .nilfn] },
 some { k := .fn, size := 1, bytes := 8, zero := [.v .nilfn] },
 some { k := .int .u64, size := 1, bytes := 8, zero := [.v (.int .u64 0)] },
 some { k := .fn, size := 1, bytes := 8, zero := [.v .nilfn] }, none,
 some { k := .fn, size := 1, bytes := 8, zero := [.v .nilfn] },
 some { k := .fn, size := 1, bytes := 8, zero := [.v .nilfn] },
 some { k := .slice 55, size := 1, bytes := 24, zero := [.nils] },
 some { k := .fn, size := 1, bytes := 8, zero := [.v .nilfn] },
 some { k := .fn, size := 1, bytes := 8, zero := [.v .nilfn] },
 some { k := .int .u64, size := 1, bytes := 8, zero := [.v (.int .u64 0)] },
 some { k := .slice 45, size := 1, bytes := 24, zero := [.nils] },
 some { k := .slice 154, size := 1, bytes := 24, zero := [.nils] },
 some { k := .fn, size := 1, bytes := 8, zero := [.v .nilfn] },
 some { k := .fn, size := 1, bytes := 8, zero := [.v .nilfn] },
 some { k := .int .u32, size := 1, bytes := 4, zero := [.v (.int .u32 0)] },
 some { k := .fn, size := 1, bytes := 8, zero := [.v .nilfn] },
 some { k := .fn, size := 1, bytes := 8, zero := [.v .nilfn] },
 some { k := .fn, size := 1, bytes := 8, zero := [.v .nilfn] },
 some { k := .fn, size := 1, bytes := 8, zero := [.v .nilfn] },
 some { k := .fn, size := 1, bytes := 8, zero := [.v .nilfn] },
 some { k := .fn, size := 1, bytes := 8, zero := [.v .nilfn] }, none,
 some { k := .fn, size := 1, bytes := 8, zero := [.v .nilfn] },
 some { k := .fn, size := 1, bytes := 8, zero := [.v .nilfn] },
 some { k := .fn, size := 1, bytes := 8, zero := [.v .nilfn] },
 some { k := .fn, size := 1, bytes := 8, zero := [.v .nilfn] },
 some { k := .fn, size := 1, bytes := 8, zero := [.v .nilfn] },
 some { k := .fn, size := 1, bytes := 8, zero := [.v .nilfn] },
 some { k := .fn, size := 1, bytes := 8, zero := [.v .nilfn] },
 some { k := .fn, size := 1, bytes := 8, zero := [.v .nilfn] },
 some { k := .fn, size := 1, bytes := 8, zero := [.v .nilfn] }, none,
 some { k := .fn, size := 1, bytes := 8, zero := [.v .nilfn] },
 some { k := .arr 8 154, size := 8, bytes := 64, zero := [.v (.int .u64 0), .v (.int .u64 0), .v (.int .u64 0), .v (.int .u64 0), .v (.int .u64 0), .v (.int .u64 0), .v (.int .u64 0), .v (.int .u64 0)] }, none,
 some { k := .fn, size := 1, bytes := 8, zero := [.v .nilfn] }, none,
 some { k := .fn, size := 1, bytes := 8, zero := [.v .nilfn] },
 some { k := .fn, size := 1, bytes := 8, zero := [.v .nilfn] },
 some { k := .fn, size := 1, bytes := 8, zero := [.v .nilfn] },
 some { k := .fn, size := 1, bytes := 8, zero := [.v .nilfn] },
 some { k := .fn, size := 1, bytes := 8, zero := [.v .nilfn] },
 some { k := .fn, size := 1, bytes := 8, zero := [.v .nilfn] },
 some { k := .fn, size := 1, bytes := 8, zero := [.v .nilfn] },
 some { k := .arr 256 40, size := 256, bytes := 1024, zero := List.replicate 256 (.v (.int .u32 0)) },
 some { k := .fn, size := 1, bytes := 8, zero := [.v .nilfn] },
 some { k := .fn, size := 1, bytes := 8, zero := [.v .nilfn] },
 some { k := .fn, size := 1, bytes := 8, zero := [.v .nilfn] },
 some { k := .fn, size := 1, bytes := 8, zero := [.v .nilfn] }, none,
 some { k := .fn, size := 1, bytes := 8, zero := [.v .nilfn] }, none,
 some { k := .fn, size := 1, bytes := 8, zero := [.v .nilfn] }, none,
 some { k := .fn, size := 1, bytes := 8, zero := [.v .nilfn] },
 some { k := .fn, size := 1, bytes := 8, zero := [.v .nilfn] },
 some { k := .fn, size := 1, bytes := 8, zero := [.v .nilfn] },
 some { k := .fn, size := 1, bytes := 8, zero := [.v .nilfn] },
 some { k := .fn, size := 1, bytes := 8, zero := [.v .nilfn] },
 some { k := .fn, size := 1, bytes := 8, zero := [.v .nilfn] },
 some { k := .fn, size := 1, bytes := 8, zero := [.v .nilfn] },
 some { k := .fn, size := 1, bytes := 8, zero := [.v .nilfn] },
 some { k := .fn, size := 1, bytes := 8, zero := [.v .nilfn] },
 some { k := .struct [(0, 17), (1, 17), (2, 17), (3, 9)], size := 4, bytes := 40, zero := [.v .nilp, .v .nilp, .v .nilp, .v (.str [])] },
 some { k := .struct [(0, 17), (1, 17), (2, 17), (3, 9)], size := 4, bytes := 40, zero := [.v .nilp, .v .nilp, .v .nilp, .v (.str [])] },
 some { k := .arr 0 16, size := 0, bytes := 0, zero := [] },
 some { k := .struct [(0, 210)], size := 0, bytes := 0, zero := [] },
 some { k := .struct [(0, 210)], size := 0, bytes := 0, zero := [] },
 some { k := .int .u8, size := 1, bytes := 1, zero := [.v (.int .u8 0)] },
 some { k := .int .u8, size := 1, bytes := 1, zero := [.v (.int .u8 0)] },
 some { k := .fn, size := 1, bytes := 8, zero := [.v .nilfn] },
 some { k := .ptr 5, size := 1, bytes := 8, zero := [.v .nilp] },
 some { k := .int .i32, size := 1, bytes := 4, zero := [.v (.int .i32 0)] },
 some { k := .int .i32, size := 1, bytes := 4, zero := [.v (.int .i32 0)] },
 some { k := .struct [(0, 12), (1, 12), (2, 40), (3, 213), (4, 5), (5, 5), (6, 214), (7, 215), (8, 216), (9, 217), (10, 218)], size := 11, bytes := 48, zero := [.v (.int .u64 0), .v (.int .u64 0), .v (.int .u32 0), .v (.int .u8 0), .v (.int .u8 0), .v (.int .u8 0), .v (.int .u8 0), .v .nilfn, .v .nilp, .v (.int .i32 0), .v (.int .i32 0)] },
 some { k := .struct [(0, 12), (1, 12), (2, 40), (3, 213), (4, 5), (5, 5), (6, 214), (7, 215), (8, 216), (9, 217), (10, 218)], size := 11, bytes := 48, zero := [.v (.int .u64 0), .v (.int .u64 0), .v (.int .u32 0), .v (.int .u8 0), .v (.int .u8 0), .v (.int .u8 0), .v (.int .u8 0), .v .nilfn, .v .nilp, .v (.int .i32 0), .v (.int .i32 0)] },
 some { k := .other, size := 1, bytes := 8, zero := [.v .nilp] }]
set_option maxRecDepth 100000 in
theorem T_ok : tableOf Tryz.prog = T := by kernel_rfl
end Go.Proofs.YthioccbgjkbmdaaGreat.AM
