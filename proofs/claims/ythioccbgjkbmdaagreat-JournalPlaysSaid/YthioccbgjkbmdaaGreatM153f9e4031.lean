/-
 The common heap: slices of rows that are only added to; maps with names as keys.
-/
import Derived.Test.YthioccbgjkbmdaaGreatM149b55b04b
import Derived.MapKept
import Derived.Maps.RangeRun
import Derived.Test.YthioccbgjkbmdaaGreatM135e2507fb
set_option linter.unusedVariables false
set_option linter.unusedSimpArgs false
set_option linter.unusedSectionVars false
namespace Go.Proofs.YthioccbgjkbmdaaGreat.AM
open Go Go.RowKit
def SlIs (gh : GH) (z : Nat) (l : List V) (x : V) : Prop := (x = .nils ∧ l = []) ∨ x = .xs l ∨ x = .slice l ∨ ∃ id, x = .gs id (l.length : Int) ∧ gh.get id = some (.arow z l)
theorem gs_slice {ok : Oks} {gh : GH} {w : World} (gl : GlOk ok gh w) {id z : Nat} {l : List V} {n : Int} {u : Value} (hg : gh.get id = some (.arow z l)) (hn : n ≤ l.length) (hr : Rep ok w (.gs id n) u) : Rep ok w (.slice (l.take n.toNat)) u := by
 obtain ⟨_, h⟩ := rep_gs hr
 rcases h with ⟨rfl, q, rfl⟩ | ⟨b, q, h0, hc, hm, rfl⟩
 ·simp only [Int.toNat_zero, List.take_zero]; exact rep_nil_slice _ _
 rcases (gl.obj _ _ hg).2 with ⟨_, h1⟩ | ⟨b', cs, e, h1, h2, h3, h4, h5, h6, h7, _⟩
 ·rw [q] at h1; cases h1
 rw [q] at h1; cases h1
 have hlen : (l.take n.toNat).length = n.toNat := by rw [List.length_take]; omega
 have := rep_row (h6.take n.toNat) (cap := ok.cap id) (fun j hj => by
  rw [Nat.zero_add]
  rw [hlen] at hj
  exact h7 _ (Nat.lt_of_lt_of_le hj (Nat.mul_le_mul_right _ (by omega)))) (by omega) hm
 rw [hlen] at this
 exact this
theorem rep_sl {ok : Oks} {w : World} {l : List V} {u : Value} (r : Rep ok w (.slice l) u) : ∃ (a : Option Addr) (c z : Nat) (us : Nat → Nat → Value), u = .slice a l.length c ∧ l.length ≤ c ∧ c ≤ maxLen ∧
  (0 < l.length → ∃ b off, a = some ⟨b, off, none⟩ ∧ ∀ i j, i < l.length → j < z → ok b (off + (i * z + j)) ∧ w.cell? ⟨b, off + (i * z + j), none⟩ = some (us i j)) ∧
  (∀ i (h : i < l.length), (l[i]'h).flat.length = z) ∧ (∀ i (h : i < l.length) j (hj : j < (l[i]'h).flat.length), ((l[i]'h).flat[j]'hj).cell = true) ∧ ∀ i (h : i < l.length) j (hj : j < (l[i]'h).flat.length), Rep ok w ((l[i]'h).flat[j]'hj) (us i j) := by
 cases r with
 | slice _ a c z us hc hm ha hz hcell hr => exact ⟨a, c, z, us, rfl, hc, hm, ha, hz, hcell, hr⟩
theorem SlIs.rep {gh : GH} {z : Nat} {l : List V} {x : V} (h : SlIs gh z l x) {ok : Oks} {w : World} (gl : GlOk ok gh w) {u : Value} (hr : Rep ok w x u) : Rep ok w (.slice l) u := by
 rcases h with ⟨rfl, rfl⟩ | rfl | rfl | ⟨id, rfl, hg⟩
 ·cases hr; exact rep_nil_slice _ _
 ·cases hr; rename_i q; exact q
 ·exact hr
 ·have := gs_slice gl hg (Int.le_refl _) hr
  simpa using this
section
variable {P : Program} (hT : tableOf P = T)
include hT
theorem gq_slice3 {t e : TypeId} {x y1 y2 : Operand} {gh : GH} {y : V} {s : List V} {m : Int} {k k' : IntKind} (hy : SlIs gh (tyOf e).size s y) (hk : (tyOf t).k = .slice e) (hkn : known (tyOf e).k = true) (h1 : 0 ≤ m) (h2 : m ≤ s.length) (hz : ∀ x ∈ s, x.flat.length = (tyOf e).size) : GQ P (.slice t x none (some y1) (some y2)) [y, .int k m, .int k' m] gh (.xs (s.take m.toNat)) := by
 intro ok w a o ho gl hokb hxs
 have hr := hy.rep gl (hxs.get 0 rfl (by simp [Op.operands]; rfl))
 have e1 := rep_int (hxs.get 1 rfl (y := y1) (by simp [Op.operands]))
 have e2 := rep_int (hxs.get 2 rfl (y := y2) (by simp [Op.operands]))
 obtain ⟨ad, c, z, us, he, hc, hmx, ha, hzz, hcell, hrr⟩ := rep_sl hr
 have hlen : (s.take m.toNat).length = m.toNat := by rw [List.length_take]; omega
 have hm0 : (fun x : Addr => x.add 0) = id := by funext q; simp [Addr.add]
 refine ⟨.slice ad m.toNat m.toNat, ?_, .xs _ _ ad (by rw [hlen]) ?_⟩
 ·have b1 : ∀ cd, (Instr.sliceBound (.int k' m) c cd).run P w = .ok m.toNat w := fun cd => run_bound P w k' m c cd h1 (by omega)
  have b2 : ∀ cd, (Instr.sliceBound (.int k m) m.toNat cd).run P w = .ok m.toNat w := fun cd => run_bound P w k m m.toNat cd h1 (by omega)
  have hb : (Instr.sliceBounds true s.length c none (some (.int k m)) (some (.int k' m))).run P w = .ok (0, m.toNat, m.toNat) w := by
   simp [Instr.sliceBounds, b1, b2]
  simp only [execOp, ho, Sem.run_bind, he, Option.map_none, Option.map_some, e1, e2]
  simp [Instr.sliceAt, Instr.slice, run_underlying (ty_slice hT hk), hb, ty_size hT (known_ne' hkn), hm0]
 ·suffices h : Rep ok w (.slice (s.take m.toNat)) (.slice ad (s.take m.toNat).length (s.take m.toNat).length) by rw [hlen] at h; exact h
  refine .slice _ ad _ z us (Nat.le_refl _) (by rw [hlen]; omega) (fun hp => ?_) (fun i hi => ?_) (fun i hi j hj => ?_) (fun i hi j hj => ?_)
  ·obtain ⟨b, off, q1, q2⟩ := ha (by rw [hlen] at hp; omega)
   exact ⟨b, off, q1, fun i j hi hj => q2 i j (by rw [hlen] at hi; omega) hj⟩
  ·simp only [List.getElem_take]; exact hzz i (by rw [hlen] at hi; omega)
  ·simp only [List.getElem_take]; exact hcell i (by rw [hlen] at hi; omega) j (by simpa using hj)
  ·simp only [List.getElem_take]; exact hrr i (by rw [hlen] at hi; omega) j (by simpa using hj)
theorem gq_lenS {c : Call} {t e : TypeId} {x : Operand} {gh : GH} {y : V} {s : List V} (hy : SlIs gh (tyOf e).size s y) (hc : c.callee = .builtin .len) (ha : c.args = #[x]) (hat : c.argTypes = #[t]) (ht : (tyOf t).k = .slice e) : GQ P (.call c) [y] gh (.int .i64 s.length) := by
 intro ok w a o ho gl hokb hx
 have hr := hy.rep gl (hx.get 0 rfl (by simp [Op.operands, Call.operands, hc, ha]; rfl))
 obtain ⟨ad, cap, z, us, he, _⟩ := rep_sl hr
 refine ⟨.int .i64 s.length, ?_, .int _ _⟩
 simp only [execOp, ho, resolve, hc, Sem.run_bind, Sem.run_pure, Result.andThen_ok, invoke, builtin, hat, ha]
 simp [he, Builtin.len_, run_underlying (ty_slice hT ht), goInt]
omit hT in
def isK (k : List UInt8) : V → Bool
 | .str s => s == k
 | _ => false
omit hT in
def mIdx (es : List (Nat × V × V)) (k : List UInt8) : Option Nat := es.findIdx? fun e => isK k e.2.1
omit hT in
def StrKeys (es : List (Nat × V × V)) : Prop := ∀ e ∈ es, ∃ s, e.2.1 = .str s
omit hT in
theorem beq_mk (a b : List UInt8) : ((⟨a.toArray⟩ : ByteArray) == ⟨b.toArray⟩) = (a == b) := by
 rw [Bool.eq_iff_iff, MapKept.bytes_beq, beq_iff_eq]
 exact ⟨fun h => by have := congrArg (fun x : ByteArray => x.data.toList) h; simpa using this, fun h => by rw [h]⟩
omit hT in
theorem rep_strV {ok : Oks} {w : World} {s : List UInt8} {u : Value} (h : Rep ok w (.str s) u) : u = .string ⟨s.toArray⟩ := by cases h; rfl
omit hT in
theorem findNow_rep {ok : Oks} {w : World} (k : List UInt8) : ∀ (es : List (Nat × V × V)) (l : List MapEntry) (i0 : Nat), l.length = es.length → StrKeys es → (∀ i (h : i < es.length) (h' : i < l.length), Rep ok w (es[i]'h).2.1 (l[i]'h').key) →
  (mIdx es k = none ∧ Instr.findNow .string (.string ⟨k.toArray⟩) l i0 = some none) ∨ ∃ j e, mIdx es k = some j ∧ l[j]? = some e ∧ Instr.findNow .string (.string ⟨k.toArray⟩) l i0 = some (some (i0 + j, e.val)) ∧ e.key = .string ⟨k.toArray⟩
 | [], [], i0, _, _, _ => .inl ⟨rfl, rfl⟩
 | x :: es, e :: l, i0, hl, hs, hr => by
  obtain ⟨s, hx⟩ := hs x (by simp)
  have hk : e.key = .string ⟨s.toArray⟩ := by
   have := hr 0 (by simp) (by simp)
   simp only [List.getElem_cons_zero, hx] at this
   exact rep_strV this
  have hidx : mIdx (x :: es) k = if (s == k) = true then some 0 else (mIdx es k).map (· + 1) := by
   simp only [mIdx, List.findIdx?_cons, hx, isK]
  have hnow : Instr.sameNow .string (.string ⟨k.toArray⟩) e.key = some (s == k) := by
   rw [hk]; simp only [Instr.sameNow, beq_mk]
   rw [show (k == s) = (s == k) from by rw [Bool.eq_iff_iff, beq_iff_eq, beq_iff_eq]; exact ⟨Eq.symm, Eq.symm⟩]
  cases hb : (s == k) with
  | true =>
   rw [hb] at hidx hnow
   refine .inr ⟨0, e, hidx, rfl, by simp [Instr.findNow, hnow], ?_⟩
   rw [hk, eq_of_beq hb]
  | false =>
   rw [hb] at hidx hnow
   rcases findNow_rep k es l (i0 + 1) (by simpa using hl) (fun y hy => hs y (List.mem_cons_of_mem _ hy)) (fun i hi hi' => hr (i + 1) (by simpa using hi) (by simpa using hi')) with ⟨h1, h2⟩ | ⟨j, e', h1, h2, h3, h4⟩
   ·exact .inl ⟨by rw [hidx, h1]; rfl, by simp [Instr.findNow, hnow, h2]⟩
   ·exact .inr ⟨j + 1, e', by rw [hidx, h1]; rfl, by simpa using h2, by simp [Instr.findNow, hnow, h3]; omega, h4⟩
 | [], _ :: _, _, hl, _, _ => by simp at hl
 | _ :: _, [], _, hl, _, _ => by simp at hl
omit hT in
theorem map_of {ok : Oks} {gh : GH} {w : World} (gl : GlOk ok gh w) {id b clock : Nat} {es : List (Nat × V × V)} (hg : gh.get id = some (.map es clock)) (hb : ok.blk id = some b) : ∃ ents, w.heap[b]? = some (.map ents clock) ∧ (∀ o, ¬ ok b o) ∧ ents.size = es.length ∧
   ∀ i (h : i < es.length) (h' : i < ents.size), (es[i]'h).1 = (ents[i]'h').born ∧ Rep ok w (es[i]'h).2.1 (ents[i]'h').key ∧ Rep ok w (es[i]'h).2.2 (ents[i]'h').val := by
 obtain ⟨b', ents, h1, h2⟩ := (gl.obj _ _ hg).2
 rw [hb] at h1; cases h1
 exact ⟨ents, h2⟩
omit hT in
theorem find_rep {ok : Oks} {w : World} {es : List (Nat × V × V)} {ents : Array MapEntry} {kt : TypeId} (k : List UInt8) (hkt : P.underlying kt = some .string) (hs : StrKeys es) (h3 : ents.size = es.length) (h4 : ∀ i (h : i < es.length) (h' : i < ents.size), (es[i]'h).1 = (ents[i]'h').born ∧ Rep ok w (es[i]'h).2.1 (ents[i]'h').key ∧ Rep ok w (es[i]'h).2.2 (ents[i]'h').val) (w' : World) :
  (mIdx es k = none ∧ (Instr.findKey kt (.string ⟨k.toArray⟩) ents.toList).run P w' = .ok none w') ∨ ∃ j e, mIdx es k = some j ∧ ents[j]? = some e ∧ e.key = .string ⟨k.toArray⟩ ∧ (Instr.findKey kt (.string ⟨k.toArray⟩) ents.toList).run P w' = .ok (some (j, e.val)) w' := by
 rcases findNow_rep k es ents.toList 0 (by simpa using h3) hs (fun i h h' => by simpa using (h4 i h (by simpa using h')).2.1) with ⟨h1, h2⟩ | ⟨j, e, h1, h2, h5, h6⟩
 ·exact .inl ⟨h1, MapKept.run_findKey hkt h2⟩
 ·rw [Nat.zero_add] at h5
  exact .inr ⟨j, e, h1, by simpa using h2, h6, MapKept.run_findKey hkt h5⟩
theorem gq_lookup {t kt et : TypeId} {m x : Operand} {gh : GH} {id clock : Nat} {es : List (Nat × V × V)} {k : List UInt8} {z : V} (hm : P.underlying t = some (.map kt et)) (hkt : P.underlying kt = some .string) (hg : gh.get id = some (.map es clock)) (hs : StrKeys es) (hz : ∃ zv, (∀ w, (zeroValue et).run P w = .ok zv w) ∧ ∀ ok w, Rep ok w z zv) :
  GQ P (.lookup t m x true) [.gm id, .str k] gh (match mIdx es k with
   | some j => .tup [(es[j]?.map (·.2.2)).getD z, .bool true]
   | none => .tup [z, .bool false]) := by
 intro ok w a o ho gl hokb hx
 obtain ⟨b, hn, hb, he⟩ := rep_gm (hx.get 0 rfl (by simp [Op.operands]; rfl))
 have hkv := rep_strV (hx.get 1 rfl (y := x) (by simp [Op.operands]))
 obtain ⟨ents, h2, h5, h3, h4⟩ := map_of gl hg hb
 obtain ⟨zv, hz1, hz2⟩ := hz
 have hck := MapKept.run_checkKey (P := P) (w := w) (k := .string ⟨k.toArray⟩) hkt (by simp [MapKept.IsKey]) ents.isEmpty 9999
 rcases find_rep (P := P) k hkt hs h3 h4 w with ⟨q1, q2⟩ | ⟨j, e, q1, q2, q3, q4⟩
 ·rw [q1]
  refine ⟨.tuple #[zv, .bool false], ?_, .tup _ [zv, .bool false] rfl fun i h h' => ?_⟩
  ·simp only [execOp, ho, Sem.run_bind, he, hkv]
   simp [Instr.lookup, run_underlying hm, MapKept.run_getObj_map h2, hck, q2, hz1]
  ·match i, h, h' with
   | 0, _, _ => exact hz2 _ _
   | 1, _, _ => exact .bool _
 ·rw [q1]
  obtain ⟨hj, hje⟩ := Array.getElem?_eq_some_iff.1 q2
  have hj' : j < es.length := by omega
  refine ⟨.tuple #[e.val, .bool true], ?_, .tup _ [e.val, .bool true] rfl fun i h h' => ?_⟩
  ·simp only [execOp, ho, Sem.run_bind, he, hkv]
   simp [Instr.lookup, run_underlying hm, MapKept.run_getObj_map h2, hck, q4]
  ·match i, h, h' with
   | 0, _, _ =>
    have := (h4 j hj' hj).2.2
    rw [hje] at this
    simpa [List.getElem?_eq_getElem hj'] using this
   | 1, _, _ => exact .bool _
end
open Go Go.RowKit
open Go.ChangeMaps (setBlock)
def mSet (es : List (Nat × V × V)) (clock : Nat) (k : List UInt8) (v : V) : List (Nat × V × V) :=
 match mIdx es k with
 | some j => es.set j ((es[j]?.map (·.1)).getD 0, .str k, v)
 | none => es ++ [(clock, .str k, v)]
def mClk (es : List (Nat × V × V)) (clock : Nat) (k : List UInt8) : Nat :=
 match mIdx es k with
 | some _ => clock
 | none => clock + 1
def mDel (es : List (Nat × V × V)) (k : List UInt8) : List (Nat × V × V) :=
 match mIdx es k with
 | some j => es.eraseIdx j
 | none => es
theorem heap_setBlock {w : World} {r : Nat} {o o' : Obj} (hb : w.heap[r]? = some o) : (setBlock w r o').heap[r]? = some o' ∧ (∀ k, k ≠ r → (setBlock w r o').heap[k]? = w.heap[k]?) ∧ (setBlock w r o').heap.size = w.heap.size := by
 obtain ⟨h1, h2⟩ := MapKept.heap_set (o' := o') hb
 refine ⟨by simpa [setBlock] using h1, fun k hk => by simpa [setBlock] using h2 k hk, by simp [setBlock]⟩
theorem same_block {ok : Oks} {w : World} {b : Nat} {o o' : Obj} (hb : w.heap[b]? = some o) (hn : ∀ k, ¬ ok b k) : Same ok ok w (setBlock w b o') :=
 ⟨fun _ _ h => h, fun k x h => by
  have hk : k ≠ b := fun q => by subst q; exact hn _ h
  simp only [World.cell?, (heap_setBlock hb).2.1 k hk], .refl _⟩
theorem GOp.block {P : Program} {o : Oper} {xs : List V} {gh : GH} {id : Nat} {o0 : GObj} (hg : gh.get id = some o0) (hf : ¬ o0.isF) (ha : ¬ o0.isA) {R : V → GH → Prop}
  (h : ∀ (ok : Oks) (w : World) (a : Act), GlOk ok gh w → (∀ b o, ok b o → b < w.heap.size) → OpsRep ok w a o.op xs → ∃ b x x' v r o1 w1, ok.blk id = some b ∧ w.heap[b]? = some x ∧ (w1 = w ∨ w1 = w.drew) ∧ ((execOp a.eval o).run P w = .ok (.value v) (setBlock w1 b x') ∨ ((execOp a.eval o).run P w = .ok .skip (setBlock w1 b x') ∧ v = undef)) ∧ R r (gh.set id o1) ∧ ¬ o1.isF ∧ GRep ok (setBlock w b x') id o1 ∧ Rep ok (setBlock w b x') r v) : GOp P o xs gh R := by
 refine GOp.of_run fun ok w a gl hokb hx => ?_
 obtain ⟨b, x, x', v, r, o1, w1, hb, hw, hw1, hrun, hR, hf1, hr1, hv⟩ := h ok w a gl hokb hx
 obtain ⟨k1, k2, k3⟩ := heap_setBlock (o' := x') hw
 have hs := same_block (o' := x') hw ((gl.obj _ _ hg).2.not_ok hf ha hb)
 have gl1 := gl.upd hg hf ha hb k2 k3 hf1 hr1
 have e : ∀ w1 : World, (w1 = w ∨ w1 = w.drew) → (setBlock w1 b x').heap = (setBlock w b x').heap := fun w1 h => by rcases h with rfl | rfl <;> rfl
 have hcell : ∀ p, (setBlock w1 b x').cell? p = (setBlock w b x').cell? p := fun p => by simp only [World.cell?, e w1 hw1]
 have hs2 : Same ok ok (setBlock w b x') (setBlock w1 b x') := ⟨fun _ _ h => h, fun k o h => hcell _, .refl _⟩
 have gl2 : GlOk ok (gh.set id o1) (setBlock w1 b x') := gl1.stay hs2 (by rw [e w1 hw1]; exact Nat.le_refl _) (.refl _) fun k _ => ⟨by rw [e w1 hw1], fun _ h => h⟩
 refine ⟨v, setBlock w1 b x', ok, r, gh.set id o1, hrun, hR, ⟨?_, ?_, ?_, ?_, ?_⟩, hs.trans hs2, fun k o h => ⟨by rw [e w1 hw1, k3]; exact hokb _ _ h, .inl h⟩, gl2, fun k h => .inl (occG_set hg hf h), hv.mono hs2⟩
 ·rcases hw1 with rfl | rfl <;> rfl
 ·rcases hw1 with rfl | rfl <;> rfl
 ·rcases hw1 with rfl | rfl <;> rfl
 ·rw [e w1 hw1, k3]; exact Nat.le_refl _
 ·intro k hk hM
  rw [e w1 hw1]
  exact k2 k fun q => by subst q; exact hM ⟨id, o0, hg, hf, hb⟩
section
variable {P : Program} (hT : tableOf P = T)
include hT
theorem gop_makeMap {o : Oper} {t : TypeId} (ho : o.op = .makeMap t none) {gh : GH} : GOp P o [] gh (One (.gm gh.next) (gh.new (.map [] 0))) := by
 refine GOp.of_run fun ok w a gl hokb hx => ?_
 have hs : Same ok (ok.bind (some w.heap.size) 0) w (w.alloc (.map #[] 0)) := ⟨fun _ _ h => h, fun k o h => by simp only [World.cell?, heap_alloc_old w _ (hokb _ _ h)], Oks.bind_ext _ _ _⟩
 refine ⟨.map (some w.heap.size), w.alloc (.map #[] 0), ok.bind (some w.heap.size) 0, _, _, .inl ?_, ⟨rfl, rfl⟩, frame_alloc _ _ _, hs, fun k o h => ⟨by have := hokb _ _ (h : ok k o); simp; omega, .inl h⟩,
  gl.new hokb (fun k hk => heap_alloc_old w _ hk) (by simp) (fun bb h => by cases h; exact Nat.le_refl _) ⟨w.heap.size, #[], Oks.bind_blk _ _ _, heap_alloc_new w _, fun o h => by have := hokb _ _ (h : ok w.heap.size o); omega, rfl, fun i h => by simp at h⟩,
  fun k h => occG_new gl (fun bb h => by cases h; exact Nat.le_refl _) h, .gm _ _ (by rw [gl.next]; exact Nat.lt_succ_self _) (by rw [gl.next]; exact Oks.bind_blk _ _ _)⟩
 simp [execOp, ho, Instr.makeMap, newObj, Sem.run]
theorem gop_mapUpdate {o : Oper} {t kt et : TypeId} {m x y : Operand} (ho : o.op = .mapUpdate t m x y) (hm : P.underlying t = some (.map kt et)) (hkt : P.underlying kt = some .string) {gh : GH} {id clock : Nat} {es : List (Nat × V × V)} {k : List UInt8} {v : V} (hg : gh.get id = some (.map es clock)) (hs : StrKeys es) :
  GOp P o [.gm id, .str k, v] gh (One (.tup []) (gh.set id (.map (mSet es clock k v) (mClk es clock k)))) := by
 refine GOp.block hg (fun h => h) (fun h => h) fun ok w a gl hokb hx => ?_
 rw [ho] at hx
 obtain ⟨b, hn, hb, he⟩ := rep_gm (hx.get 0 rfl (by simp [Op.operands]; rfl))
 have hkv := rep_strV (hx.get 1 rfl (y := x) (by simp [Op.operands]))
 have hv := hx.get 2 rfl (y := y) (by simp [Op.operands])
 obtain ⟨ents, h2, h5, h3, h4⟩ := map_of gl hg hb
 have hck := MapKept.run_checkKey (P := P) (w := w) (k := .string ⟨k.toArray⟩) hkt (by simp [MapKept.IsKey]) false 9999
 have hse : ∀ o' : Obj, (setObj b o').run P w = .ok () (setBlock w b o') := fun o' => by rw [MapKept.run_setObj_map o' h2]; rfl
 rcases find_rep (P := P) k hkt hs h3 h4 w with ⟨q1, q2⟩ | ⟨j, e, q1, q2, q3, q4⟩
 ·have hsm := same_block (o' := .map (ents.push { key := .string ⟨k.toArray⟩, val := a.eval y, born := clock }) (clock + 1)) h2 h5
  refine ⟨b, _, .map (ents.push { key := .string ⟨k.toArray⟩, val := a.eval y, born := clock }) (clock + 1), undef, .tup [], .map (mSet es clock k v) (mClk es clock k), w, hb, h2, .inl rfl, .inr ⟨?_, rfl⟩, ⟨rfl, rfl⟩, fun h => h, ?_, Rep.tup (ok := ok) [] [] rfl (by simp)⟩
  ·simp only [execOp, ho, Sem.run_bind, he, hkv]
   simp [Instr.mapUpdate, run_underlying hm, MapKept.run_getObj_map h2, hck, q2, hse]
  ·simp only [mSet, mClk, q1]
   refine ⟨b, _, hb, (heap_setBlock h2).1, h5, by simp [h3], fun i hi hi' => ?_⟩
   by_cases hlt : i < es.length
   ·have := h4 i hlt (by omega)
    simp only [List.getElem_append_left hlt, Array.getElem_push_lt (show i < ents.size by omega)]
    exact ⟨this.1, this.2.1.mono hsm, this.2.2.mono hsm⟩
   ·have hie : i = es.length := by simp at hi; omega
    subst hie
    simp only [List.getElem_append_right (Nat.le_refl _), Nat.sub_self, List.getElem_cons_zero]
    have : (ents.push { key := .string ⟨k.toArray⟩, val := a.eval y, born := clock : MapEntry })[es.length]'hi' = { key := .string ⟨k.toArray⟩, val := a.eval y, born := clock } := by
     rw [Array.getElem_push]; rw [dif_neg (by omega)]
    rw [this]
    exact ⟨rfl, .str _, hv.mono hsm⟩
 ·obtain ⟨hj, hje⟩ := Array.getElem?_eq_some_iff.1 q2
  have hj' : j < es.length := by omega
  have hst : (Instr.keyThatStays e.key (.string ⟨k.toArray⟩)).run P w = .ok (.string ⟨k.toArray⟩) w := by
   rw [q3]; exact MapKept.run_keyThatStays (d := .string) (by simp [MapKept.IsKey])
  obtain ⟨ents', hents⟩ : ∃ ents' : Array MapEntry, ents' = ents.modify j fun e => { e with key := .string ⟨k.toArray⟩, val := a.eval y } := ⟨_, rfl⟩
  have hsm := same_block (o' := .map ents' clock) h2 h5
  refine ⟨b, _, .map ents' clock, undef, .tup [], .map (mSet es clock k v) (mClk es clock k), w, hb, h2, .inl rfl, .inr ⟨?_, rfl⟩, ⟨rfl, rfl⟩, fun h => h, ?_, Rep.tup (ok := ok) [] [] rfl (by simp)⟩
  ·simp only [execOp, ho, Sem.run_bind, he, hkv]
   simp [Instr.mapUpdate, run_underlying hm, MapKept.run_getObj_map h2, hck, q4, q2, hst, hse, ← hents]
  ·simp only [mSet, mClk, q1]
   refine ⟨b, _, hb, (heap_setBlock h2).1, h5, by simp [hents, h3], fun i hi hi' => ?_⟩
   have hi2 : i < es.length := by simpa using hi
   have := h4 i hi2 (by omega)
   have hget : ents'[i]'hi' = if j = i then { ents[i]'(by omega) with key := .string ⟨k.toArray⟩, val := a.eval y } else ents[i]'(by omega) := by
    subst hents
    rw [Array.getElem_modify]
   rw [List.getElem_set, hget]
   by_cases hji : j = i
   ·subst hji
    simp only [if_true]
    exact ⟨by simp [List.getElem?_eq_getElem hj', this.1], .str _, hv.mono hsm⟩
   ·rw [if_neg hji, if_neg hji]
    exact ⟨this.1, this.2.1.mono hsm, this.2.2.mono hsm⟩
theorem gop_delete {o : Oper} {c : Call} {t kt et t2 : TypeId} {m x : Operand} (ho : o.op = .call c) (hc : c.callee = .builtin .delete) (ha : c.args = #[m, x]) (hat : c.argTypes = #[t, t2]) (hm : P.underlying t = some (.map kt et)) (hkt : P.underlying kt = some .string) {gh : GH} {id clock : Nat} {es : List (Nat × V × V)} {k : List UInt8} (hg : gh.get id = some (.map es clock)) (hs : StrKeys es) :
  GOp P o [.gm id, .str k] gh (One (.tup []) (gh.set id (.map (mDel es k) clock))) := by
 refine GOp.block hg (fun h => h) (fun h => h) fun ok w a gl hokb hx => ?_
 rw [ho] at hx
 obtain ⟨b, hn, hb, he⟩ := rep_gm (hx.get 0 rfl (y := m) (by simp [Op.operands, Call.operands, hc, ha]))
 have hkv := rep_strV (hx.get 1 rfl (y := x) (by simp [Op.operands, Call.operands, hc, ha]))
 obtain ⟨ents, h2, h5, h3, h4⟩ := map_of gl hg hb
 have hck := MapKept.run_checkKey (P := P) (w := w) (k := .string ⟨k.toArray⟩) hkt (by simp [MapKept.IsKey]) ents.isEmpty 9999
 have hse : ∀ o' : Obj, (setObj b o').run P w = .ok () (setBlock w b o') := fun o' => by rw [MapKept.run_setObj_map o' h2]; rfl
 rcases find_rep (P := P) k hkt hs h3 h4 w with ⟨q1, q2⟩ | ⟨j, e, q1, q2, q3, q4⟩
 ·have hsm := same_block (o' := .map ents clock) h2 h5
  refine ⟨b, _, .map ents clock, .tuple #[], .tup [], .map (mDel es k) clock, w, hb, h2, .inl rfl, .inl ?_, ⟨rfl, rfl⟩, fun h => h, ?_, Rep.tup (ok := ok) [] [] rfl (by simp)⟩
  ·simp only [execOp, ho, resolve, hc, Sem.run_bind, Sem.run_pure, Result.andThen_ok, invoke, builtin, hat, ha]
   simp [he, hkv, Builtin.delete_, run_underlying hm, MapKept.run_getObj_map h2, hck, q2, hse]
  ·simp only [mDel, q1]
   exact ⟨b, _, hb, (heap_setBlock h2).1, h5, h3, fun i hi hi' => ⟨(h4 i hi hi').1, (h4 i hi hi').2.1.mono hsm, (h4 i hi hi').2.2.mono hsm⟩⟩
 ·obtain ⟨hj, hje⟩ := Array.getElem?_eq_some_iff.1 q2
  have hj' : j < es.length := by omega
  obtain ⟨ents', hents⟩ : ∃ ents' : Array MapEntry, ents' = ents.eraseIdxIfInBounds j := ⟨_, rfl⟩
  have hel : ents'.toList = ents.toList.eraseIdx j := by
   subst hents
   simp [Array.eraseIdxIfInBounds, hj]
  have hsm := same_block (o' := .map ents' clock) h2 h5
  refine ⟨b, _, .map ents' clock, .tuple #[], .tup [], .map (mDel es k) clock, w, hb, h2, .inl rfl, .inl ?_, ⟨rfl, rfl⟩, fun h => h, ?_, Rep.tup (ok := ok) [] [] rfl (by simp)⟩
  ·simp only [execOp, ho, resolve, hc, Sem.run_bind, Sem.run_pure, Result.andThen_ok, invoke, builtin, hat, ha]
   simp [he, hkv, Builtin.delete_, run_underlying hm, MapKept.run_getObj_map h2, hck, q4, hse, ← hents]
  ·simp only [mDel, q1]
   have hsz : ents'.size = es.length - 1 := by
    rw [← Array.length_toList, hel, List.length_eraseIdx_of_lt (by simpa using hj)]; simp; omega
   refine ⟨b, _, hb, (heap_setBlock h2).1, h5, by rw [hsz, List.length_eraseIdx_of_lt hj'], fun i hi hi' => ?_⟩
   rw [List.length_eraseIdx_of_lt hj'] at hi
   have hget : ents'[i]'hi' = if i < j then ents[i]'(by omega) else ents[i + 1]'(by omega) := by
    have : ents'[i]'hi' = ents'.toList[i]'(by simpa using hi') := by simp
    rw [this]
    simp only [hel, List.getElem_eraseIdx]
    split <;> simp
   rw [List.getElem_eraseIdx, hget]
   by_cases hlt : i < j
   ·simp only [dif_pos hlt, if_pos hlt]
    have := h4 i (by omega) (by omega)
    exact ⟨this.1, this.2.1.mono hsm, this.2.2.mono hsm⟩
   ·simp only [dif_neg hlt, if_neg hlt]
    have := h4 (i + 1) (by omega) (by omega)
    exact ⟨this.1, this.2.1.mono hsm, this.2.2.mono hsm⟩
end
open Go Go.RowKit
open Go.ChangeMaps (setBlock)
theorem rep_gp0 {ok : Oks} {w : World} {id off : Nat} {u : Value} (h : Rep ok w (.gp id off) u) : ∃ b, id < ok.next ∧ ok.blk id = some b ∧ u = .pointer (some ⟨b, off, none⟩) := by
 cases h with
 | gp _ _ b hn hb => exact ⟨b, hn, hb, rfl⟩
theorem mit_of {ok : Oks} {gh : GH} {w : World} (gl : GlOk ok gh w) {it id b since st : Nat} {seen : List Nat} (hg : gh.get it = some (.mit (some id) since seen st)) (hb : ok.blk it = some b) : ∃ bm, ok.blk id = some bm ∧ w.heap[b]? = some (.mapIter (some bm) since seen.toArray st) ∧ (∀ o, ¬ ok b o) ∧ id < ok.next := by
 obtain ⟨b', r, h1, h2, h3, h4, bk, h5, h6⟩ := (gl.obj _ _ hg).2
 rw [hb] at h1; cases h1
 subst h6
 exact ⟨bk, h5, h2, h3, h4⟩
def NextR (gh : GH) (it id since : Nat) (seen : List Nat) (es : List (Nat × V × V)) (clock : Nat) (r : V) (gh' : GH) : Prop :=
 (∃ e ∈ es, e.1 ∉ seen ∧ r = .tup [.bool true, e.2.1, e.2.2] ∧ gh' = gh.set it (.mit (some id) since (seen ++ [e.1]) clock)) ∨ ((∀ e ∈ es, e.1 ∈ seen) ∧ r = .tup [.bool false] ∧ gh' = gh)
section
variable {P : Program} (hT : tableOf P = T)
include hT
theorem gop_range {o : Oper} {t kt et : TypeId} {x : Operand} (ho : o.op = .range t x) (hm : P.underlying t = some (.map kt et)) {gh : GH} {id clock : Nat} {es : List (Nat × V × V)} (hg : gh.get id = some (.map es clock)) : GOp P o [.gm id] gh (One (.gp gh.next 0) (gh.new (.mit (some id) clock [] clock))) := by
 refine GOp.of_run fun ok w a gl hokb hx => ?_
 rw [ho] at hx
 obtain ⟨b, hn, hb, he⟩ := rep_gm (hx.get 0 rfl (by simp [Op.operands]; rfl))
 obtain ⟨ents, h2, h5, h3, h4⟩ := map_of gl hg hb
 have hs : Same ok (ok.bind (some w.heap.size) 0) w (w.alloc (.mapIter (some b) clock #[] clock)) := ⟨fun _ _ h => h, fun k o h => by simp only [World.cell?, heap_alloc_old w _ (hokb _ _ h)], Oks.bind_ext _ _ _⟩
 refine ⟨.pointer (some ⟨w.heap.size, 0, none⟩), w.alloc (.mapIter (some b) clock #[] clock), ok.bind (some w.heap.size) 0, _, _, .inl ?_, ⟨rfl, rfl⟩, frame_alloc _ _ _, hs, fun k o h => ⟨by have := hokb _ _ (h : ok k o); simp; omega, .inl h⟩,
  gl.new hokb (fun k hk => heap_alloc_old w _ hk) (by simp) (fun bb h => by cases h; exact Nat.le_refl _) ⟨w.heap.size, some b, Oks.bind_blk _ _ _, heap_alloc_new w _, fun o h => by have := hokb _ _ (h : ok w.heap.size o); omega, Nat.lt_succ_of_lt hn, b, (Oks.bind_ext ok (some w.heap.size) 0).blk id hn ▸ hb, rfl⟩,
  fun k h => occG_new gl (fun bb h => by cases h; exact Nat.le_refl _) h, .gp _ _ _ (by rw [gl.next]; exact Nat.lt_succ_self _) (by rw [gl.next]; exact Oks.bind_blk _ _ _)⟩
 simp only [execOp, ho, he, Sem.run_bind]
 simp [Instr.range, run_underlying hm, MapKept.run_getObj_map h2, newObj, Sem.run]
theorem gop_next {o : Oper} {x : Operand} (ho : o.op = .next x false) {gh : GH} {it id since st clock : Nat} {seen : List Nat} {es : List (Nat × V × V)} (hi : gh.get it = some (.mit (some id) since seen st)) (hg : gh.get id = some (.map es clock)) (hold : ∀ e ∈ es, e.1 < since) (hst : since ≤ st) :
  GOp P o [.gp it 0] gh (NextR gh it id since seen es clock) := by
 refine GOp.of_run fun ok w a gl hokb hx => ?_
 rw [ho] at hx
 obtain ⟨r, hn, hb, he⟩ := rep_gp0 (hx.get 0 rfl (by simp [Op.operands]; rfl))
 obtain ⟨bm, hbm, hw, hno, hid⟩ := mit_of gl hi hb
 obtain ⟨ents, h2, h5, h3, h4⟩ := map_of gl hg hbm
 have hborn : ∀ x ∈ ents.toList, x.born < since := fun y hy => by
  obtain ⟨i, hi, rfl⟩ := List.getElem_of_mem hy
  have hi1 : i < ents.size := by simpa using hi
  have hi2 : i < es.length := by omega
  have := (h4 i hi2 hi1).1
  simp only [Array.getElem_toList]
  rw [← this]
  exact hold _ (List.getElem_mem hi2)
 rcases run_next_at (P := P) w o.type r bm since st seen.toArray ents clock hw h2 hborn hst with ⟨q1, q2⟩ | ⟨e, q1, w1, q2, q3⟩
 ·refine ⟨.tuple #[.bool false], w, ok, .tup [.bool false], gh, .inl ?_, .inr ⟨fun e hem => ?_, rfl, rfl⟩, ⟨rfl, rfl, rfl, Nat.le_refl _, fun _ _ _ => rfl⟩, .refl _ _, fun b o h => ⟨hokb _ _ h, .inl h⟩, gl, fun b h => .inl h, .tup _ [.bool false] rfl fun i h h' => ?_⟩
  ·simp only [execOp, ho, he, Sem.run_bind, q2, Result.andThen_ok, Sem.run_pure]
  ·obtain ⟨i, hi1, rfl⟩ := List.getElem_of_mem hem
   have hi2 : i < ents.size := by omega
   have hb1 := (h4 i hi1 hi2).1
   refine Classical.byContradiction fun hne => ?_
   have hin : ents[i] ∈ leftOf ents seen.toArray := by
    unfold leftOf
    rw [Array.mem_filter]
    exact ⟨Array.getElem_mem hi2, by rw [← hb1]; simpa using hne⟩
   have := Array.size_pos_of_mem hin
   omega
  ·match i, h, h' with
   | 0, _, _ => exact .bool _
 ·have hel : e ∈ ents.toList ∧ seen.toArray.contains e.born = false := by
   unfold leftOf at q1
   have : e ∈ ents.filter fun e => !seen.toArray.contains e.born := by simpa using q1
   rw [Array.mem_filter] at this
   exact ⟨by simpa using this.1, by simpa using this.2⟩
  obtain ⟨i, hi1, hie⟩ := List.getElem_of_mem hel.1
  have hi2 : i < ents.size := by simpa using hi1
  have hi3 : i < es.length := by omega
  have hei : ents[i] = e := by simpa using hie
  have h6 := h4 i hi3 hi2
  rw [hei] at h6
  obtain ⟨x', hx'⟩ : ∃ x', x' = Obj.mapIter (some bm) since (seen.toArray.push e.born) clock := ⟨_, rfl⟩
  rw [← hx'] at q3
  obtain ⟨k1, k2, k3⟩ := heap_setBlock (o' := x') hw
  have hs := same_block (o' := x') hw hno
  have hrep : GRep ok (setBlock w r x') it (.mit (some id) since (seen ++ [(es[i]'hi3).1]) clock) := ⟨r, some bm, hb, by rw [k1, hx', h6.1]; simp, hno, hid, bm, hbm, rfl⟩
  have gl1 := gl.upd (o' := .mit (some id) since (seen ++ [(es[i]'hi3).1]) clock) hi (fun h => h) (fun h => h) hb k2 k3 (fun h => h) hrep
  have e2 : ∀ w1 : World, (w1 = w ∨ w1 = w.drew) → (setBlock w1 r x').heap = (setBlock w r x').heap := fun w1 h => by rcases h with rfl | rfl <;> rfl
  have hs2 : Same ok ok (setBlock w r x') (setBlock w1 r x') := ⟨fun _ _ h => h, fun k o h => by simp only [World.cell?, e2 w1 q2], .refl _⟩
  have gl2 := gl1.stay hs2 (by rw [e2 w1 q2]; exact Nat.le_refl _) (.refl _) fun k _ => ⟨by rw [e2 w1 q2], fun _ h => h⟩
  refine ⟨.tuple #[.bool true, e.key, e.val], setBlock w1 r x', ok, .tup [.bool true, (es[i]'hi3).2.1, (es[i]'hi3).2.2], _, .inl ?_, .inl ⟨_, List.getElem_mem hi3, ?_, rfl, rfl⟩, ⟨?_, ?_, ?_, ?_, ?_⟩, hs.trans hs2, fun k o h => ⟨by rw [e2 w1 q2, k3]; exact hokb _ _ h, .inl h⟩, gl2, fun k h => .inl (occG_set hi (fun h => h) h), .tup _ [.bool true, e.key, e.val] rfl fun j h h' => ?_⟩
  ·simp only [execOp, ho, he, Sem.run_bind, q3, Result.andThen_ok, Sem.run_pure]
  ·rw [h6.1]; have := hel.2; simpa using this
  ·rcases q2 with rfl | rfl <;> rfl
  ·rcases q2 with rfl | rfl <;> rfl
  ·rcases q2 with rfl | rfl <;> rfl
  ·rw [e2 w1 q2, k3]; exact Nat.le_refl _
  ·intro k hk hM
   rw [e2 w1 q2]
   exact k2 k fun q => by subst q; exact hM ⟨it, _, hi, fun h => h, hb⟩
  ·match j, h, h' with
   | 0, _, _ => exact .bool _
   | 1, _, _ => exact (h6.2.1.mono hs).mono hs2
   | 2, _, _ => exact (h6.2.2.mono hs).mono hs2
theorem gq_entry {x : Operand} {gh : GH} {it id since clock : Nat} {seen : List Nat} {es : List (Nat × V × V)} {e : Nat × V × V} (hi : gh.get it = some (.mit (some id) since (seen ++ [e.1]) clock)) (hg : gh.get id = some (.map es clock)) (he : e ∈ es) (hnd : (es.map (·.1)).Nodup) :
  GQ P (.entry x) [.gp it 0] gh (.tup [e.2.1, e.2.2]) := by
 intro ok w a o ho gl hokb hx
 obtain ⟨r, hn, hb, hev⟩ := rep_gp0 (hx.get 0 rfl (by simp [Op.operands]; rfl))
 obtain ⟨bm, hbm, hw, hno, hid⟩ := mit_of gl hi hb
 obtain ⟨ents, h2, h5, h3, h4⟩ := map_of gl hg hbm
 obtain ⟨i, hi1, rfl⟩ := List.getElem_of_mem he
 have hi2 : i < ents.size := by omega
 have h6 := h4 i hi1 hi2
 have hborns : ents.toList.map (·.born) = es.map (·.1) := by
  refine List.ext_getElem (by simp [h3]) fun j q1 q2 => ?_
  simp only [List.getElem_map, Array.getElem_toList]
  exact ((h4 j (by simpa using q2) (by simpa using q1)).1).symm
 have hrun := run_entry_at (P := P) w r bm since seen.toArray ents clock ents[i] (by rw [hw, h6.1]; simp) h2 (by simp) (by rw [hborns]; exact hnd)
 refine ⟨.tuple #[ents[i].key, ents[i].val], ?_, .tup _ [ents[i].key, ents[i].val] rfl fun j h h' => ?_⟩
 ·simp only [execOp, ho, hev, Sem.run_bind, hrun, Result.andThen_ok, Sem.run_pure]
 ·match j, h, h' with
  | 0, _, _ => exact h6.2.1
  | 1, _, _ => exact h6.2.2
end
theorem weak_sl (S : St) (t z : Nat) {x : V} {l : List V} {gh : GH} {pub : List Nat} (hh : look S.ob hk = some (.heap gh pub)) (ht : S.get t = .v x) (hx : SlIs gh z l x) : Weak S (S.put (some t) (.v (.slice l))) := fun G E ok a w c => by
 have gl : GlOk ok gh w := (c.obj _ _ hh).2
 have h1 := c.slot t
 rw [ht] at h1
 exact ⟨E, ok, c.refine (.v _ _ (hx.rep gl (repD_v h1)))⟩
theorem weak_ref (S : St) (t : Nat) {id : Nat} {l : List V} {gh : GH} {pub : List Nat} (hh : look S.ob hk = some (.heap gh pub)) (ht : S.get t = .v (.gp id 0)) (hg : gh.get id = some (.box l)) :
  Weak S ((S.setOb hk (.heap (gh.del id) pub)).put (some t) (.v (.ref l))) := fun G E ok a w c => by
 have gl : GlOk ok gh w := (c.obj _ _ hh).2
 have h1 := c.slot t
 rw [ht] at h1
 obtain ⟨b, hn, hb, he⟩ := rep_gp0 (repD_v h1)
 obtain ⟨b', e, cs, h2, h3, h4, h5, h6⟩ := (gl.obj _ _ hg).2
 rw [hb] at h2; cases h2
 have hs : Same ok (okAdd ok b l.length) w w := ⟨fun _ _ h => .inl h, fun _ _ _ => rfl, ⟨Nat.le_refl _, fun _ _ => rfl, fun _ _ => rfl⟩⟩
 have gl2 : GlOk (okAdd ok b l.length) (gh.del id) w := {
  next := gl.next
  obj := fun j p q => by
   simp only [GH.del_get] at q
   split at q
   ·cases q
   ·rename_i ej
    refine ⟨(gl.obj j p q).1, (gl.obj j p q).2.stay hs (gl.obj j p q).1 (Nat.le_refl _) fun f2 bb hbb => ⟨rfl, fun o h => ?_⟩⟩
    rcases h with h | ⟨rfl, _⟩
    ·exact h
    ·exact absurd hb (gl.apart j id p _ _ q hg ej f2 (fun h => h) hbb)
  apart := fun i j p q bb k1 k2 => by
   simp only [GH.del_get] at k1 k2
   split at k1
   ·cases k1
   ·split at k2
    ·cases k2
    ·exact gl.apart i j p q bb k1 k2 }
 have c2 := c.swap (pub' := pub) (ok' := okAdd ok b l.length) (w' := w) (gh' := gh.del id) hh ⟨rfl, rfl, rfl, Nat.le_refl _, fun _ _ _ => rfl⟩ hs (fun k o h => by
  rcases h with h | ⟨rfl, _⟩
  ·exact ⟨c.okb _ _ h, .inl h⟩
  ·exact ⟨heap_lt h3, .inr (.inl ⟨id, _, hg, fun h => h, hb⟩)⟩) gl2 (fun k h => .inl (occG_del h))
 refine ⟨E, _, c2.refine (t := t) ?_⟩
 change RepD E _ w _ (a.tmps.getD t undef)
 rw [he]
 refine .v _ _ (.ref l b 0 (fun j => (w.cell? ⟨b, j, none⟩).getD undef) (fun j hj => ?_) (fun j hj => ?_) (fun j hj => ?_))
 ·obtain ⟨u, q1, q2, q3⟩ := h6 j hj
  rw [Nat.zero_add]
  exact ⟨.inr ⟨rfl, hj⟩, by rw [cell_of_heap h3, q1]; rfl⟩
 ·obtain ⟨u, q1, q2, q3⟩ := h6 j hj
  exact rep_cell q3 q2
 ·obtain ⟨u, q1, q2, q3⟩ := h6 j hj
  have : (w.cell? ⟨b, j, none⟩).getD undef = u := by rw [cell_of_heap h3, q1]; rfl
  rw [this]; exact q3.mono hs
theorem weak_pub (S : St) (t : Nat) {id0 z : Nat} {l : List V} {ex : Bool} {gh : GH} {pub : List Nat} (hh : look S.ob hk = some (.heap gh pub)) (ht : S.get t = .own id0) (ho : look S.ob id0 = some (.row z l ex)) :
  Weak S ((({ S with ob := remOb id0 S.ob } : St).setOb hk (.heap (gh.new (.arow z l)) pub)).put (some t) (.v (.gs gh.next l.length))) := fun G E ok a w c => by
 have hne : id0 ≠ hk := fun e => by subst e; rw [hh] at ho; cases ho
 have h1 := c.slot t
 rw [ht] at h1
 have he : a.tmps.getD t undef = E.hdr id0 := by
  generalize a.tmps.getD t undef = u at h1
  cases h1; rfl
 have cr := c.rem id0
 have hh1 : look (({ S with ob := remOb id0 S.ob } : St)).ob hk = some (.heap gh pub) := by rw [look_remOb, if_neg (Ne.symm hne)]; exact hh
 rcases c.obj _ _ ho with ⟨h0, h2, h3⟩ | ⟨b, cap, cs, e, h2, h3, h4, h5, h6, h7, h8, h9⟩
 ·subst h0
  have gl : GlOk ok gh w := (c.obj _ _ hh).2
  have c2 := cr.swap (pub' := pub) (ok' := ok.bind none 0) (w' := w) (gh' := gh.new (.arow z [])) hh1 ⟨rfl, rfl, rfl, Nat.le_refl _, fun _ _ _ => rfl⟩ ⟨fun _ _ h => h, fun _ _ _ => rfl, Oks.bind_ext _ _ _⟩ (fun b o h => ⟨c.okb _ _ h, .inl h⟩)
   (gl.new c.okb (fun _ _ => rfl) (Nat.le_refl _) (fun bb h => by cases h) (.inl ⟨rfl, Oks.bind_blk _ _ _⟩)) (fun b h => occG_new gl (fun bb h => by cases h) h)
  refine ⟨E, _, c2.refine (t := t) ?_⟩
  rw [he, h3]
  exact .v _ _ (.gs0 _ (by rw [gl.next]; exact Nat.lt_succ_self _) (by rw [gl.next]; exact Oks.bind_blk _ _ _))
 ·have hs1 : Same ok (okAdd ok b (l.length * z)) w w := ⟨fun _ _ h => .inl h, fun _ _ _ => rfl, ⟨Nat.le_refl _, fun _ _ => rfl, fun _ _ => rfl⟩⟩
  have c1 := cr.step (w' := w) (ok' := okAdd ok b (l.length * z)) {
   same := hs1
   env := ⟨rfl, rfl, rfl⟩
   blocks := fun j p b' hj hb' => ⟨rfl, fun o' q => by
    simp only [look_remOb] at hj
    split at hj
    ·cases hj
    ·rename_i hne
     rcases q with q | ⟨rfl, _⟩
     ·exact q
     ·exact absurd h2 (c.apart j id0 p _ b' hj ho hne hb')⟩
   okb := fun b' o' q => by
    rcases q with q | ⟨rfl, _⟩
    ·exact c.okb _ _ q
    ·exact heap_lt h4
   newk := fun b' o' q => q.imp (fun h => h) fun ⟨hb', _⟩ => by subst hb'; exact .inl (c.regL ho (fun h => h) h2)
   os := rfl, tape := rfl, output := rfl, size := Nat.le_refl _, old := fun _ _ _ => rfl }
  generalize hokk : okAdd ok b (l.length * z) = ok1 at c1 hs1
  have ok1i : ∀ o, ok1 b o ↔ o < l.length * z := fun o => by
   subst hokk
   refine ⟨fun h => ?_, fun h => .inr ⟨rfl, h⟩⟩
   rcases h with h | ⟨_, h⟩
   ·exact ((h9 o).1 h).2
   ·exact h
  have gl : GlOk ok1 gh w := (c1.obj _ _ hh1).2
  have hnb : ¬ occG ok1 gh b := fun q => by
   have q' : occG ok gh b := by subst hokk; exact q
   exact c.apart hk id0 _ _ b hh ho (Ne.symm hne) q' h2
  have hs : Same ok1 (ok1.bind (some b) cap) w w := ⟨fun _ _ h => h, fun _ _ _ => rfl, Oks.bind_ext _ _ _⟩
  have old : ∀ k r, gh.get k = some r → (ok1.bind (some b) cap).blk k = ok1.blk k := fun k r hk => (Oks.bind_ext ok1 (some b) cap).blk k (gl.obj k r hk).1
  have gl2 : GlOk (ok1.bind (some b) cap) (gh.new (.arow z l)) w := {
   next := congrArg (· + 1) gl.next
   obj := fun j p q => by
    simp only [GH.new_get] at q
    split at q
    ·rename_i ej; subst ej; cases q
     rw [gl.next]
     exact ⟨Nat.lt_succ_self _, .inr ⟨b, cs, e, Oks.bind_blk _ _ _, h4, by rw [Oks.bind_cap]; omega, by rw [Oks.bind_cap]; exact h6, by rw [Oks.bind_cap]; exact h7, (h8.mono hs1 (fun _ _ => rfl)).mono hs (fun _ _ => rfl), fun o h => (ok1i o).2 h, fun o k1 k2 k3 => by have := (ok1i o).1 k3; omega⟩⟩
    ·exact ⟨Nat.lt_succ_of_lt (gl.obj j p q).1, (gl.obj j p q).2.stay hs (gl.obj j p q).1 (Nat.le_refl _) fun _ bb _ => ⟨rfl, fun _ h => h⟩⟩
   apart := fun i j p q bb k1 k2 hij f1 f2 hb1 hb2 => by
    simp only [GH.new_get, gl.next] at k1 k2
    split at k1 <;> split at k2
    ·rename_i n1 n2; exact hij (n1.trans n2.symm)
    ·rename_i n1 n2
     subst n1
     rw [Oks.bind_blk] at hb1; cases hb1
     rw [old j q k2] at hb2
     exact hnb ⟨j, q, k2, f2, hb2⟩
    ·rename_i n1 n2
     subst n2
     rw [Oks.bind_blk] at hb2; cases hb2
     rw [old i p k1] at hb1
     exact hnb ⟨i, p, k1, f1, hb1⟩
    ·rw [old i p k1] at hb1
     rw [old j q k2] at hb2
     exact gl.apart i j p q bb k1 k2 hij f1 f2 hb1 hb2 }
  have c2 := c1.swap2 (pub' := pub) (ok' := ok1.bind (some b) cap) (w' := w) (gh' := gh.new (.arow z l)) hh1 ⟨rfl, rfl, rfl, Nat.le_refl _, fun _ _ _ => rfl⟩ hs (fun k o h => ⟨c1.okb _ _ h, .inl h⟩) gl2 (fun k h => by
   obtain ⟨j, p, k1, k2, k3⟩ := h
   simp only [GH.new_get, gl.next] at k1
   split at k1
   ·rename_i ej; subst ej
    rw [Oks.bind_blk] at k3; cases k3
    refine .inr (.inr ⟨c.regL ho (fun h => h) h2, fun j p hj hl hb => ?_⟩)
    simp only [look_remOb] at hl
    split at hl
    ·cases hl
    ·rename_i hne2
     have hb' : occ E ok j p b := by subst hokk; exact (occ_env (ok' := okAdd ok b (l.length * z)) (ok := ok) ⟨rfl, rfl, rfl⟩ j p b).1 hb
     exact c.apart j id0 p _ b hl ho hne2 hb' h2
   ·rw [old j p k1] at k3
    exact .inl ⟨j, p, k1, k2, k3⟩)
  refine ⟨E, _, c2.refine (t := t) ?_⟩
  rw [he, h3]
  have hc : (ok1.bind (some b) cap).cap gh.next = cap := by rw [gl.next]; exact Oks.bind_cap _ _ _
  have := Rep.gs (ok := ok1.bind (some b) cap) (w := w) gh.next (l.length : Int) b (by rw [gl.next]; exact Nat.lt_succ_self _) (by rw [gl.next]; exact Oks.bind_blk _ _ _) (by omega) (by rw [hc]; omega) (by rw [hc]; exact h7)
  rw [hc, Int.toNat_natCast] at this
  exact .v _ _ this
open Go Go.RowKit
section
variable {A : Prim} {R : List (Nat × AObj) → List D → Prop} (hA : A = std Tryz.prog R)
include hA
theorem gldI {t : TypeId} {x : Operand} {gh : GH} {id off : Nat} {K : V → Prop} {v : V} (l : List V) (hg : gh.get id = some (.box l)) (hK : K v) (hv : l[off]? = some v := by rfl) (hkn : known (tyOf t).k = true := by rfl) (hag : isAggT (tyOf t).k = false := by rfl) : A.gq (.load t x) [.gp id off] gh K :=
 gqI hA v (gq_load T_ok hkn hag hg hv) hK
theorem gldAI {t : TypeId} {x : Operand} {gh : GH} {id off : Nat} {K : V → Prop} (l : List V) (hg : gh.get id = some (.box l)) (hK : K (.agg ((l.drop off).take (tyOf t).size))) (hle : off + (tyOf t).size ≤ l.length := by first | decide | exact Nat.le_of_ble_eq_true rfl) (hag : isAggT (tyOf t).k = true := by rfl) : A.gq (.load t x) [.gp id off] gh K :=
 gqI hA _ (gq_loadA T_ok hag hg hle) hK
theorem gldRI {t : TypeId} {x : Operand} {gh : GH} {id z off : Nat} {i : Int} {K : V → Prop} {y v : V} (l : List V) (hg : gh.get id = some (.row z l) ∨ gh.get id = some (.frow z l) ∨ gh.get id = some (.arow z l)) (hy : l[i.toNat]? = some y) (hK : K v) (hv : y.flat[off]? = some v := by rfl) (hkn : known (tyOf t).k = true := by rfl) (hag : isAggT (tyOf t).k = false := by rfl) : A.gq (.load t x) [.ge id z i off] gh K :=
 gqI hA v (gq_loadR T_ok hkn hag hg hy hv) hK
theorem gldBI {t : TypeId} {x : Operand} {gh : GH} {id j : Nat} {i : Int} {K : V → Prop} (b : List UInt8) (hg : gh.get id = some (.row 1 (bytesV b))) (hi : i = (j : Int)) (hj : j < b.length) (hK : ∀ r : Int, r = ((b[j]'hj).toNat : Nat) → K (.int .u8 r)) (hkn : known (tyOf t).k = true := by rfl) (hag : isAggT (tyOf t).k = false := by rfl) : A.gq (.load t x) [.ge id 1 i 0] gh K :=
 gqI hA _ (gq_loadR T_ok (y := .int .u8 ((b[j]'hj).toNat : Nat)) hkn hag (.inl hg) (by subst hi; simp [bytesV, hj]) rfl) (hK _ rfl)
theorem gixI {t e : TypeId} {x i : Operand} {gh : GH} {id : Nat} {n m : Int} {k : IntKind} {K : V → Prop} (h0 : 0 ≤ m ∧ m < n) (hK : K (.ge id (tyOf e).size m 0)) (ht : (tyOf t).k = .slice e := by rfl) (hkn : known (tyOf e).k = true := by rfl) : A.gq (.indexAddr t x i) [.gs id n, .int k m] gh K :=
 gqI hA _ (gq_index T_ok ht hkn h0.1 h0.2) hK
theorem glenI {c : Call} {t e : TypeId} {x : Operand} {gh : GH} {id : Nat} {n : Int} {K : V → Prop} (hK : K (.int .i64 n)) (hc : c.callee = .builtin .len := by rfl) (ha : c.args = #[x] := by rfl) (hat : c.argTypes = #[t] := by rfl) (ht : (tyOf t).k = .slice e := by rfl) : A.gq (.call c) [.gs id n] gh K :=
 gqI hA _ (gq_len T_ok hc ha hat ht) hK
theorem gop1 {o : Oper} {xs : List V} {gh : GH} {K : V → GH → Prop} {r : V} {g : GH} (h : GOp Tryz.prog o xs gh (One r g)) (hK : ∀ g', g' = g → K r g') : A.gop o xs gh K := gopI hA r g h (hK g rfl)
theorem gstI {o : Oper} {t : TypeId} {x y : Operand} {gh : GH} {id off : Nat} {v : V} {K : V → GH → Prop} (l : List V) (hg : gh.get id = some (.box l)) (hK : ∀ g', g' = gh.set id (.box (l.take off ++ v.flat ++ l.drop (off + v.flat.length))) → K (.tup []) g')
  (ho : o.op = .store t x y := by rfl) (hkn : known (tyOf t).k = true := by rfl) (hc : v.okc = true := by rfl) (hsz : v.flat.length = (tyOf t).size := by rfl) (hle : off + v.flat.length ≤ l.length := by first | decide | exact Nat.le_of_ble_eq_true rfl) : A.gop o [.gp id off, v] gh K :=
 gop1 hA (gop_store T_ok ho hkn hc hsz hg hle) hK
theorem gstRI {o : Oper} {t : TypeId} {x y : Operand} {gh : GH} {id : Nat} {i : Int} {v el : V} {K : V → GH → Prop} (l : List V) (hg : gh.get id = some (.row 1 l)) (hi : l[i.toNat]? = some el) (hel : el.cell = true) (hK : ∀ g', g' = gh.set id (.row 1 (l.set i.toNat v)) → K (.tup []) g')
  (hv : v.cell = true := by rfl) (ho : o.op = .store t x y := by rfl) (hkn : known (tyOf t).k = true := by rfl) (hsz : (tyOf t).size = 1 := by rfl) : A.gop o [.ge id 1 i 0, v] gh K := by
 have f1 := cell_flat hel
 have f2 := cell_flat hv
 exact gop1 hA (gop_storeR T_ok ho hkn (by cases v <;> simp [V.cell] at hv <;> rfl) (by rw [f2, hsz]; rfl) hg hi (by rw [f1, f2]; simp) (by rw [f1, f2]; rfl)) hK
theorem gappI {o : Oper} {c : Call} {t t2 e z bt : Nat} {s x : Operand} {gh : GH} {id : Nat} {n : Int} {v : V} {K : V → GH → Prop} (l l2 : List V) (hg : gh.get id = some (.row z l)) (hn : n = l.length) (hsrc : SrcIs gh z v l2) (hroom : (l.length + l2.length) * bt ≤ 140737488355328) (hK : ∀ (g' : GH) (m : Int), g' = (gh.del id).new (.row z (l ++ l2)) → m = ((l ++ l2).length : Nat) → K (.gs gh.next m) g')
  (ho : o.op = .call c := by rfl) (hcb : c.callee = .builtin .append := by rfl) (hat : c.argTypes = #[t, t2] := by rfl) (has : c.args = #[s, x] := by rfl) (hkt : (tyOf t).k = .slice e := by rfl) (hkn : known (tyOf e).k = true := by rfl) (hz : (tyOf e).size = z := by rfl) (hbt : (tyOf e).bytes = bt := by rfl) (hz0 : 0 < z := by decide)
  (hst : isSrcV (tyOf t2).k v = true := by rfl) (hb0 : 0 < bt := by decide) : A.gop o [.gs id n, v] gh K := by
 subst hz hbt
 exact gop1 hA (gop_append T_ok ho hcb hat has hkt hkn hz0 hg hn hst hsrc hroom hb0) fun g' h => hK g' _ h rfl
theorem retGI {post : List Rs → GH → Prop} {ob : List (Nat × AObj)} {l : List D} (hR : R = retOkG post) (rs : List Rs) (gh' : GH) {pub : List Nat} (hp : post rs gh') (h2 : rsOk (softOb ob (retIds l rs)) [] l rs := by first | exact ⟨rfl, trivial⟩ | exact ⟨rfl, rfl, trivial⟩ | exact ⟨rfl, rfl, rfl, trivial⟩ | trivial) (h1 : look ob hk = some (.heap gh' pub) := by rfl) : A.ret ob l := by
 subst hA hR; exact ⟨rs, gh', pub, h1, h2, hp⟩
end
end Go.Proofs.YthioccbgjkbmdaaGreat.AM
