/-
  The abstract machine, part 5: what only computes and reads does what 'qWp' says.
-/
import Derived.Test.YtinckcpmkocakaaAmStd
import Derived.WalkLawsBesides
set_option linter.unusedVariables false
set_option linter.unusedSimpArgs false
namespace Go.Proofs.Ytinckcpmkocakaa.AM
open Go Go.RowKit

/-- Nothing that was there has changed; there may be more. -/
structure Grow (w : World) (ok : Oks) (w' : World) (ok' : Oks) : Prop where
  below : Below w.heap.size w w'
  sub : ∀ b o, ok b o → ok' b o
  new : ∀ b o, ok' b o → ok b o ∨ (w.heap.size ≤ b ∧ b < w'.heap.size)
theorem Grow.refl (w : World) (ok : Oks) : Grow w ok w ok := ⟨Below.refl _ _, fun _ _ h => h, fun _ _ h => .inl h⟩
theorem Grow.same {w w' : World} {ok ok' : Oks} (h : Grow w ok w' ok') (hb : ∀ b o, ok b o → b < w.heap.size) : Same ok ok' w w' :=
  ⟨h.sub, fun b o q => h.below.cell (p := ⟨b, o, none⟩) (hb b o q)⟩
theorem Grow.okb {w w' : World} {ok ok' : Oks} (h : Grow w ok w' ok') (hb : ∀ b o, ok b o → b < w.heap.size) : ∀ b o, ok' b o → b < w'.heap.size := by
  intro b o q
  rcases h.new b o q with q | ⟨_, q⟩
  · exact Nat.lt_of_lt_of_le (hb b o q) h.below.size
  · exact q

theorem ObjRep.grow {E : Env} {w w' : World} {ok ok' : Oks} (h : Grow w ok w' ok') (hb : ∀ b o, ok b o → b < w.heap.size) {id : Nat} {o : AObj} (r : ObjRep E ok w id o) : ObjRep E ok' w' id o := by
  have hs := h.same hb
  have hcell : ∀ b : Nat, b < w.heap.size → ∀ o, w'.cell? ⟨b, o, none⟩ = w.cell? ⟨b, o, none⟩ := fun b q o => h.below.cell (p := ⟨b, o, none⟩) q
  have hno : ∀ b : Nat, b < w.heap.size → ∀ o, ok' b o → ok b o := fun b q o r => by
    rcases h.new b o r with r | ⟨r, _⟩
    · exact r
    · omega
  cases o with
  | box l =>
    obtain ⟨b, e, cs, h1, h2, h3, h4, h5⟩ := r
    have hlt := heap_lt h2
    refine ⟨b, e, cs, h1, (h.below.block b hlt).trans h2, h3, fun o q => h4 o (hno b hlt o q), fun j hj => ?_⟩
    obtain ⟨u, hu, hu', hr⟩ := h5 j hj
    exact ⟨u, hu, hu', hr.mono hs⟩
  | cbox l =>
    obtain ⟨b, h1, hlt, h2, h3⟩ := r
    refine ⟨b, h1, Nat.lt_of_lt_of_le hlt h.below.size, h2, fun j hj => ?_⟩
    obtain ⟨q, u, hu, hr⟩ := h3 j hj
    exact ⟨hs.sub _ _ q, u, (hs.cell _ _ q).trans hu, hr.mono hs⟩
  | row z l ex =>
    rcases r with r | ⟨b, cap, cs, e, h1, h2, h3, h4, h5, h6, h7, h8⟩
    · exact .inl r
    · have hlt := heap_lt h3
      refine .inr ⟨b, cap, cs, e, h1, h2, (h.below.block b hlt).trans h3, h4, h5, h6, h7.mono hs (fun i _ => hcell b hlt _), fun o => ⟨fun q => (h8 o).1 (hno b hlt o q), fun q => hs.sub _ _ ((h8 o).2 q)⟩⟩

theorem Conc.grow {G : Gh} {E : Env} {ok ok' : Oks} {S : St} {a : Act} {w w' : World} (c : Conc G E ok S a w) (h : Grow w ok w' ok') : Conc G E ok' S a w' where
  n := c.n
  defers := c.defers
  slot t := (c.slot t).mono (h.same c.okb)
  obj id o q := (c.obj id o q).grow h c.okb
  apart := c.apart
  reg := c.reg
  okb := h.okb c.okb
  sub b o q := h.sub b o (c.sub b o q)
  newk b o q := (h.new b o q).elim (c.newk b o) fun q => .inr (.inl (Nat.le_trans c.size q.1))
  os := h.below.os.trans c.os
  tape := h.below.tape.trans c.tape
  output := h.below.output.trans c.output
  size := Nat.le_trans c.size h.below.size
  old b h1 h2 := (h.below.block b (Nat.lt_of_lt_of_le h1 c.size)).trans (c.old b h1 h2)

theorem get_put (S : St) (dst : Option Nat) (d : D) (t : Nat) : (S.put dst d).get t = if dst = some t ∧ t < S.n then d else S.get t := by
  unfold St.put
  cases dst with
  | none => simp
  | some u =>
    by_cases hu : u < S.n
    · simp only [hu, if_true, St.get, look]
      by_cases e : u = t
      · subst e; simp [hu]
      · simp [e]
    · simp only [hu, if_false]
      by_cases e : u = t
      · subst e; simp [hu]
      · simp [e]
theorem put_ob (S : St) (dst : Option Nat) (d : D) : (S.put dst d).ob = S.ob := by unfold St.put; cases dst <;> simp; split <;> rfl
theorem put_n (S : St) (dst : Option Nat) (d : D) : (S.put dst d).n = S.n := by unfold St.put; cases dst <;> simp; split <;> rfl
theorem Conc.put {G : Gh} {E : Env} {ok : Oks} {S : St} {a : Act} {w : World} (c : Conc G E ok S a w) (dst : Option Nat) {d : D} {v : Value} (r : RepD E ok w d v) : Conc G E ok (S.put dst d) (a.put dst v) w := by
  have hn : (a.put dst v).tmps.size = a.tmps.size := by cases dst <;> simp [Act.put]
  refine { c with n := by rw [hn, put_n]; exact c.n, defers := ?_, slot := fun t => ?_, obj := by rw [put_ob]; exact c.obj, apart := by rw [put_ob]; exact c.apart, reg := by rw [put_ob]; exact c.reg }
  · cases dst <;> exact c.defers
  · rw [get_put]
    cases dst with
    | none => simpa [Act.put] using c.slot t
    | some u =>
      by_cases e : u = t
      · subst e
        by_cases hu : u < S.n
        · simp only [hu, and_self, if_true, Act.put]
          have : u < a.tmps.size := by rw [c.n]; exact hu
          simp [this, r]
        · simp only [hu, and_false, if_false, Act.put]
          have : ¬ u < a.tmps.size := by rw [c.n]; exact hu
          have h1 := c.slot u
          simpa [this] using h1
      · have : ¬ (some u = some t ∧ t < S.n) := by simp [e]
        simp only [this, if_false, Act.put]
        have h1 := c.slot t
        simpa [Array.getElem?_setIfInBounds_ne e] using h1

/-- What is known where an operation runs. -/
structure QH (E : Env) (ok : Oks) (w : World) (a : Act) (ob : List (Nat × AObj)) (ρ : Operand → D) (op : Op) : Prop where
  opr : ∀ x, x ∈ op.operands.toList → RepD E ok w (ρ x) (a.eval x)
  obj : ∀ id o, look ob id = some o → ObjRep E ok w id o
  okb : ∀ b o, ok b o → b < w.heap.size

/-- The operation yields what 'd' tells. -/
def Does (P : Program) (E : Env) (o : Oper) (a : Act) (w : World) (ok : Oks) (d : D) : Prop :=
  ∀ (next : Act → World → Prop) (Q : Exit → Act → World → Prop), (∀ v w' ok', Grow w ok w' ok' → RepD E ok' w' d v → next (a.put o.dst v) w') → o.wp P a w next Q
theorem does_run {P : Program} {E : Env} {o : Oper} {a : Act} {w : World} {ok : Oks} {d : D} {v : Value} (h : (execOp a.eval o).run P w = .ok (.value v) w) (r : RepD E ok w d v) : Does P E o a w ok d := by
  intro next Q hn
  unfold Oper.wp
  rw [h]
  exact hn v w ok (Grow.refl _ _) r
theorem does_grow {P : Program} {E : Env} {o : Oper} {a : Act} {w w' : World} {ok ok' : Oks} {d : D} {v : Value} (h : (execOp a.eval o).run P w = .ok (.value v) w') (g : Grow w ok w' ok') (r : RepD E ok' w' d v) : Does P E o a w ok d := by
  intro next Q hn
  unfold Oper.wp
  rw [h]
  exact hn v w' ok' g r

/-! ### Numbers, strings, truth -/
theorem rep_int {ok : Oks} {w : World} {k : IntKind} {n : Int} {u : Value} (h : Rep ok w (.int k n) u) : u = .int k n := by cases h; rfl
theorem rep_str {ok : Oks} {w : World} {s : List UInt8} {u : Value} (h : Rep ok w (.str s) u) : u = .string ⟨s.toArray⟩ := by cases h; rfl
theorem rep_bool {ok : Oks} {w : World} {b : Bool} {u : Value} (h : Rep ok w (.bool b) u) : u = .bool b := by cases h; rfl
theorem repD_v {E : Env} {ok : Oks} {w : World} {x : V} {u : Value} (h : RepD E ok w (.v x) u) : Rep ok w x u := by cases h; assumption
theorem repD_int {E : Env} {ok : Oks} {w : World} {k : IntKind} {n : Int} {u : Value} (h : RepD E ok w (.v (.int k n)) u) : u = .int k n := rep_int (repD_v h)
theorem repD_str {E : Env} {ok : Oks} {w : World} {s : List UInt8} {u : Value} (h : RepD E ok w (.v (.str s)) u) : u = .string ⟨s.toArray⟩ := rep_str (repD_v h)
theorem repD_bool {E : Env} {ok : Oks} {w : World} {b : Bool} {u : Value} (h : RepD E ok w (.v (.bool b)) u) : u = .bool b := rep_bool (repD_v h)
theorem repD_lit {E : Env} {ok : Oks} {w : World} {b : Bool} {u : Value} (h : RepD E ok w (.lit b) u) : u = .bool b := by cases h; rfl
theorem keq_eq {k k' : IntKind} (h : keq k k' = true) : k = k' := by cases k <;> cases k' <;> first | rfl | simp [keq] at h
theorem size_mk (s : List UInt8) : (ByteArray.mk s.toArray).size = s.length := by simp [ByteArray.size]
theorem toList_mk (s : List UInt8) : (ByteArray.mk s.toArray).toList = s := by rw [ByteArray.toList_eq]
theorem append_mk (a b : List UInt8) : ByteArray.mk a.toArray ++ ByteArray.mk b.toArray = ⟨(a ++ b).toArray⟩ := by
  apply ByteArray.ext
  simp

theorem run_bits (P : Program) (op : BinOp) (k : IntKind) (a b : Int) (w : World) (h : op = .and ∨ op = .or ∨ op = .xor ∨ op = .andNot) : (Op.intBits op k a b).run P w = .ok (.int k (Go.bits op k a b)) w := by
  rcases h with rfl | rfl | rfl | rfl <;> simp [Op.intBits, Go.bits]

theorem intD_sound (P : Program) (R : List (Nat × AObj) → List D → Prop) (op : BinOp) (t : Nat) (k k' : IntKind) (a b : Int) (K : D → Prop) (hk : isShift op = false → k = k') (h : intD (std P R) op k a b K) :
    ∃ x, K (.v x) ∧ ∃ v, (∀ ok w, Rep ok w x v) ∧ ∀ (w : World) (p q : Operand), ((do eqGuard op t p q (.int k a) (.int k' b); binOp op t (.int k a) (.int k' b)) : Sem Value).run P w = .ok v w := by
  have hg : ∀ (w : World) p q, (eqGuard op t p q (.int k a) (.int k' b)).run P w = .ok () w := by
    intro w p q; unfold eqGuard; cases op <;> simp
  simp only [Sem.run_bind, hg, Result.andThen_ok]
  cases op <;> simp only [intD, std] at h <;> (try (have hk := hk rfl; subst hk))
  case add => exact ⟨_, h, _, fun _ _ => .int _ _, fun w _ _ => by simp [binOp, Op.intArith]⟩
  case sub => exact ⟨_, h, _, fun _ _ => .int _ _, fun w _ _ => by simp [binOp, Op.intArith]⟩
  case mul => exact ⟨_, h, _, fun _ _ => .int _ _, fun w _ _ => by simp [binOp, Op.intArith]⟩
  case quo => exact ⟨_, h.2, _, fun _ _ => .int _ _, fun w _ _ => by simp [binOp, Op.intDiv, h.1]⟩
  case rem => exact ⟨_, h.2, _, fun _ _ => .int _ _, fun w _ _ => by simp [binOp, Op.intDiv, h.1]⟩
  case and => exact ⟨_, h, _, fun _ _ => .int _ _, fun w _ _ => by simp [binOp]; exact run_bits P _ _ _ _ _ (by simp)⟩
  case or => exact ⟨_, h, _, fun _ _ => .int _ _, fun w _ _ => by simp [binOp]; exact run_bits P _ _ _ _ _ (by simp)⟩
  case xor => exact ⟨_, h, _, fun _ _ => .int _ _, fun w _ _ => by simp [binOp]; exact run_bits P _ _ _ _ _ (by simp)⟩
  case andNot => exact ⟨_, h, _, fun _ _ => .int _ _, fun w _ _ => by simp [binOp]; exact run_bits P _ _ _ _ _ (by simp)⟩
  case shl => exact ⟨_, h.2, _, fun _ _ => .int _ _, fun w _ _ => by simp [binOp, Op.shift, show ¬ b < 0 from by omega]⟩
  case shr => exact ⟨_, h.2, _, fun _ _ => .int _ _, fun w _ _ => by simp [binOp, Op.shift, show ¬ b < 0 from by omega]⟩
  case eql => exact ⟨_, h, _, fun _ _ => .bool _, fun w _ _ => by simp [binOp, Op.intCmp]⟩
  case neq => exact ⟨_, h, _, fun _ _ => .bool _, fun w _ _ => by simp [binOp, Op.intCmp]⟩
  case lss => exact ⟨_, h, _, fun _ _ => .bool _, fun w _ _ => by simp [binOp, Op.intCmp]⟩
  case leq => exact ⟨_, h, _, fun _ _ => .bool _, fun w _ _ => by simp [binOp, Op.intCmp]⟩
  case gtr => exact ⟨_, h, _, fun _ _ => .bool _, fun w _ _ => by simp [binOp, Op.intCmp]⟩
  case geq => exact ⟨_, h, _, fun _ _ => .bool _, fun w _ _ => by simp [binOp, Op.intCmp]⟩

theorem strD_sound (P : Program) (R : List (Nat × AObj) → List D → Prop) (op : BinOp) (t : Nat) (a b : List UInt8) (K : D → Prop) (h : strD (std P R) op a b K) :
    ∃ x, K (.v x) ∧ ∃ v, (∀ ok w, Rep ok w x v) ∧ ∀ (w : World) (p q : Operand), ((do eqGuard op t p q (.string ⟨a.toArray⟩) (.string ⟨b.toArray⟩); binOp op t (.string ⟨a.toArray⟩) (.string ⟨b.toArray⟩)) : Sem Value).run P w = .ok v w := by
  have hg : ∀ (w : World) p q, (eqGuard op t p q (.string ⟨a.toArray⟩) (.string ⟨b.toArray⟩)).run P w = .ok () w := by
    intro w p q; unfold eqGuard; cases op <;> simp
  simp only [Sem.run_bind, hg, Result.andThen_ok]
  cases op <;> simp only [strD, std] at h
  case add =>
    have hlen : ¬ (((ByteArray.mk a.toArray).size + (ByteArray.mk b.toArray).size : Nat) : Int) > IntKind.i64.max := by
      have e : IntKind.i64.max = 9223372036854775807 := by decide
      rw [size_mk, size_mk, e]; omega
    exact ⟨_, h.2, .string ⟨(a ++ b).toArray⟩, fun _ _ => .str _, fun w _ _ => by
      simp only [binOp, Op.stringOp]; rw [if_neg hlen, append_mk]; rfl⟩
  case eql => exact ⟨_, h, _, fun _ _ => .bool _, fun w _ _ => by simp [binOp, Op.stringOp, toList_mk]⟩
  case neq => exact ⟨_, h, _, fun _ _ => .bool _, fun w _ _ => by simp [binOp, Op.stringOp, toList_mk]⟩
  case lss => exact ⟨_, h, _, fun _ _ => .bool _, fun w _ _ => by simp [binOp, Op.stringOp, toList_mk]⟩
  case leq => exact ⟨_, h, _, fun _ _ => .bool _, fun w _ _ => by simp [binOp, Op.stringOp, toList_mk]⟩
  case gtr =>
    refine ⟨_, h, .bool (Op.bytesLess b a), fun _ _ => .bool _, fun w _ _ => ?_⟩
    simp only [binOp, Op.stringOp, toList_mk, Sem.run_pure]
    congr 2
    exact (bytesLess_gt a b)
  case geq =>
    refine ⟨_, h, .bool (Op.bytesLess b a || b == a), fun _ _ => .bool _, fun w _ _ => ?_⟩
    simp only [binOp, Op.stringOp, toList_mk, Sem.run_pure]
    congr 2
    exact (bytesLess_ge a b)
where
  bytesLess_gt : ∀ a b : List UInt8, (!(Op.bytesLess a b || a == b)) = Op.bytesLess b a
    | [], [] => rfl
    | [], _ :: _ => rfl
    | _ :: _, [] => rfl
    | x :: a, y :: b => by
      have ih := bytesLess_gt a b
      simp only [Op.bytesLess, List.cons_beq_cons]
      rcases Nat.lt_trichotomy x.toNat y.toNat with h | h | h
      · have h1 : x < y := UInt8.lt_iff_toNat_lt.2 h
        have h2 : ¬ y < x := fun q => by have := UInt8.lt_iff_toNat_lt.1 q; omega
        have h3 : (y == x) = false := by simp; intro q; subst q; omega
        simp [h1, h2, h3]
      · have h0 : x = y := UInt8.toNat_inj.1 h
        subst h0
        simp [ih]
      · have h1 : y < x := UInt8.lt_iff_toNat_lt.2 h
        have h2 : ¬ x < y := fun q => by have := UInt8.lt_iff_toNat_lt.1 q; omega
        have h3 : (x == y) = false := by simp; intro q; subst q; omega
        simp [h1, h2, h3]
  bytesLess_ge (a b : List UInt8) : (!(Op.bytesLess a b)) = (Op.bytesLess b a || b == a) := by
    have h1 := bytesLess_gt b a
    rw [← h1]
    simp
end Go.Proofs.Ytinckcpmkocakaa.AM
