/-
  The abstract machine, part 7: each quiet operation.
-/
import Derived.Test.YtinckcpmkocakaaAmQ2
set_option linter.unusedVariables false
set_option linter.unusedSimpArgs false
namespace Go.Proofs.Ytinckcpmkocakaa.AM
open Go Go.RowKit

/-- What an operation comes to, wherever it runs with these operands. -/
def Comes' (P : Program) (ob : List (Nat × AObj)) (ρ : Operand → D) (op : Op) (d : D) : Prop :=
  ∀ (E : Env) (ok : Oks) (w : World) (a : Act) (o : Oper), o.op = op → QH E ok w a ob ρ op → Does P E o a w ok d

theorem look?_some {α : Type} {l : List α} {n : Nat} {x : α} (h : look? l n = some x) : ∃ hn : n < l.length, l[n]'hn = x := by
  rw [look?_eq] at h
  exact List.getElem?_eq_some_iff.1 h
theorem intOfD_some {d : D} {n : Int} (h : intOfD d = some n) : ∃ k, d = .v (.int k n) := by
  cases d with
  | v x => cases x <;> simp [intOfD] at h; subst h; exact ⟨_, rfl⟩
  | _ => simp [intOfD] at h
theorem rowOf_some {ob : List (Nat × AObj)} {id z : Nat} {l : List V} {ex : Bool} (h : rowOf ob id = some (z, l, ex)) : look ob id = some (.row z l ex) := by
  unfold rowOf at h
  split at h
  · rename_i hl; simp only [Option.some.injEq, Prod.mk.injEq] at h; obtain ⟨rfl, rfl, rfl⟩ := h; exact hl
  · simp at h

theorem repD_ptr {E : Env} {ok : Oks} {w : World} {id off : Nat} {u : Value} (h : RepD E ok w (.ptr id off) u) : ∃ b, E.blk id = some b ∧ u = .pointer (some ⟨b, off, none⟩) := by
  cases h with
  | ptr _ _ b hb => exact ⟨b, hb, rfl⟩
theorem repD_rptr {E : Env} {ok : Oks} {w : World} {id z off : Nat} {i : Int} {u : Value} (h : RepD E ok w (.rptr id z i off) u) : ∃ b, E.blk id = some b ∧ 0 ≤ i ∧ u = .pointer (some ⟨b, i.toNat * z + off, none⟩) := by
  cases h with
  | rptr _ _ _ _ b hb hi => exact ⟨b, hb, hi, rfl⟩
theorem repD_own {E : Env} {ok : Oks} {w : World} {id : Nat} {u : Value} (h : RepD E ok w (.own id) u) : u = E.hdr id := by cases h; rfl
theorem repD_nils {E : Env} {ok : Oks} {w : World} {u : Value} (h : RepD E ok w .nils u) : u = .slice none 0 0 := by cases h; rfl
theorem repD_fn {E : Env} {ok : Oks} {w : World} {f : Nat} {cap : List D} {u : Value} (h : RepD E ok w (.fn f cap) u) : ∃ cs : List Value, u = .func (.func f) #[] cs.toArray ∧ cs.length = cap.length ∧ ∀ i (h : i < cap.length) (h' : i < cs.length), RepD E ok w (cap[i]'h) (cs[i]'h') := by
  cases h with
  | fn _ _ cs hl hr => exact ⟨cs, rfl, hl, hr⟩
theorem repD_agg {E : Env} {ok : Oks} {w : World} {l : List D} {u : Value} (h : RepD E ok w (.agg l) u) : ∃ cs : List Value, u = .agg cs.toArray ∧ cs.length = l.length ∧ (∀ u ∈ cs, u.oneCell' = true) ∧ ∀ i (h : i < l.length) (h' : i < cs.length), RepD E ok w (l[i]'h) (cs[i]'h') := by
  cases h with
  | agg _ cs hl hc hr => exact ⟨cs, rfl, hl, hc, hr⟩
theorem repD_tup {E : Env} {ok : Oks} {w : World} {l : List D} {u : Value} (h : RepD E ok w (.tup l) u) : ∃ cs : List Value, u = .tuple cs.toArray ∧ cs.length = l.length ∧ ∀ i (h : i < l.length) (h' : i < cs.length), RepD E ok w (l[i]'h) (cs[i]'h') := by
  cases h with
  | tup _ cs hl hr => exact ⟨cs, rfl, hl, hr⟩
theorem rep_ref {ok : Oks} {w : World} {l : List V} {u : Value} (h : Rep ok w (.ref l) u) : ∃ b off, u = .pointer (some ⟨b, off, none⟩) ∧ (∀ j (h : j < l.length), ok b (off + j) ∧ (l[j]'h).cell = true ∧ ∃ v, w.cell? ⟨b, off + j, none⟩ = some v ∧ Rep ok w (l[j]'h) v) := by
  cases h with
  | ref _ b off us ha hc hr => exact ⟨b, off, rfl, fun j hj => ⟨(ha j hj).1, hc j hj, _, (ha j hj).2, hr j hj⟩⟩
theorem rep_clo {ok : Oks} {w : World} {f : Nat} {cap : List V} {u : Value} (h : Rep ok w (.clo f cap) u) : ∃ cs : List Value, u = .func (.func f) #[] cs.toArray ∧ cs.length = cap.length ∧ ∀ i (h : i < cap.length) (h' : i < cs.length), Rep ok w (cap[i]'h) (cs[i]'h') := by
  cases h with
  | clo _ _ cs hl hr => exact ⟨cs, rfl, hl, hr⟩
theorem rep_nilp {ok : Oks} {w : World} {u : Value} (h : Rep ok w .nilp u) : u = .pointer none := by cases h; rfl
theorem rep_nilfn {ok : Oks} {w : World} {u : Value} (h : Rep ok w .nilfn u) : u = .nilFunc := by cases h; rfl
theorem own_slice {E : Env} {ok : Oks} {w : World} {id z : Nat} {l : List V} {ex : Bool} (h : RowRep E ok w id z l ex) : ∃ a c, E.hdr id = .slice a l.length c ∧ (a = none → l = []) := by
  rcases h with ⟨rfl, _, h⟩ | ⟨b, cap, cs, e, _, h, _⟩
  · exact ⟨none, 0, h, fun _ => rfl⟩
  · exact ⟨_, _, h, fun q => by simp at q⟩

section
variable {P : Program} {R : List (Nat × AObj) → List D → Prop} (hT : tableOf P = T)

theorem q_move (ob : List (Nat × AObj)) (ρ : Operand → D) (x : Operand) : Comes' P ob ρ (.move x) (ρ x) := by
  intro E ok w a o ho hq
  refine does_run (v := a.eval x) (by simp [execOp, ho]) (hq.opr x (by simp [Op.operands]))
theorem q_assign (ob : List (Nat × AObj)) (ρ : Operand → D) (x : Operand) : Comes' P ob ρ (.assign x) (ρ x) := by
  intro E ok w a o ho hq
  refine does_run (v := a.eval x) (by simp [execOp, ho]) (hq.opr x (by simp [Op.operands]))
theorem q_pick (ob : List (Nat × AObj)) (ρ : Operand → D) (c x y : Operand) (b : Bool) (h : ρ c = .lit b ∨ ρ c = .v (.bool b)) : Comes' P ob ρ (.pick c x y) (if b then ρ x else ρ y) := by
  intro E ok w a o ho hq
  have hc : a.eval c = .bool b := by
    have := hq.opr c (by simp [Op.operands])
    rcases h with h | h <;> rw [h] at this
    · exact repD_lit this
    · exact repD_bool this
  refine does_run (v := if b then a.eval x else a.eval y) (by simp [execOp, ho, hc, asBool]) ?_
  cases b
  · exact hq.opr y (by simp [Op.operands])
  · exact hq.opr x (by simp [Op.operands])
theorem q_nilCheck (ob : List (Nat × AObj)) (ρ : Operand → D) (x : Operand) (h : (∃ i o, ρ x = .ptr i o) ∨ (∃ i z j o, ρ x = .rptr i z j o) ∨ (∃ l, ρ x = .v (.ref l)) ∨ (∃ f c, ρ x = .fn f c) ∨ (∃ f c, ρ x = .v (.clo f c))) : Comes' P ob ρ (.nilCheck x) (ρ x) := by
  intro E ok w a o ho hq
  have hx := hq.opr x (by simp [Op.operands])
  refine does_run (v := a.eval x) ?_ hx
  rcases h with ⟨i, f, h⟩ | ⟨i, z, j, f, h⟩ | ⟨l, h⟩ | ⟨f, c, h⟩ | ⟨f, c, h⟩ <;> rw [h] at hx
  · obtain ⟨b, _, he⟩ := repD_ptr hx; simp [execOp, ho, he]
  · obtain ⟨b, _, _, he⟩ := repD_rptr hx; simp [execOp, ho, he]
  · obtain ⟨b, off, he, _⟩ := rep_ref (repD_v hx); simp [execOp, ho, he]
  · obtain ⟨cs, he, _⟩ := repD_fn hx; simp [execOp, ho, he]
  · obtain ⟨cs, he, _⟩ := rep_clo (repD_v hx); simp [execOp, ho, he]

theorem does_v {E : Env} {ok : Oks} {w : World} {a : Act} {o : Oper} {d : D} {s : Sem Value} {v : Value} (h : execOp a.eval o = (do pure (.value (← s)))) (hs : s.run P w = .ok v w) (r : RepD E ok w d v) : Does P E o a w ok d :=
  does_run (v := v) (by rw [h]; simp [hs]) r

theorem q_int (ob : List (Nat × AObj)) (ρ : Operand → D) (op : BinOp) (t t' : TypeId) (x y : Operand) (k k' : IntKind) (m n : Int) (hx : ρ x = .v (.int k m)) (hy : ρ y = .v (.int k' n)) (hk : isShift op = false → k = k') (K : D → Prop)
    (h : intD (std P R) op k m n K) : ∃ d, K d ∧ Comes' P ob ρ (.binOp op t x y t') d := by
  obtain ⟨z, hz, v, hv, hrun⟩ := intD_sound P R op t k k' m n K hk h
  refine ⟨_, hz, fun E ok w a o ho hq => ?_⟩
  have e1 : a.eval x = .int k m := repD_int (hx ▸ hq.opr x (by simp [Op.operands]))
  have e2 : a.eval y = .int k' n := repD_int (hy ▸ hq.opr y (by simp [Op.operands]))
  refine does_v (s := do eqGuard op t x y (.int k m) (.int k' n); binOp op t (.int k m) (.int k' n)) ?_ (hrun w x y) (.v _ _ (hv ok w))
  simp only [execOp, ho, e1, e2]
theorem q_strop (ob : List (Nat × AObj)) (ρ : Operand → D) (op : BinOp) (t t' : TypeId) (x y : Operand) (m n : List UInt8) (hx : ρ x = .v (.str m)) (hy : ρ y = .v (.str n)) (K : D → Prop)
    (h : strD (std P R) op m n K) : ∃ d, K d ∧ Comes' P ob ρ (.binOp op t x y t') d := by
  obtain ⟨z, hz, v, hv, hrun⟩ := strD_sound P R op t m n K h
  refine ⟨_, hz, fun E ok w a o ho hq => ?_⟩
  have e1 : a.eval x = .string ⟨m.toArray⟩ := repD_str (hx ▸ hq.opr x (by simp [Op.operands]))
  have e2 : a.eval y = .string ⟨n.toArray⟩ := repD_str (hy ▸ hq.opr y (by simp [Op.operands]))
  refine does_v (s := do eqGuard op t x y (.string ⟨m.toArray⟩) (.string ⟨n.toArray⟩); binOp op t (.string ⟨m.toArray⟩) (.string ⟨n.toArray⟩)) ?_ (hrun w x y) (.v _ _ (hv ok w))
  simp only [execOp, ho, e1, e2]

/-! '==' of the rest -/
/-- '==' comes to c. -/
def EqRun (P : Program) (t : Nat) (ob : List (Nat × AObj)) (x y : D) (d : D) : Prop :=
  ∀ (E : Env) (ok : Oks) (w : World) (u v : Value), (∀ id o, look ob id = some o → ObjRep E ok w id o) → RepD E ok w x u → RepD E ok w y v →
    ∃ c : Bool, RepD E ok w d (.bool c) ∧ RepD E ok w (notD (std P R) d) (.bool !c) ∧ (∀ op p q, (op = .eql ∨ op = .neq) → (eqGuard op t p q u v).run P w = .ok () w) ∧
      (binOp .eql t u v).run P w = .ok (.bool c) w ∧ (binOp .neq t u v).run P w = .ok (.bool !c) w
theorem q_eq (ob : List (Nat × AObj)) (ρ : Operand → D) (t t' : TypeId) (x y : Operand) (d : D) (h : EqRun (R := R) P t ob (ρ x) (ρ y) d) : Comes' P ob ρ (.binOp .eql t x y t') d := by
  intro E ok w a o ho hq
  obtain ⟨c, h1, h2, h3, h4, h5⟩ := h E ok w _ _ hq.obj (hq.opr x (by simp [Op.operands])) (hq.opr y (by simp [Op.operands]))
  refine does_v (s := do eqGuard .eql t x y (a.eval x) (a.eval y); binOp .eql t (a.eval x) (a.eval y)) (v := .bool c) ?_ ?_ h1
  · simp only [execOp, ho]
  · simp [h3 .eql x y (.inl rfl), h4]
theorem q_ne (ob : List (Nat × AObj)) (ρ : Operand → D) (t t' : TypeId) (x y : Operand) (d : D) (h : EqRun (R := R) P t ob (ρ x) (ρ y) d) : Comes' P ob ρ (.binOp .neq t x y t') (notD (std P R) d) := by
  intro E ok w a o ho hq
  obtain ⟨c, h1, h2, h3, h4, h5⟩ := h E ok w _ _ hq.obj (hq.opr x (by simp [Op.operands])) (hq.opr y (by simp [Op.operands]))
  refine does_v (s := do eqGuard .neq t x y (a.eval x) (a.eval y); binOp .neq t (a.eval x) (a.eval y)) (v := .bool !c) ?_ ?_ h2
  · simp only [execOp, ho]
  · simp [h3 .neq x y (.inr rfl), h5]

theorem eq_run_of {t : Nat} {u v : Value} {c : Bool} {w : World} (hu : ∀ a b, ¬ (u = .agg a ∧ v = .agg b)) (hu' : ¬ (u = .nilIface ∧ v = .nilIface)) (h : (Op.equal t u v).run P w = .ok c w)
    (hb : binOp .eql t u v = (do pure (.bool (← Op.equal t u v))) ∧ binOp .neq t u v = (do pure (.bool (!(← Op.equal t u v))))) :
    (∀ op p q, (op = .eql ∨ op = .neq) → (eqGuard op t p q u v).run P w = .ok () w) ∧ (binOp .eql t u v).run P w = .ok (.bool c) w ∧ (binOp .neq t u v).run P w = .ok (.bool !c) w := by
  refine ⟨fun op p q ho => ?_, ?_, ?_⟩
  · unfold eqGuard
    rcases ho with rfl | rfl
    all_goals
      simp only [Bool.not_true, Bool.false_eq_true, if_false]
      split
      · exact absurd ⟨rfl, rfl⟩ hu'
      · exact absurd ⟨rfl, rfl⟩ (hu _ _)
      · simp
  · rw [hb.1]; simp only [Sem.run_bind, h, Result.andThen_ok, Sem.run_pure]
  · rw [hb.2]; simp only [Sem.run_bind, h, Result.andThen_ok, Sem.run_pure]
theorem equal_ptr_nil {t e : Nat} (hu : P.underlying t = some (.pointer e)) (w : World) (a : Addr) : (Op.equal t (.pointer (some a)) (.pointer none)).run P w = .ok false w := by
  have h : ∀ d, (Op.equalIn (d + 1) t (.pointer (some a)) (.pointer none)).run P w = .ok false w := fun d => by simp [Op.equalIn, run_underlying hu]
  exact h 9999
theorem equal_nil_ptr {t e : Nat} (hu : P.underlying t = some (.pointer e)) (w : World) (a : Option Addr) : (Op.equal t (.pointer none) (.pointer a)).run P w = .ok a.isNone w := by
  have h : ∀ d, (Op.equalIn (d + 1) t (.pointer none) (.pointer a)).run P w = .ok a.isNone w := fun d => by simp [Op.equalIn, run_underlying hu]
  exact h 9999
theorem equal_slice_nil {t e : Nat} (hu : P.underlying t = some (.slice e)) (w : World) (a : Option Addr) (n c : Nat) : (Op.equal t (.slice a n c) (.slice none 0 0)).run P w = .ok a.isNone w := by
  have h : ∀ d, (Op.equalIn (d + 1) t (.slice a n c) (.slice none 0 0)).run P w = .ok a.isNone w := fun d => by cases a <;> simp [Op.equalIn, run_underlying hu]
  exact h 9999
theorem equal_bool {t : Nat} (hu : P.underlying t = some .bool) (w : World) (a b : Bool) : (Op.equal t (.bool a) (.bool b)).run P w = .ok (a == b) w := by
  have h : ∀ d, (Op.equalIn (d + 1) t (.bool a) (.bool b)).run P w = .ok (a == b) w := fun d => by simp [Op.equalIn, run_underlying hu]
  exact h 9999
theorem equal_fn_nil {t : Nat} {ps rs : Array TypeId} {vr : Bool} (hu : P.underlying t = some (.func ps rs vr)) (w : World) (f : Fn) (a b : Array Value) : (Op.equal t (.func f a b) .nilFunc).run P w = .ok false w := by
  have h : ∀ d, (Op.equalIn (d + 1) t (.func f a b) .nilFunc).run P w = .ok false w := fun d => by simp [Op.equalIn, run_underlying hu]
  exact h 9999
end
end Go.Proofs.Ytinckcpmkocakaa.AM
