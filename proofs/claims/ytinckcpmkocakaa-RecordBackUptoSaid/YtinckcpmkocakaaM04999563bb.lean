/-
  The abstract machine, part 7: each quiet operation.
-/
import Derived.Test.YtinckcpmkocakaaM03765a452d
set_option linter.unusedVariables false
set_option linter.unusedSimpArgs false
namespace Go.Proofs.Ytinckcpmkocakaa.AM
open Go Go.RowKit

/-- What an operation comes to, wherever it runs with these operands. -/
def Comes' (P : Program) (ob : List (Nat × AObj)) (ρ : Operand → D) (op : Op) (d : D) : Prop :=
  ∀ (E : Env) (ok : Oks) (w : World) (a : Act) (o : Oper), o.op = op → QH E ok w a ob ρ op → Does P E o a w ok d

theorem look?_some {α : Type} {l : List α} {n : Nat} {x : α} (h : look? l n = some x) : ∃ hn : n < l.length, l[n]'hn = x := by
  rw [look?_eq] at h
  exact List.getElem?_eq_some_iff.1 h
theorem intOfD_some {d : D} {n : Int} (h : intOfD d = some n) : ∃ k, d = .v (.int k n) := by
  cases d with
  | v x => cases x <;> simp [intOfD] at h; subst h; exact ⟨_, rfl⟩
  | _ => simp [intOfD] at h
theorem rowOf_some {ob : List (Nat × AObj)} {id z : Nat} {l : List V} {ex : Bool} (h : rowOf ob id = some (z, l, ex)) : look ob id = some (.row z l ex) := by
  unfold rowOf at h
  split at h
  · rename_i hl; simp only [Option.some.injEq, Prod.mk.injEq] at h; obtain ⟨rfl, rfl, rfl⟩ := h; exact hl
  · simp at h

theorem repD_ptr {E : Env} {ok : Oks} {w : World} {id off : Nat} {u : Value} (h : RepD E ok w (.ptr id off) u) : ∃ b, E.blk id = some b ∧ u = .pointer (some ⟨b, off, none⟩) := by
  cases h with
  | ptr _ _ b hb => exact ⟨b, hb, rfl⟩
theorem repD_rptr {E : Env} {ok : Oks} {w : World} {id z off : Nat} {i : Int} {u : Value} (h : RepD E ok w (.rptr id z i off) u) : ∃ b, E.blk id = some b ∧ 0 ≤ i ∧ u = .pointer (some ⟨b, i.toNat * z + off, none⟩) := by
  cases h with
  | rptr _ _ _ _ b hb hi => exact ⟨b, hb, hi, rfl⟩
theorem repD_own {E : Env} {ok : Oks} {w : World} {id : Nat} {u : Value} (h : RepD E ok w (.own id) u) : u = E.hdr id := by cases h; rfl
theorem repD_nils {E : Env} {ok : Oks} {w : World} {u : Value} (h : RepD E ok w .nils u) : u = .slice none 0 0 := by cases h; rfl
theorem repD_fn {E : Env} {ok : Oks} {w : World} {f : Nat} {cap : List D} {u : Value} (h : RepD E ok w (.fn f cap) u) : ∃ cs : List Value, u = .func (.func f) #[] cs.toArray ∧ cs.length = cap.length ∧ ∀ i (h : i < cap.length) (h' : i < cs.length), RepD E ok w (cap[i]'h) (cs[i]'h') := by
  cases h with
  | fn _ _ cs hl hr => exact ⟨cs, rfl, hl, hr⟩
theorem repD_agg {E : Env} {ok : Oks} {w : World} {l : List D} {u : Value} (h : RepD E ok w (.agg l) u) : ∃ cs : List Value, u = .agg cs.toArray ∧ cs.length = l.length ∧ (∀ u ∈ cs, u.oneCell' = true) ∧ ∀ i (h : i < l.length) (h' : i < cs.length), RepD E ok w (l[i]'h) (cs[i]'h') := by
  cases h with
  | agg _ cs hl hc hr => exact ⟨cs, rfl, hl, hc, hr⟩
theorem repD_tup {E : Env} {ok : Oks} {w : World} {l : List D} {u : Value} (h : RepD E ok w (.tup l) u) : ∃ cs : List Value, u = .tuple cs.toArray ∧ cs.length = l.length ∧ ∀ i (h : i < l.length) (h' : i < cs.length), RepD E ok w (l[i]'h) (cs[i]'h') := by
  cases h with
  | tup _ cs hl hr => exact ⟨cs, rfl, hl, hr⟩
theorem rep_ref {ok : Oks} {w : World} {l : List V} {u : Value} (h : Rep ok w (.ref l) u) : ∃ b off, u = .pointer (some ⟨b, off, none⟩) ∧ (∀ j (h : j < l.length), ok b (off + j) ∧ (l[j]'h).cell = true ∧ ∃ v, w.cell? ⟨b, off + j, none⟩ = some v ∧ Rep ok w (l[j]'h) v) := by
  cases h with
  | ref _ b off us ha hc hr => exact ⟨b, off, rfl, fun j hj => ⟨(ha j hj).1, hc j hj, _, (ha j hj).2, hr j hj⟩⟩
theorem rep_clo {ok : Oks} {w : World} {f : Nat} {cap : List V} {u : Value} (h : Rep ok w (.clo f cap) u) : ∃ cs : List Value, u = .func (.func f) #[] cs.toArray ∧ cs.length = cap.length ∧ ∀ i (h : i < cap.length) (h' : i < cs.length), Rep ok w (cap[i]'h) (cs[i]'h') := by
  cases h with
  | clo _ _ cs hl hr => exact ⟨cs, rfl, hl, hr⟩
theorem rep_nils {ok : Oks} {w : World} {u : Value} (h : Rep ok w .nils u) : u = .slice none 0 0 := by cases h; rfl
theorem rep_gp {ok : Oks} {w : World} {id off : Nat} {u : Value} (h : Rep ok w (.gp id off) u) : ∃ b, id < ok.next ∧ ok.blk id = some b ∧ u = .pointer (some ⟨b, off, none⟩) := by
  cases h with
  | gp _ _ b hn hb => exact ⟨b, hn, hb, rfl⟩
theorem rep_ge {ok : Oks} {w : World} {id z off : Nat} {i : Int} {u : Value} (h : Rep ok w (.ge id z i off) u) : ∃ b, id < ok.next ∧ ok.blk id = some b ∧ 0 ≤ i ∧ u = .pointer (some ⟨b, i.toNat * z + off, none⟩) := by
  cases h with
  | ge _ _ _ _ b hn hb hi => exact ⟨b, hn, hb, hi, rfl⟩
theorem rep_gm {ok : Oks} {w : World} {id : Nat} {u : Value} (h : Rep ok w (.gm id) u) : ∃ b, id < ok.next ∧ ok.blk id = some b ∧ u = .map (some b) := by
  cases h with
  | gm _ b hn hb => exact ⟨b, hn, hb, rfl⟩
theorem rep_gs {ok : Oks} {w : World} {id : Nat} {n : Int} {u : Value} (h : Rep ok w (.gs id n) u) : id < ok.next ∧ ((n = 0 ∧ ok.blk id = none ∧ u = .slice none 0 0) ∨ ∃ b, ok.blk id = some b ∧ 0 ≤ n ∧ n ≤ ok.cap id ∧ ok.cap id ≤ maxLen ∧ u = .slice (some ⟨b, 0, none⟩) n.toNat (ok.cap id)) := by
  cases h with
  | gs0 _ hn hb => exact ⟨hn, .inl ⟨rfl, hb, rfl⟩⟩
  | gs _ _ b hn hb h0 hc hm => exact ⟨hn, .inr ⟨b, hb, h0, hc, hm, rfl⟩⟩
theorem rep_mth {ok : Oks} {w : World} {f : Nat} {fst : List V} {u : Value} (h : Rep ok w (.mth f fst) u) : ∃ cs : List Value, u = .func (.func f) cs.toArray #[] ∧ cs.length = fst.length ∧ ∀ i (h : i < fst.length) (h' : i < cs.length), Rep ok w (fst[i]'h) (cs[i]'h') := by
  cases h with
  | mth _ _ cs hl hr => exact ⟨cs, rfl, hl, hr⟩
theorem rep_nilp {ok : Oks} {w : World} {u : Value} (h : Rep ok w .nilp u) : u = .pointer none := by cases h; rfl
theorem rep_nilfn {ok : Oks} {w : World} {u : Value} (h : Rep ok w .nilfn u) : u = .nilFunc := by cases h; rfl
theorem own_slice {E : Env} {ok : Oks} {w : World} {id z : Nat} {l : List V} {ex : Bool} (h : RowRep E ok w id z l ex) : ∃ a c, E.hdr id = .slice a l.length c ∧ (a = none → l = []) := by
  rcases h with ⟨rfl, _, h⟩ | ⟨b, cap, cs, e, _, h, _⟩
  · exact ⟨none, 0, h, fun _ => rfl⟩
  · exact ⟨_, _, h, fun q => by simp at q⟩

section
variable {P : Program} {R : List (Nat × AObj) → List D → Prop} (hT : tableOf P = T)

theorem q_move (ob : List (Nat × AObj)) (ρ : Operand → D) (x : Operand) : Comes' P ob ρ (.move x) (ρ x) := by
  intro E ok w a o ho hq
  refine does_run (v := a.eval x) (by simp [execOp, ho]) (hq.opr x (by simp [Op.operands]))
theorem q_assign (ob : List (Nat × AObj)) (ρ : Operand → D) (x : Operand) : Comes' P ob ρ (.assign x) (ρ x) := by
  intro E ok w a o ho hq
  refine does_run (v := a.eval x) (by simp [execOp, ho]) (hq.opr x (by simp [Op.operands]))
theorem q_pick (ob : List (Nat × AObj)) (ρ : Operand → D) (c x y : Operand) (b : Bool) (h : ρ c = .lit b ∨ ρ c = .v (.bool b)) : Comes' P ob ρ (.pick c x y) (if b then ρ x else ρ y) := by
  intro E ok w a o ho hq
  have hc : a.eval c = .bool b := by
    have := hq.opr c (by simp [Op.operands])
    rcases h with h | h <;> rw [h] at this
    · exact repD_lit this
    · exact repD_bool this
  refine does_run (v := if b then a.eval x else a.eval y) (by simp [execOp, ho, hc, asBool]) ?_
  cases b
  · exact hq.opr y (by simp [Op.operands])
  · exact hq.opr x (by simp [Op.operands])
theorem q_nilCheck (ob : List (Nat × AObj)) (ρ : Operand → D) (x : Operand) (h : (∃ i o, ρ x = .ptr i o) ∨ (∃ i z j o, ρ x = .rptr i z j o) ∨ (∃ l, ρ x = .v (.ref l)) ∨ (∃ f c, ρ x = .fn f c) ∨ (∃ f c, ρ x = .v (.clo f c)) ∨ (∃ i o, ρ x = .v (.gp i o)) ∨ (∃ i z j o, ρ x = .v (.ge i z j o)) ∨ (∃ f c, ρ x = .v (.mth f c))) : Comes' P ob ρ (.nilCheck x) (ρ x) := by
  intro E ok w a o ho hq
  have hx := hq.opr x (by simp [Op.operands])
  refine does_run (v := a.eval x) ?_ hx
  rcases h with ⟨i, f, h⟩ | ⟨i, z, j, f, h⟩ | ⟨l, h⟩ | ⟨f, c, h⟩ | ⟨f, c, h⟩ | ⟨i, f, h⟩ | ⟨i, z, j, f, h⟩ | ⟨f, c, h⟩ <;> rw [h] at hx
  · obtain ⟨b, _, he⟩ := repD_ptr hx; simp [execOp, ho, he]
  · obtain ⟨b, _, _, he⟩ := repD_rptr hx; simp [execOp, ho, he]
  · obtain ⟨b, off, he, _⟩ := rep_ref (repD_v hx); simp [execOp, ho, he]
  · obtain ⟨cs, he, _⟩ := repD_fn hx; simp [execOp, ho, he]
  · obtain ⟨cs, he, _⟩ := rep_clo (repD_v hx); simp [execOp, ho, he]
  · obtain ⟨b, _, _, he⟩ := rep_gp (repD_v hx); simp [execOp, ho, he]
  · obtain ⟨b, _, _, _, he⟩ := rep_ge (repD_v hx); simp [execOp, ho, he]
  · obtain ⟨cs, he, _⟩ := rep_mth (repD_v hx); simp [execOp, ho, he]

theorem does_v {E : Env} {ok : Oks} {w : World} {a : Act} {o : Oper} {d : D} {s : Sem Value} {v : Value} (h : execOp a.eval o = (do pure (.value (← s)))) (hs : s.run P w = .ok v w) (r : RepD E ok w d v) : Does P E o a w ok d :=
  does_run (v := v) (by rw [h]; simp [hs]) r

theorem q_int (ob : List (Nat × AObj)) (ρ : Operand → D) (op : BinOp) (t t' : TypeId) (x y : Operand) (k k' : IntKind) (m n : Int) (hx : ρ x = .v (.int k m)) (hy : ρ y = .v (.int k' n)) (hk : isShift op = false → k = k') (K : D → Prop)
    (h : intD (std P R) op k m n K) : ∃ d, K d ∧ Comes' P ob ρ (.binOp op t x y t') d := by
  obtain ⟨z, hz, v, hv, hrun⟩ := intD_sound P R op t k k' m n K hk h
  refine ⟨_, hz, fun E ok w a o ho hq => ?_⟩
  have e1 : a.eval x = .int k m := repD_int (hx ▸ hq.opr x (by simp [Op.operands]))
  have e2 : a.eval y = .int k' n := repD_int (hy ▸ hq.opr y (by simp [Op.operands]))
  refine does_v (s := do eqGuard op t x y (.int k m) (.int k' n); binOp op t (.int k m) (.int k' n)) ?_ (hrun w x y) (.v _ _ (hv ok w))
  simp only [execOp, ho, e1, e2]
theorem q_strop (ob : List (Nat × AObj)) (ρ : Operand → D) (op : BinOp) (t t' : TypeId) (x y : Operand) (m n : List UInt8) (hx : ρ x = .v (.str m)) (hy : ρ y = .v (.str n)) (K : D → Prop)
    (h : strD (std P R) op m n K) : ∃ d, K d ∧ Comes' P ob ρ (.binOp op t x y t') d := by
  obtain ⟨z, hz, v, hv, hrun⟩ := strD_sound P R op t m n K h
  refine ⟨_, hz, fun E ok w a o ho hq => ?_⟩
  have e1 : a.eval x = .string ⟨m.toArray⟩ := repD_str (hx ▸ hq.opr x (by simp [Op.operands]))
  have e2 : a.eval y = .string ⟨n.toArray⟩ := repD_str (hy ▸ hq.opr y (by simp [Op.operands]))
  refine does_v (s := do eqGuard op t x y (.string ⟨m.toArray⟩) (.string ⟨n.toArray⟩); binOp op t (.string ⟨m.toArray⟩) (.string ⟨n.toArray⟩)) ?_ (hrun w x y) (.v _ _ (hv ok w))
  simp only [execOp, ho, e1, e2]

/-! '==' of the rest -/
/-- '==' comes to c. -/
def EqRun (P : Program) (t : Nat) (ob : List (Nat × AObj)) (x y : D) (d : D) : Prop :=
  ∀ (E : Env) (ok : Oks) (w : World) (u v : Value), (∀ id o, look ob id = some o → ObjRep E ok w id o) → RepD E ok w x u → RepD E ok w y v →
    ∃ c : Bool, RepD E ok w d (.bool c) ∧ RepD E ok w (notD (std P R) d) (.bool !c) ∧ (∀ op p q, (op = .eql ∨ op = .neq) → (eqGuard op t p q u v).run P w = .ok () w) ∧
      (binOp .eql t u v).run P w = .ok (.bool c) w ∧ (binOp .neq t u v).run P w = .ok (.bool !c) w
theorem q_eq (ob : List (Nat × AObj)) (ρ : Operand → D) (t t' : TypeId) (x y : Operand) (d : D) (h : EqRun (R := R) P t ob (ρ x) (ρ y) d) : Comes' P ob ρ (.binOp .eql t x y t') d := by
  intro E ok w a o ho hq
  obtain ⟨c, h1, h2, h3, h4, h5⟩ := h E ok w _ _ hq.obj (hq.opr x (by simp [Op.operands])) (hq.opr y (by simp [Op.operands]))
  refine does_v (s := do eqGuard .eql t x y (a.eval x) (a.eval y); binOp .eql t (a.eval x) (a.eval y)) (v := .bool c) ?_ ?_ h1
  · simp only [execOp, ho]
  · simp [h3 .eql x y (.inl rfl), h4]
theorem q_ne (ob : List (Nat × AObj)) (ρ : Operand → D) (t t' : TypeId) (x y : Operand) (d : D) (h : EqRun (R := R) P t ob (ρ x) (ρ y) d) : Comes' P ob ρ (.binOp .neq t x y t') (notD (std P R) d) := by
  intro E ok w a o ho hq
  obtain ⟨c, h1, h2, h3, h4, h5⟩ := h E ok w _ _ hq.obj (hq.opr x (by simp [Op.operands])) (hq.opr y (by simp [Op.operands]))
  refine does_v (s := do eqGuard .neq t x y (a.eval x) (a.eval y); binOp .neq t (a.eval x) (a.eval y)) (v := .bool !c) ?_ ?_ h2
  · simp only [execOp, ho]
  · simp [h3 .neq x y (.inr rfl), h5]

theorem eq_run_of {t : Nat} {u v : Value} {c : Bool} {w : World} (hu : ∀ a b, ¬ (u = .agg a ∧ v = .agg b)) (hu' : ¬ (u = .nilIface ∧ v = .nilIface)) (h : (Op.equal t u v).run P w = .ok c w)
    (hb : binOp .eql t u v = (do pure (.bool (← Op.equal t u v))) ∧ binOp .neq t u v = (do pure (.bool (!(← Op.equal t u v))))) :
    (∀ op p q, (op = .eql ∨ op = .neq) → (eqGuard op t p q u v).run P w = .ok () w) ∧ (binOp .eql t u v).run P w = .ok (.bool c) w ∧ (binOp .neq t u v).run P w = .ok (.bool !c) w := by
  refine ⟨fun op p q ho => ?_, ?_, ?_⟩
  · unfold eqGuard
    rcases ho with rfl | rfl
    all_goals
      simp only [Bool.not_true, Bool.false_eq_true, if_false]
      split
      · exact absurd ⟨rfl, rfl⟩ hu'
      · exact absurd ⟨rfl, rfl⟩ (hu _ _)
      · simp
  · rw [hb.1]; simp only [Sem.run_bind, h, Result.andThen_ok, Sem.run_pure]
  · rw [hb.2]; simp only [Sem.run_bind, h, Result.andThen_ok, Sem.run_pure]
theorem equal_ptr_nil {t e : Nat} (hu : P.underlying t = some (.pointer e)) (w : World) (a : Addr) : (Op.equal t (.pointer (some a)) (.pointer none)).run P w = .ok false w := by
  have h : ∀ d, (Op.equalIn (d + 1) t (.pointer (some a)) (.pointer none)).run P w = .ok false w := fun d => by simp [Op.equalIn, run_underlying hu]
  exact h 9999
theorem equal_nil_ptr {t e : Nat} (hu : P.underlying t = some (.pointer e)) (w : World) (a : Option Addr) : (Op.equal t (.pointer none) (.pointer a)).run P w = .ok a.isNone w := by
  have h : ∀ d, (Op.equalIn (d + 1) t (.pointer none) (.pointer a)).run P w = .ok a.isNone w := fun d => by simp [Op.equalIn, run_underlying hu]
  exact h 9999
theorem equal_slice_nil {t e : Nat} (hu : P.underlying t = some (.slice e)) (w : World) (a : Option Addr) (n c : Nat) : (Op.equal t (.slice a n c) (.slice none 0 0)).run P w = .ok a.isNone w := by
  have h : ∀ d, (Op.equalIn (d + 1) t (.slice a n c) (.slice none 0 0)).run P w = .ok a.isNone w := fun d => by cases a <;> simp [Op.equalIn, run_underlying hu]
  exact h 9999
theorem equal_bool {t : Nat} (hu : P.underlying t = some .bool) (w : World) (a b : Bool) : (Op.equal t (.bool a) (.bool b)).run P w = .ok (a == b) w := by
  have h : ∀ d, (Op.equalIn (d + 1) t (.bool a) (.bool b)).run P w = .ok (a == b) w := fun d => by simp [Op.equalIn, run_underlying hu]
  exact h 9999
theorem equal_fn_nil {t : Nat} {ps rs : Array TypeId} {vr : Bool} (hu : P.underlying t = some (.func ps rs vr)) (w : World) (f : Fn) (a b : Array Value) : (Op.equal t (.func f a b) .nilFunc).run P w = .ok false w := by
  have h : ∀ d, (Op.equalIn (d + 1) t (.func f a b) .nilFunc).run P w = .ok false w := fun d => by simp [Op.equalIn, run_underlying hu]
  exact h 9999
end
end Go.Proofs.Ytinckcpmkocakaa.AM

/-
  The abstract machine, part 8: each quiet operation, II.
-/
set_option linter.unusedVariables false
set_option linter.unusedSimpArgs false
namespace Go.Proofs.Ytinckcpmkocakaa.AM
open Go Go.RowKit

theorem elemD_sound {P : Program} {R : List (Nat × AObj) → List D → Prop} {td : TD} {l : List V} {i : Int} {K : V → Prop} (h : elemD (std P R) td l i K) : ∃ x, K x ∧ 0 ≤ i ∧ l[i.toNat]? = some x ∧ (isAggT td.k = false → x.cell = true) ∧ (isAggT td.k = true → ∃ cs, x = .agg cs ∧ cs.length = td.size) := by
  unfold elemD at h
  split at h
  · rename_i hk
    obtain ⟨n, ⟨h0, h1⟩, h2⟩ := h
    exact ⟨_, h2, h0, h1, fun _ => rfl, fun q => by rw [hk] at q; simp [isAggT] at q⟩
  · rename_i hk
    obtain ⟨cs, ⟨h0, h1, h2⟩, h3⟩ := h
    exact ⟨_, h3, h0, h1, fun q => by rw [hk] at q; simp [isAggT] at q, fun _ => ⟨cs, rfl, h2⟩⟩
  · rename_i hk
    obtain ⟨cs, ⟨h0, h1, h2⟩, h3⟩ := h
    exact ⟨_, h3, h0, h1, fun q => by rw [hk] at q; simp [isAggT] at q, fun _ => ⟨cs, rfl, h2⟩⟩
  · rename_i h1 h2 h3
    obtain ⟨x, ⟨h0, hx, hc⟩, hK⟩ := h
    refine ⟨x, hK, h0, hx, fun _ => hc, fun q => ?_⟩
    cases hk : td.k <;> rw [hk] at q <;> simp [isAggT] at q
    · exact absurd hk (h3 _ _)
    · exact absurd hk (h2 _)
theorem exec_load {a : Act} {o : Oper} {t : TypeId} {x : Operand} (ho : o.op = .load t x) : execOp a.eval o = (do pure (.value (← Instr.loadAt t (a.eval x)))) := by simp only [execOp, ho]

section
variable {P : Program} {R : List (Nat × AObj) → List D → Prop} (hT : tableOf P = T)
include hT

theorem ty_fn {t : Nat} (h : (tyOf t).k = .fn) : ∃ ps rs vr, P.underlying t = some (.func ps rs vr) := by
  have := ty_k hT h (by simp)
  unfold tkOf at this
  split at this <;> simp_all
theorem ty_ptr {t e : Nat} (h : (tyOf t).k = .ptr e) : P.underlying t = some (.pointer e) := by
  have := ty_k hT h (by simp)
  unfold tkOf at this
  split at this <;> simp_all

theorem eqD_sound (t : Nat) (ob : List (Nat × AObj)) (x y : D) (K : D → Prop) (h : eqD (std P R) t ob x y K) : ∃ d, K d ∧ EqRun (R := R) P t ob x y d := by
  unfold eqD at h
  split at h
  · rename_i hk
    have hu := ty_bool hT hk
    have key : ∀ (a b : Bool) (w : World), (∀ op p q, (op = .eql ∨ op = .neq) → (eqGuard op t p q (.bool a) (.bool b)).run P w = .ok () w) ∧ (binOp .eql t (.bool a) (.bool b)).run P w = .ok (.bool (a == b)) w ∧ (binOp .neq t (.bool a) (.bool b)).run P w = .ok (.bool !(a == b)) w :=
      fun a b w => eq_run_of (by simp) (by simp) (equal_bool hu w a b) ⟨rfl, rfl⟩
    split at h
    · rename_i a b
      refine ⟨_, h, fun E ok w u v ho hx hy => ⟨a == b, .lit _, .lit _, ?_⟩⟩
      rw [repD_lit hx, repD_lit hy]; exact key a b w
    · rename_i a b
      refine ⟨_, h, fun E ok w u v ho hx hy => ⟨a == b, .v _ _ (.bool _), .v _ _ (.bool _), ?_⟩⟩
      rw [repD_lit hx, repD_bool hy]; exact key a b w
    · rename_i a b
      refine ⟨_, h, fun E ok w u v ho hx hy => ⟨a == b, .v _ _ (.bool _), .v _ _ (.bool _), ?_⟩⟩
      rw [repD_bool hx, repD_lit hy]; exact key a b w
    · rename_i a b
      refine ⟨_, h, fun E ok w u v ho hx hy => ⟨a == b, .v _ _ (.bool _), .v _ _ (.bool _), ?_⟩⟩
      rw [repD_bool hx, repD_bool hy]; exact key a b w
    · exact h.elim
  · rename_i e hk
    have hu := ty_ptr hT hk
    split at h
    · refine ⟨_, h, fun E ok w u v ho hx hy => ⟨true, .lit _, .lit _, ?_⟩⟩
      rw [rep_nilp (repD_v hx), rep_nilp (repD_v hy)]
      exact eq_run_of (by simp) (by simp) (equal_nil_ptr hu w none) ⟨rfl, rfl⟩
    · refine ⟨_, h, fun E ok w u v ho hx hy => ⟨false, .lit _, .lit _, ?_⟩⟩
      obtain ⟨b, _, rfl⟩ := repD_ptr hx
      rw [rep_nilp (repD_v hy)]
      exact eq_run_of (by simp) (by simp) (equal_ptr_nil hu w _) ⟨rfl, rfl⟩
    · refine ⟨_, h, fun E ok w u v ho hx hy => ⟨false, .lit _, .lit _, ?_⟩⟩
      obtain ⟨b, _, rfl⟩ := repD_ptr hy
      rw [rep_nilp (repD_v hx)]
      exact eq_run_of (by simp) (by simp) (equal_nil_ptr hu w _) ⟨rfl, rfl⟩
    · refine ⟨_, h, fun E ok w u v ho hx hy => ⟨false, .lit _, .lit _, ?_⟩⟩
      obtain ⟨b, off, rfl, _⟩ := rep_ref (repD_v hx)
      rw [rep_nilp (repD_v hy)]
      exact eq_run_of (by simp) (by simp) (equal_ptr_nil hu w _) ⟨rfl, rfl⟩
    · refine ⟨_, h, fun E ok w u v ho hx hy => ⟨false, .lit _, .lit _, ?_⟩⟩
      obtain ⟨b, _, _, rfl⟩ := rep_gp (repD_v hx)
      rw [rep_nilp (repD_v hy)]
      exact eq_run_of (by simp) (by simp) (equal_ptr_nil hu w _) ⟨rfl, rfl⟩
    · refine ⟨_, h, fun E ok w u v ho hx hy => ⟨false, .lit _, .lit _, ?_⟩⟩
      obtain ⟨b, _, _, rfl⟩ := rep_gp (repD_v hy)
      rw [rep_nilp (repD_v hx)]
      exact eq_run_of (by simp) (by simp) (equal_nil_ptr hu w _) ⟨rfl, rfl⟩
    · exact h.elim
  · rename_i e hk
    have hu := ty_slice hT hk
    have key : ∀ (a : Option Addr) (n c : Nat) (w : World), (∀ op p q, (op = .eql ∨ op = .neq) → (eqGuard op t p q (.slice a n c) (.slice none 0 0)).run P w = .ok () w) ∧ (binOp .eql t (.slice a n c) (.slice none 0 0)).run P w = .ok (.bool a.isNone) w ∧ (binOp .neq t (.slice a n c) (.slice none 0 0)).run P w = .ok (.bool !a.isNone) w :=
      fun a n c w => eq_run_of (by simp) (by simp) (equal_slice_nil hu w a n c) ⟨rfl, rfl⟩
    split at h
    · refine ⟨_, h, fun E ok w u v ho hx hy => ⟨true, .lit _, .lit _, ?_⟩⟩
      rw [repD_nils hx, repD_nils hy]
      exact key none 0 0 w
    · refine ⟨_, h, fun E ok w u v ho hx hy => ⟨true, .lit _, .lit _, ?_⟩⟩
      rw [rep_nils (repD_v hx), repD_nils hy]
      exact key none 0 0 w
    · rename_i id
      split at h
      · rename_i z l ex hrow
        rcases h with ⟨h1, h⟩ | h
        · refine ⟨_, h, fun E ok w u v ho hx hy => ⟨false, .lit _, .lit _, ?_⟩⟩
          obtain ⟨a, c, he, hn⟩ := own_slice (ho _ _ (rowOf_some hrow))
          rw [repD_own hx, repD_nils hy, he]
          have := key a l.length c w
          cases a with
          | none => exact absurd (hn rfl) h1
          | some a => exact this
        · refine ⟨_, h, fun E ok w u v ho hx hy => ?_⟩
          obtain ⟨a, c, he, hn⟩ := own_slice (ho _ _ (rowOf_some hrow))
          rw [repD_own hx, repD_nils hy, he]
          exact ⟨a.isNone, .ub _, .ub _, key a l.length c w⟩
      · exact h.elim
    · rename_i l
      rcases h with ⟨h1, h⟩ | h
      · refine ⟨_, h, fun E ok w u v ho hx hy => ⟨false, .lit _, .lit _, ?_⟩⟩
        obtain ⟨a, c, rfl, _, _, z, _, _, hp⟩ := slice_row (repD_v hx)
        obtain ⟨b, off, rfl, _⟩ := hp (List.length_pos_iff.2 h1)
        rw [repD_nils hy]
        exact key _ l.length c w
      · refine ⟨_, h, fun E ok w u v ho hx hy => ?_⟩
        obtain ⟨a, c, rfl, _⟩ := slice_row (repD_v hx)
        rw [repD_nils hy]
        exact ⟨a.isNone, .ub _, .ub _, key _ l.length c w⟩
    · exact h.elim
  · rename_i hk
    obtain ⟨ps, rs, vr, hu⟩ := ty_fn hT hk
    split at h
    · refine ⟨_, h, fun E ok w u v ho hx hy => ⟨true, .lit _, .lit _, ?_⟩⟩
      rw [rep_nilfn (repD_v hx), rep_nilfn (repD_v hy)]
      have he : ∀ d, (Op.equalIn (d + 1) t .nilFunc .nilFunc).run P w = .ok true w := fun d => by simp [Op.equalIn, run_underlying hu]
      exact eq_run_of (by simp) (by simp) (he 9999) ⟨rfl, rfl⟩
    · refine ⟨_, h, fun E ok w u v ho hx hy => ⟨false, .lit _, .lit _, ?_⟩⟩
      obtain ⟨cs, rfl, _⟩ := repD_fn hx
      rw [rep_nilfn (repD_v hy)]
      exact eq_run_of (by simp) (by simp) (equal_fn_nil hu w _ _ _) ⟨rfl, rfl⟩
    · refine ⟨_, h, fun E ok w u v ho hx hy => ⟨false, .lit _, .lit _, ?_⟩⟩
      obtain ⟨cs, rfl, _⟩ := rep_clo (repD_v hx)
      rw [rep_nilfn (repD_v hy)]
      exact eq_run_of (by simp) (by simp) (equal_fn_nil hu w _ _ _) ⟨rfl, rfl⟩
    · refine ⟨_, h, fun E ok w u v ho hx hy => ⟨false, .lit _, .lit _, ?_⟩⟩
      obtain ⟨cs, rfl, _⟩ := rep_mth (repD_v hx)
      rw [rep_nilfn (repD_v hy)]
      exact eq_run_of (by simp) (by simp) (equal_fn_nil hu w _ _ _) ⟨rfl, rfl⟩
    · exact h.elim
  · split at h
    · rename_i a ha
      split at h
      · rename_i b hb
        obtain ⟨c, hc, hK⟩ := h
        refine ⟨_, hK, fun E ok w u v ho hx hy => ⟨c, .v _ _ (.bool _), .v _ _ (.bool _), ?_⟩⟩
        have hx' := toV_sound ho _ _ _ ha hx
        have hy' := toV_sound ho _ _ _ hb hy
        obtain ⟨h1, h2⟩ := hc ok w u v hx' hy'
        obtain ⟨cs, rfl, _⟩ := rep_agg hx'
        obtain ⟨cs', rfl, _⟩ := rep_agg hy'
        exact ⟨fun op p q _ => h1 op p q, by simp only [binOp, Sem.run_bind, h2, Result.andThen_ok, Sem.run_pure], by simp only [binOp, Sem.run_bind, h2, Result.andThen_ok, Sem.run_pure]⟩
      · exact h.elim
    · exact h.elim
  · exact h.elim

/-! Loads -/
theorem q_load (ob : List (Nat × AObj)) (ρ : Operand → D) (t : TypeId) (x : Operand) (K : D → Prop) (hkn : known (tyOf t).k = true) (h : loadD (std P R) (tyOf t) ob (ρ x) K) : ∃ d, K d ∧ Comes' P ob ρ (.load t x) d := by
  unfold loadD at h
  split at h
  · rename_i id off hx
    split at h
    · rename_i l hl
      split at h
      · rename_i hk
        split at h
        · rename_i hle
          refine ⟨_, h, fun E ok w a o ho hq => ?_⟩
          obtain ⟨b, e, cs, h1, h2, h3, h4, h5⟩ := hq.obj _ _ hl
          obtain ⟨b', hb', he⟩ := repD_ptr (hx ▸ hq.opr x (by simp [Op.operands]))
          rw [h1] at hb'; cases hb'
          have hc : ∀ j (hj : j < ((List.range (tyOf t).size).map fun j => cs.getD (off + j) undef).length), w.cell? ⟨b, off + j, none⟩ = some (((List.range (tyOf t).size).map fun j => cs.getD (off + j) undef)[j]'hj) := by
            intro j hj
            simp at hj
            rw [cell_of_heap h2]
            simp [show off + j < cs.size from by omega]
          refine does_v (exec_load ho) (by rw [he]; exact run_load_agg hT hk (by simp) hc) (.agg _ _ (by simp [cutD]; omega) ?_ ?_)
          · intro u hu
            simp at hu
            obtain ⟨j, hj, rfl⟩ := hu
            obtain ⟨u, hu, hu', _⟩ := h5 (off + j) (by omega)
            rw [hu]; exact hu'
          · intro j hj hj'
            simp at hj'
            obtain ⟨u, hu, _, hr⟩ := h5 (off + j) (by omega)
            simp only [cutD, List.getElem_take, List.getElem_drop, List.getElem_map, List.getElem_range]
            have : cs.getD (off + j) undef = u := by
              rw [Array.getD_eq_getD_getElem?, hu]; rfl
            rw [this]; exact hr
        · exact h.elim
      · rename_i hk
        split at h
        · rename_i d hd
          refine ⟨_, h, fun E ok w a o ho hq => ?_⟩
          obtain ⟨b, e, cs, h1, h2, h3, h4, h5⟩ := hq.obj _ _ hl
          obtain ⟨b', hb', he⟩ := repD_ptr (hx ▸ hq.opr x (by simp [Op.operands]))
          rw [h1] at hb'; cases hb'
          obtain ⟨hlt, rfl⟩ := look?_some hd
          obtain ⟨u, hu, _, hr⟩ := h5 off hlt
          exact does_v (exec_load ho) (by rw [he]; exact run_load_cell hT hk hkn (by rw [cell_of_heap h2, hu])) hr
        · exact h.elim
    · rename_i l hl
      split at h
      · rename_i hk
        split at h
        · rename_i hle
          refine ⟨_, h, fun E ok w a o ho hq => ?_⟩
          obtain ⟨b, h1, _, h2, h3⟩ := hq.obj _ _ hl
          obtain ⟨b', hb', he⟩ := repD_ptr (hx ▸ hq.opr x (by simp [Op.operands]))
          rw [h1] at hb'; cases hb'
          have hc : ∀ j (hj : j < ((List.range (tyOf t).size).map fun j => (w.cell? ⟨b, off + j, none⟩).getD undef).length), w.cell? ⟨b, off + j, none⟩ = some (((List.range (tyOf t).size).map fun j => (w.cell? ⟨b, off + j, none⟩).getD undef)[j]'hj) := by
            intro j hj
            simp at hj
            obtain ⟨_, u, hu, _⟩ := h3 (off + j) (by omega)
            simp [hu]
          refine does_v (exec_load ho) (by rw [he]; exact run_load_agg hT hk (by simp) hc) (.v _ _ (.agg _ _ (by simp; omega) ?_ ?_))
          · intro j hj
            simp only [List.getElem_take, List.getElem_drop]
            exact h2 _ (by simp at hj; omega)
          · intro j hj hj'
            simp at hj'
            obtain ⟨_, u, hu, hr⟩ := h3 (off + j) (by omega)
            simp only [List.getElem_take, List.getElem_drop, List.getElem_map, List.getElem_range, hu, Option.getD_some]
            exact hr
        · exact h.elim
      · rename_i hk
        split at h
        · rename_i d hd
          refine ⟨_, h, fun E ok w a o ho hq => ?_⟩
          obtain ⟨b, h1, _, h2, h3⟩ := hq.obj _ _ hl
          obtain ⟨b', hb', he⟩ := repD_ptr (hx ▸ hq.opr x (by simp [Op.operands]))
          rw [h1] at hb'; cases hb'
          obtain ⟨hlt, rfl⟩ := look?_some hd
          obtain ⟨_, u, hu, hr⟩ := h3 off hlt
          exact does_v (exec_load ho) (by rw [he]; exact run_load_cell hT hk hkn hu) (.v _ _ hr)
        · exact h.elim
    · rename_i z l ex hl
      split at h
      · rename_i n e hk
        split at h
        · rename_i hn
          obtain ⟨⟨hlen, hcl⟩, h⟩ := h
          refine ⟨_, h, fun E ok w a o ho hq => ?_⟩
          have hrow := hq.obj _ _ hl
          obtain ⟨b, hb, he⟩ := repD_ptr (hx ▸ hq.opr x (by simp [Op.operands]))
          rcases hrow with ⟨_, h1, _⟩ | ⟨b', cap, cs, e', h1, h2, h3, h4, h5, h6, h7, h8⟩
          · rw [h1] at hb; cases hb
          rw [h1] at hb; cases hb
          have hc : ∀ j (hj : j < ((List.range (tyOf t).size).map fun j => (w.cell? ⟨b, 0 + j, none⟩).getD undef).length), w.cell? ⟨b, 0 + j, none⟩ = some (((List.range (tyOf t).size).map fun j => (w.cell? ⟨b, 0 + j, none⟩).getD undef)[j]'hj) := by
            intro j hj
            simp at hj
            obtain ⟨u, hu, _⟩ := h7.hr j (by omega) 0 (by rw [h7.hz j (by omega)]; omega)
            simp at hu
            simp [hu]
          refine does_v (exec_load ho) (by rw [he]; exact run_load_agg hT (by rw [hk]; rfl) (by simp) hc) (.v _ _ (.agg _ _ (by simp; omega) ?_ ?_))
          · intro j hj
            exact hcl _ (List.getElem_mem _)
          · intro j hj hj'
            simp at hj'
            have hfl := cell_flat (hcl _ (List.getElem_mem hj))
            obtain ⟨u, hu, hr⟩ := h7.hr j hj 0 (by rw [hfl]; simp)
            simp at hu
            simp only [List.getElem_map, List.getElem_range, Nat.zero_add, hu, Option.getD_some]
            simpa [hfl] using hr
        · exact h.elim
      · exact h.elim
    · exact h.elim
  · rename_i id z i off hx
    split at h
    · rename_i z' l ex hl
      split at h
      · rename_i hz
        subst hz
        have place : ∀ (E : Env) (ok : Oks) (w : World) (a : Act) (o : Oper), QH E ok w a ob ρ (.load t x) → 0 ≤ i ∧ ∀ y, l[i.toNat]? = some y → ∃ b, a.eval x = .pointer (some ⟨b, i.toNat * z + off, none⟩) ∧ RowAt ok w b 0 z l := by
          intro E ok w a o hq
          obtain ⟨b, hb, hi, he⟩ := repD_rptr (hx ▸ hq.opr x (by simp [Op.operands]))
          refine ⟨hi, fun y hy => ?_⟩
          rcases hq.obj _ _ hl with ⟨h0, h1, _⟩ | ⟨b', cap, cs, e', h1, h2, h3, h4, h5, h6, h7, h8⟩
          · rw [h1] at hb; cases hb
          · rw [h1] at hb; cases hb
            exact ⟨b, he, h7⟩
        split at h
        · rename_i hk
          split at h
          · rename_i h0
            subst h0
            split at h
            · rename_i hsz
              obtain ⟨y, hK, hi, hy, _, hagg⟩ := elemD_sound h
              obtain ⟨cs', rfl, hcs'⟩ := hagg hk
              refine ⟨_, hK, fun E ok w a o ho hq => ?_⟩
              obtain ⟨_, hp⟩ := place E ok w a o hq
              obtain ⟨b, he, hrow⟩ := hp _ hy
              obtain ⟨q1, q2, q3⟩ := hrow.elem hi hy
              simp only [V.flat] at q1 q2 q3
              have hc : ∀ j (hj : j < ((List.range (tyOf t).size).map fun j => (w.cell? ⟨b, i.toNat * z + 0 + j, none⟩).getD undef).length), w.cell? ⟨b, i.toNat * z + 0 + j, none⟩ = some (((List.range (tyOf t).size).map fun j => (w.cell? ⟨b, i.toNat * z + 0 + j, none⟩).getD undef)[j]'hj) := by
                intro j hj
                simp at hj
                obtain ⟨u, hu, _⟩ := q3 j (by omega)
                simp at hu
                simp [hu]
              refine does_v (exec_load ho) (by rw [he]; exact run_load_agg hT hk (by simp) hc) (.v _ _ (.agg _ _ (by simp; omega) q2 ?_))
              intro j hj hj'
              obtain ⟨u, hu, hr⟩ := q3 j hj
              simp at hu
              simp [hu]
              exact hr
            · exact h.elim
          · exact h.elim
        · rename_i hk
          have one : ∀ (y : V) (v : V) (j : Nat), 0 ≤ i → l[i.toNat]? = some y → y.flat[j]? = some v → off = j → Comes' P ob ρ (.load t x) (.v v) := by
            intro y v j hi hy hv hj E ok w a o ho hq
            subst hj
            obtain ⟨_, hp⟩ := place E ok w a o hq
            obtain ⟨b, he, hrow⟩ := hp _ hy
            obtain ⟨q1, q2, q3⟩ := hrow.elem hi hy
            obtain ⟨hlt, rfl⟩ := List.getElem?_eq_some_iff.1 hv
            obtain ⟨u, hu, hr⟩ := q3 _ hlt
            simp at hu
            exact does_v (exec_load ho) (by rw [he]; exact run_load_cell hT hk hkn hu) (.v _ _ hr)
          split at h
          · rename_i hz1
            split at h
            · rename_i h0
              obtain ⟨y, hK, hi, hy, hcell, _⟩ := elemD_sound h
              exact ⟨_, hK, one y y 0 hi hy (by rw [cell_flat (hcell hk)]; rfl) h0⟩
            · exact h.elim
          · obtain ⟨cs', ⟨hi, hy, _⟩, h⟩ := h
            split at h
            · rename_i v hv
              exact ⟨_, h, one (.agg cs') v off hi hy (by rw [← look?_eq]; exact hv) rfl⟩
            · exact h.elim
      · exact h.elim
    · exact h.elim
  · rename_i l hx
    split at h
    · rename_i hk
      split at h
      · rename_i hle
        refine ⟨_, h, fun E ok w a o ho hq => ?_⟩
        obtain ⟨b, off, he, hc⟩ := rep_ref (repD_v (hx ▸ hq.opr x (by simp [Op.operands])))
        have hc' : ∀ j (hj : j < ((List.range (tyOf t).size).map fun j => (w.cell? ⟨b, off + j, none⟩).getD undef).length), w.cell? ⟨b, off + j, none⟩ = some (((List.range (tyOf t).size).map fun j => (w.cell? ⟨b, off + j, none⟩).getD undef)[j]'hj) := by
          intro j hj
          simp at hj
          obtain ⟨_, _, u, hu, _⟩ := hc j (by omega)
          simp [hu]
        refine does_v (exec_load ho) (by rw [he]; exact run_load_agg hT hk (by simp) hc') (.v _ _ (.agg _ _ (by simp; omega) ?_ ?_))
        · intro j hj
          simp only [List.getElem_take]
          exact (hc j (by simp at hj; omega)).2.1
        · intro j hj hj'
          simp at hj'
          obtain ⟨_, _, u, hu, hr⟩ := hc j (by omega)
          simp only [List.getElem_take, List.getElem_map, List.getElem_range, hu, Option.getD_some]
          exact hr
      · exact h.elim
    · rename_i hk
      split at h
      · rename_i d hd
        refine ⟨_, h, fun E ok w a o ho hq => ?_⟩
        obtain ⟨b, off, he, hc⟩ := rep_ref (repD_v (hx ▸ hq.opr x (by simp [Op.operands])))
        obtain ⟨hlt, rfl⟩ := look?_some hd
        obtain ⟨_, _, u, hu, hr⟩ := hc 0 hlt
        exact does_v (exec_load ho) (by rw [he]; exact run_load_cell hT hk hkn hu) (.v _ _ hr)
      · exact h.elim
  · exact h.elim
end
end Go.Proofs.Ytinckcpmkocakaa.AM
