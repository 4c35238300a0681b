/-
  The common heap: loads, stores, new objects.
-/
import Derived.Test.YtinckcpmkocakaaM1874a7ec56
set_option linter.unusedVariables false
set_option linter.unusedSimpArgs false
set_option linter.unusedSectionVars false
namespace Go.Proofs.Ytinckcpmkocakaa.AM
open Go Go.RowKit

def GH.set (gh : GH) (id : Nat) (o : GObj) : GH := { gh with get := fun j => if j = id then some o else gh.get j }
def GH.del (gh : GH) (id : Nat) : GH := { gh with get := fun j => if j = id then none else gh.get j }
def GH.new (gh : GH) (o : GObj) : GH := { next := gh.next + 1, get := fun j => if j = gh.next then some o else gh.get j }
@[simp] theorem GH.set_get (gh : GH) (id : Nat) (o : GObj) (j : Nat) : (gh.set id o).get j = if j = id then some o else gh.get j := rfl
@[simp] theorem GH.del_get (gh : GH) (id : Nat) (j : Nat) : (gh.del id).get j = if j = id then none else gh.get j := rfl
@[simp] theorem GH.new_get (gh : GH) (o : GObj) (j : Nat) : (gh.new o).get j = if j = gh.next then some o else gh.get j := rfl
@[simp] theorem GH.set_next (gh : GH) (id : Nat) (o : GObj) : (gh.set id o).next = gh.next := rfl
@[simp] theorem GH.del_next (gh : GH) (id : Nat) : (gh.del id).next = gh.next := rfl
@[simp] theorem GH.new_next (gh : GH) (o : GObj) : (gh.new o).next = gh.next + 1 := rfl

/-- A step of the common heap out of a run. -/
theorem GOp.of_run {P : Program} {o : Oper} {xs : List V} {gh : GH} {R : V → GH → Prop}
    (h : ∀ (ok : Oks) (w : World) (a : Act), GlOk ok gh w → (∀ b o, ok b o → b < w.heap.size) → OpsRep ok w a o.op xs → ∃ v w' ok' r gh', ((execOp a.eval o).run P w = .ok (.value v) w' ∨ ((execOp a.eval o).run P w = .ok .skip w' ∧ v = undef)) ∧ R r gh' ∧ Frame (occG ok gh) w w' ∧
      Same ok ok' w w' ∧ (∀ b o, ok' b o → b < w'.heap.size ∧ (ok b o ∨ occG ok gh b ∨ w.heap.size ≤ b)) ∧ GlOk ok' gh' w' ∧ (∀ b, occG ok' gh' b → occG ok gh b ∨ w.heap.size ≤ b) ∧ Rep ok' w' r v) : GOp P o xs gh R := by
  intro G E ok S a w pub c hh hx Q
  obtain ⟨v, w', ok', r, gh', hrun, hR, fr, hs, hn, gl, hg, hr⟩ := h ok w a (c.obj _ _ hh).2 c.okb hx
  have fin : ∃ v' ok'' r' gh'', a.put o.dst v = a.put o.dst v' ∧ R r' gh'' ∧ Conc G E ok'' (S.setOb hk (.heap gh'' pub)) a w' ∧ Rep ok'' w' r' v' := ⟨v, ok', r, gh', rfl, hR, c.swap hh fr hs hn gl hg, hr⟩
  rcases hrun with hrun | ⟨hrun, rfl⟩
  · exact wp_value hrun fin
  · exact wp_skip' hrun fin

/-- Nothing comes to the common heap, one block of it is changed. -/
theorem GlOk.upd {ok : Oks} {gh : GH} {w w' : World} {id b : Nat} {o o' : GObj} (gl : GlOk ok gh w) (hid : gh.get id = some o) (hf : ¬ o.isF) (ha : ¬ o.isA) (hb : ok.blk id = some b) (hw : ∀ k, k ≠ b → w'.heap[k]? = w.heap[k]?) (hsz : w'.heap.size = w.heap.size) (hf' : ¬ o'.isF) (ho : GRep ok w' id o') : GlOk ok (gh.set id o') w' where
  next := gl.next
  obj j p q := by
    simp only [GH.set_get] at q
    split at q
    · rename_i e; subst e; cases q; exact ⟨(gl.obj _ _ hid).1, ho⟩
    · rename_i e
      refine ⟨(gl.obj j p q).1, (gl.obj j p q).2.stay ⟨fun _ _ h => h, fun k o h => ?_, .refl _⟩ (gl.obj j p q).1 (by omega) fun f2 bb hbb => ⟨hw bb fun e2 => ?_, fun _ h => h⟩⟩
      · have hk : k ≠ b := fun e2 => by subst e2; exact (gl.obj _ _ hid).2.not_ok hf ha hb o h
        simp only [World.cell?, hw k hk]
      · subst e2; exact gl.apart j id p o bb q hid e f2 hf hbb hb
  apart i j p q bb h1 h2 hne f1 f2 hb1 hb2 := by
    simp only [GH.set_get] at h1 h2
    split at h1 <;> split at h2
    · rename_i e1 e2; exact hne (e1.trans e2.symm)
    · rename_i e1 e2; subst e1; exact gl.apart _ j o q bb hid h2 hne hf f2 hb1 hb2
    · rename_i e1 e2; subst e2; exact gl.apart i _ p o bb h1 hid hne f1 hf hb1 hb2
    · exact gl.apart i j p q bb h1 h2 hne f1 f2 hb1 hb2
theorem occG_set {ok : Oks} {gh : GH} {id : Nat} {o o' : GObj} (hid : gh.get id = some o) (hf : ¬ o.isF) {b : Nat} (h : occG ok (gh.set id o') b) : occG ok gh b := by
  obtain ⟨j, p, h1, h2, h3⟩ := h
  simp only [GH.set_get] at h1
  split at h1
  · rename_i e; subst e; exact ⟨_, o, hid, hf, h3⟩
  · exact ⟨j, p, h1, h2, h3⟩

/-- The numbers' table with one more. -/
def Oks.bind (ok : Oks) (b : Option Nat) (cap : Nat) : Oks := { ok with next := ok.next + 1, blk := fun j => if j = ok.next then b else ok.blk j, cap := fun j => if j = ok.next then cap else ok.cap j }
theorem Oks.bind_ext (ok : Oks) (b : Option Nat) (cap : Nat) : Ext ok (ok.bind b cap) :=
  ⟨Nat.le_succ _, fun id h => by simp [Oks.bind, Nat.ne_of_lt h], fun id h => by simp [Oks.bind, Nat.ne_of_lt h]⟩
theorem Oks.bind_blk (ok : Oks) (b : Option Nat) (cap : Nat) : (ok.bind b cap).blk ok.next = b := by simp [Oks.bind]
theorem Oks.bind_cap (ok : Oks) (b : Option Nat) (cap : Nat) : (ok.bind b cap).cap ok.next = cap := by simp [Oks.bind]
/-- Something new comes to the common heap. -/
theorem GlOk.new {ok : Oks} {gh : GH} {w w' : World} {b : Option Nat} {cap : Nat} {o : GObj} (gl : GlOk ok gh w) (hokb : ∀ b o, ok b o → b < w.heap.size) (hw : ∀ k, k < w.heap.size → w'.heap[k]? = w.heap[k]?) (hsz : w.heap.size ≤ w'.heap.size) (hb : ∀ bb, b = some bb → w.heap.size ≤ bb) (ho : GRep (ok.bind b cap) w' ok.next o) : GlOk (ok.bind b cap) (gh.new o) w' where
  next := congrArg (· + 1) gl.next
  obj j p q := by
    simp only [GH.new_get] at q
    split at q
    · rename_i e; subst e; cases q; rw [gl.next]; exact ⟨Nat.lt_succ_self _, ho⟩
    · have hs : Same ok (ok.bind b cap) w w' := ⟨fun _ _ h => h, fun k o h => by simp only [World.cell?, hw k (hokb _ _ h)], Oks.bind_ext _ _ _⟩
      exact ⟨Nat.lt_succ_of_lt (gl.obj j p q).1, (gl.obj j p q).2.stay hs (gl.obj j p q).1 hsz fun f2 bb hbb => ⟨hw bb (gobj_lt (gl.obj j p q).2 hbb), fun _ h => h⟩⟩
  apart i j p q bb h1 h2 hne f1 f2 hb1 hb2 := by
    have old : ∀ k r, gh.get k = some r → (ok.bind b cap).blk k = some bb → ok.blk k = some bb ∧ bb < w.heap.size := fun k r hk hkb => by
      rw [(Oks.bind_ext ok b cap).blk k (gl.obj k r hk).1] at hkb
      exact ⟨hkb, gobj_lt (gl.obj k r hk).2 hkb⟩
    simp only [GH.new_get, gl.next] at h1 h2
    split at h1 <;> split at h2
    · rename_i e1 e2; exact hne (e1.trans e2.symm)
    · rename_i e1 e2
      subst e1
      rw [Oks.bind_blk] at hb1
      have := hb _ hb1
      have := (old j q h2 hb2).2
      omega
    · rename_i e1 e2
      subst e2
      rw [Oks.bind_blk] at hb2
      have := hb _ hb2
      have := (old i p h1 hb1).2
      omega
    · exact gl.apart i j p q bb h1 h2 hne f1 f2 (old i p h1 hb1).1 (old j q h2 hb2).1
theorem occG_new {ok : Oks} {gh : GH} {w : World} {b : Option Nat} {cap : Nat} {o : GObj} (gl : GlOk ok gh w) (hb : ∀ bb, b = some bb → w.heap.size ≤ bb) {k : Nat} (h : occG (ok.bind b cap) (gh.new o) k) : occG ok gh k ∨ w.heap.size ≤ k := by
  obtain ⟨j, p, h1, h2, h3⟩ := h
  simp only [GH.new_get, gl.next] at h1
  split at h1
  · rename_i e; subst e; rw [Oks.bind_blk] at h3; exact .inr (hb _ h3)
  · rw [(Oks.bind_ext ok b cap).blk j (gl.obj j p h1).1] at h3
    exact .inl ⟨j, p, h1, h2, h3⟩
/-- A number is forgotten. -/
theorem GlOk.del {ok : Oks} {gh : GH} {w : World} (gl : GlOk ok gh w) (id : Nat) : GlOk ok (gh.del id) w where
  next := gl.next
  obj j p q := by
    simp only [GH.del_get] at q
    split at q
    · cases q
    · exact gl.obj j p q
  apart i j p q bb h1 h2 := by
    simp only [GH.del_get] at h1 h2
    split at h1 <;> split at h2 <;> first | (cases h1; done) | (cases h2; done) | skip
    exact gl.apart i j p q bb h1 h2
theorem occG_del {ok : Oks} {gh : GH} {id b : Nat} (h : occG ok (gh.del id) b) : occG ok gh b := by
  obtain ⟨j, p, h1, h2, h3⟩ := h
  simp only [GH.del_get] at h1
  split at h1
  · cases h1
  · exact ⟨j, p, h1, h2, h3⟩

/-- Cells of a datum that is no tuple. -/
def V.okc : V → Bool
  | .tup _ => false
  | _ => true
theorem repV_cells {ok : Oks} {w : World} {x : V} {u : Value} (h : Rep ok w x u) (hc : x.okc = true) : u.cells.toList.length = x.flat.length ∧ (∀ c ∈ u.cells.toList, c.oneCell' = true) ∧ (∀ j (hj : j < x.flat.length), (x.flat[j]'hj).cell = true) ∧ ∀ j (hj : j < x.flat.length) (hj' : j < u.cells.toList.length), Rep ok w (x.flat[j]'hj) (u.cells.toList[j]'hj') := by
  by_cases hx : x.cell = true
  · obtain ⟨h1, h2⟩ := h.oneCell hx
    have hf := cell_flat hx
    rw [h1]
    refine ⟨by simp [hf], by simpa using h2, fun j hj => ?_, fun j hj hj' => ?_⟩
    · have : j = 0 := by rw [hf] at hj; simpa using hj
      subst this; simpa [hf] using hx
    · have : j = 0 := by rw [hf] at hj; simpa using hj
      subst this; simpa [hf] using h
  · cases x <;> simp [V.cell, V.okc] at hx hc
    rename_i l
    obtain ⟨cs, rfl, h1, h2, h3⟩ := rep_agg h
    refine ⟨by simpa [Value.cells, V.flat] using h1, fun c hc => ?_, h2, fun j hj hj' => by
      have hj2 : j < cs.length := by simpa [Value.cells] using hj'
      have e : (Value.agg cs.toArray).cells.toList[j]'hj' = cs[j]'hj2 := by simp [Value.cells]
      rw [e]; exact h3 j hj hj2⟩
    simp [Value.cells] at hc
    obtain ⟨j, hj, rfl⟩ := List.getElem_of_mem hc
    exact ((h3 j (by omega) hj).oneCell (h2 j (by omega))).2

theorem OpsRep.get {ok : Oks} {w : World} {a : Act} {op : Op} {xs : List V} (h : OpsRep ok w a op xs) (i : Nat) {x : V} {y : Operand} (hx : xs[i]? = some x) (hy : op.operands.toList[i]? = some y) : Rep ok w x (a.eval y) := by
  obtain ⟨q1, q2⟩ := List.getElem?_eq_some_iff.1 hx
  obtain ⟨q3, q4⟩ := List.getElem?_eq_some_iff.1 hy
  have := h.2 i q3 q1
  rwa [q2, q4] at this

section
variable {P : Program} (hT : tableOf P = T)
include hT

/-- A cell of a variable is read. -/
theorem gq_load {t : TypeId} {x : Operand} {gh : GH} {id off : Nat} {l : List V} {v : V} (hkn : known (tyOf t).k = true) (hag : isAggT (tyOf t).k = false) (hg : gh.get id = some (.box l)) (hv : l[off]? = some v) : GQ P (.load t x) [.gp id off] gh v := by
  intro ok w a o ho gl hokb hx
  obtain ⟨b, hn, hb, he⟩ := rep_gp (hx.get 0 rfl (by simp [Op.operands]; rfl))
  obtain ⟨b', e, cs, h1, h2, h3, h4, h5⟩ := (gl.obj _ _ hg).2
  rw [hb] at h1; cases h1
  obtain ⟨hlt, rfl⟩ := List.getElem?_eq_some_iff.1 hv
  obtain ⟨u, q1, q2, q3⟩ := h5 off hlt
  refine ⟨u, ?_, q3⟩
  rw [exec_load ho, he]
  have := run_load_cell hT (t := t) (w := w) (b := b) (off := off) (u := u) hag hkn (by rw [cell_of_heap h2]; exact q1)
  simp only [Sem.run_bind, this, Result.andThen_ok, Sem.run_pure]
/-- Cells of a variable are read, as one. -/
theorem gq_loadA {t : TypeId} {x : Operand} {gh : GH} {id off : Nat} {l : List V} (hag : isAggT (tyOf t).k = true) (hg : gh.get id = some (.box l)) (hle : off + (tyOf t).size ≤ l.length) : GQ P (.load t x) [.gp id off] gh (.agg ((l.drop off).take (tyOf t).size)) := by
  intro ok w a o ho gl hokb hx
  obtain ⟨b, hn, hb, he⟩ := rep_gp (hx.get 0 rfl (by simp [Op.operands]; rfl))
  obtain ⟨b', e, cs, h1, h2, h3, h4, h5⟩ := (gl.obj _ _ hg).2
  rw [hb] at h1; cases h1
  refine ⟨.agg ((List.range (tyOf t).size).map fun j => cs.getD (off + j) undef).toArray, ?_, .agg _ _ (by simp; omega) (fun j hj => ?_) (fun j hj hj' => ?_)⟩
  · rw [exec_load ho, he]
    have := run_load_agg hT (t := t) (w := w) (b := b) (off := off) (us := (List.range (tyOf t).size).map fun j => cs.getD (off + j) undef) hag (by simp) (fun j hj => by
      simp at hj
      rw [cell_of_heap h2]
      simp [show off + j < cs.size from by omega])
    simp only [Sem.run_bind, this, Result.andThen_ok, Sem.run_pure]
  · simp only [List.getElem_take, List.getElem_drop]
    obtain ⟨u, q1, q2, q3⟩ := h5 (off + j) (by simp at hj; omega)
    exact rep_cell q3 q2
  · simp only [List.getElem_take, List.getElem_drop, List.getElem_map, List.getElem_range]
    obtain ⟨u, q1, q2, q3⟩ := h5 (off + j) (by simp at hj; omega)
    have : cs.getD (off + j) undef = u := by rw [Array.getD_eq_getD_getElem?, q1]; rfl
    rw [this]; exact q3
/-- A row's element, by cells. -/
theorem grow_elem {ok : Oks} {w : World} {gh : GH} (gl : GlOk ok gh w) {id z : Nat} {l : List V} {b : Nat} (hg : gh.get id = some (.row z l) ∨ gh.get id = some (.frow z l) ∨ gh.get id = some (.arow z l)) (hb : ok.blk id = some b) : RowAt ok w b 0 z l := by
  rcases hg with hg | hg | hg
  · rcases (gl.obj _ _ hg).2 with ⟨_, h1⟩ | ⟨b', cs, e, h1, _, _, _, _, h6, _⟩
    · rw [hb] at h1; cases h1
    · rw [hb] at h1; cases h1; exact h6
  · rcases (gl.obj _ _ hg).2 with ⟨_, h1⟩ | ⟨b', h1, _, _, _, h6, _⟩
    · rw [hb] at h1; cases h1
    · rw [hb] at h1; cases h1; exact h6
  · rcases (gl.obj _ _ hg).2 with ⟨_, h1⟩ | ⟨b', cs, e, h1, _, _, _, _, h6, _⟩
    · rw [hb] at h1; cases h1
    · rw [hb] at h1; cases h1; exact h6
/-- A cell of a row's element is read. -/
theorem gq_loadR {t : TypeId} {x : Operand} {gh : GH} {id z off : Nat} {i : Int} {l : List V} {y v : V} (hkn : known (tyOf t).k = true) (hag : isAggT (tyOf t).k = false) (hg : gh.get id = some (.row z l) ∨ gh.get id = some (.frow z l) ∨ gh.get id = some (.arow z l)) (hy : l[i.toNat]? = some y) (hv : y.flat[off]? = some v) : GQ P (.load t x) [.ge id z i off] gh v := by
  intro ok w a o ho gl hokb hx
  obtain ⟨b, hn, hb, hi, he⟩ := rep_ge (hx.get 0 rfl (by simp [Op.operands]; rfl))
  have hrow := grow_elem hT gl hg hb
  obtain ⟨q1, q2, q3⟩ := hrow.elem hi hy
  obtain ⟨hlt, rfl⟩ := List.getElem?_eq_some_iff.1 hv
  obtain ⟨u, hu, hr⟩ := q3 off hlt
  rw [Nat.zero_add] at hu
  refine ⟨u, ?_, hr⟩
  rw [exec_load ho, he]
  have := run_load_cell hT (t := t) hag hkn hu
  simp only [Sem.run_bind, this, Result.andThen_ok, Sem.run_pure]
/-- A row's element is read, whole or a part of it. -/
theorem gq_loadRA {t : TypeId} {x : Operand} {gh : GH} {id z off : Nat} {i : Int} {l : List V} {y : V} (hag : isAggT (tyOf t).k = true) (hg : gh.get id = some (.row z l) ∨ gh.get id = some (.frow z l) ∨ gh.get id = some (.arow z l)) (hy : l[i.toNat]? = some y) (hle : off + (tyOf t).size ≤ y.flat.length) : GQ P (.load t x) [.ge id z i off] gh (.agg ((y.flat.drop off).take (tyOf t).size)) := by
  intro ok w a o ho gl hokb hx
  obtain ⟨b, hn, hb, hi, he⟩ := rep_ge (hx.get 0 rfl (by simp [Op.operands]; rfl))
  have hrow := grow_elem hT gl hg hb
  obtain ⟨q1, q2, q3⟩ := hrow.elem hi hy
  refine ⟨.agg ((List.range (tyOf t).size).map fun j => (w.cell? ⟨b, i.toNat * z + off + j, none⟩).getD undef).toArray, ?_, .agg _ _ (by simp; omega) (fun j hj => ?_) (fun j hj hj' => ?_)⟩
  · rw [exec_load ho, he]
    have := run_load_agg hT (t := t) (w := w) (b := b) (off := i.toNat * z + off) (us := (List.range (tyOf t).size).map fun j => (w.cell? ⟨b, i.toNat * z + off + j, none⟩).getD undef) hag (by simp) (fun j hj => by
      simp at hj
      obtain ⟨u, hu, _⟩ := q3 (off + j) (by omega)
      rw [Nat.zero_add, ← Nat.add_assoc] at hu
      simp [hu])
    simp only [Sem.run_bind, this, Result.andThen_ok, Sem.run_pure]
  · simp only [List.getElem_take, List.getElem_drop]
    exact q2 _ (by simp at hj; omega)
  · simp only [List.getElem_take, List.getElem_drop, List.getElem_map, List.getElem_range]
    obtain ⟨u, hu, hr⟩ := q3 (off + j) (by simp at hj; omega)
    rw [Nat.zero_add, ← Nat.add_assoc] at hu
    rw [hu]; exact hr

/-- An element's address. -/
theorem gq_index {t e : TypeId} {x i : Operand} {gh : GH} {id : Nat} {n m : Int} {k : IntKind} (ht : (tyOf t).k = .slice e) (hkn : known (tyOf e).k = true) (h0 : 0 ≤ m) (h1 : m < n) : GQ P (.indexAddr t x i) [.gs id n, .int k m] gh (.ge id (tyOf e).size m 0) := by
  intro ok w a o ho gl hokb hx
  have hi := rep_int (hx.get 1 rfl (by simp [Op.operands]; rfl))
  obtain ⟨hn, hs⟩ := rep_gs (hx.get 0 rfl (by simp [Op.operands]; rfl))
  rcases hs with ⟨rfl, _, _⟩ | ⟨b, hb, q0, qc, qm, he⟩
  · omega
  refine ⟨.pointer (some ⟨b, m.toNat * (tyOf e).size + 0, none⟩), ?_, .ge _ _ _ _ b hn hb h0⟩
  have run : ∀ N C : Nat, m < N → (Instr.indexAt t (.slice (some ⟨b, 0, none⟩) N C) (.int k m)).run P w = .ok (.pointer (some ⟨b, 0 + m.toNat * (tyOf e).size, none⟩)) w := by
    intro N C hlt
    simp [Instr.indexAt, asIntOf, run_underlying (ty_slice hT ht), ty_size hT (known_ne' hkn), h0, hlt, add_plain]
  simp only [execOp, ho, he, hi, Sem.run_bind, run _ _ (show m < (n.toNat : Int) by omega), Result.andThen_ok, Sem.run_pure]
  rw [Nat.zero_add, Nat.add_zero]
/-- The length of a row's slice, and of a map. -/
theorem gq_len {c : Call} {t e : TypeId} {x : Operand} {gh : GH} {id : Nat} {n : Int} (hc : c.callee = .builtin .len) (ha : c.args = #[x]) (hat : c.argTypes = #[t]) (ht : (tyOf t).k = .slice e) : GQ P (.call c) [.gs id n] gh (.int .i64 n) := by
  intro ok w a o ho gl hokb hx
  obtain ⟨hn, hs⟩ := rep_gs (hx.get 0 rfl (by simp [Op.operands, Call.operands, hc, ha]; rfl))
  have h0 : 0 ≤ n := by rcases hs with ⟨rfl, _⟩ | ⟨_, _, h, _⟩ <;> omega
  refine ⟨.int .i64 n, ?_, .int _ _⟩
  have e2 : ∃ ad cap, a.eval x = .slice ad n.toNat cap := by
    rcases hs with ⟨rfl, _, he⟩ | ⟨b, _, _, _, _, he⟩
    · exact ⟨_, _, he⟩
    · exact ⟨_, _, he⟩
  obtain ⟨ad, cap, he⟩ := e2
  have hnn : ((n.toNat : Nat) : Int) = n := Int.toNat_of_nonneg h0
  simp only [execOp, ho, resolve, hc, Sem.run_bind, Sem.run_pure, Result.andThen_ok, invoke, builtin, hat, ha]
  simp [he, Builtin.len_, run_underlying (ty_slice hT ht), goInt, hnn]
end
end Go.Proofs.Ytinckcpmkocakaa.AM

/-
  The common heap: stores, new objects, rows that grow.
-/
set_option linter.unusedVariables false
set_option linter.unusedSimpArgs false
set_option linter.unusedSectionVars false
namespace Go.Proofs.Ytinckcpmkocakaa.AM
open Go Go.RowKit

def One (r : V) (gh' : GH) : V → GH → Prop := fun r' h' => r' = r ∧ h' = gh'
/-- Cells written into a block of the common heap. -/
theorem frame_set {ok : Oks} {gh : GH} {w w' : World} {id b : Nat} {o : GObj} (hid : gh.get id = some o) (hf : ¬ o.isF) (hb : ok.blk id = some b) (g4 : ∀ k, k ≠ b → w'.heap[k]? = w.heap[k]?) (g5 : w'.os = w.os) (g6 : w'.tape = w.tape) (g7 : w'.output = w.output) (g8 : w'.heap.size = w.heap.size) : Frame (occG ok gh) w w' :=
  ⟨g5, g6, g7, by omega, fun k _ hk => g4 k fun e => by subst e; exact hk ⟨id, o, hid, hf, hb⟩⟩
theorem frame_alloc (M : Nat → Prop) (w : World) (o : Obj) : Frame M w (w.alloc o) :=
  ⟨rfl, rfl, rfl, by simp, fun b hb _ => heap_alloc_old w o hb⟩

section
variable {P : Program} (hT : tableOf P = T)
include hT

/-- A variable is written. -/
theorem gop_store {o : Oper} {t : TypeId} {x y : Operand} (ho : o.op = .store t x y) {gh : GH} {id off : Nat} {l : List V} {v : V} (hkn : known (tyOf t).k = true) (hc : v.okc = true) (hsz : v.flat.length = (tyOf t).size) (hg : gh.get id = some (.box l)) (hle : off + v.flat.length ≤ l.length) :
    GOp P o [.gp id off, v] gh (One (.tup []) (gh.set id (.box (l.take off ++ v.flat ++ l.drop (off + v.flat.length))))) := by
  refine GOp.of_run fun ok w a gl hokb hx => ?_
  rw [ho] at hx
  obtain ⟨b, hn, hb, he⟩ := rep_gp (hx.get 0 rfl (by simp [Op.operands]; rfl))
  have hy := hx.get 1 rfl (y := y) (by simp [Op.operands])
  obtain ⟨c1, c2, c3, c4⟩ := repV_cells hy hc
  obtain ⟨b', e, cs, h1, h2, h3, h4, h5⟩ := (gl.obj _ _ hg).2
  rw [hb] at h1; cases h1
  have c1' : (a.eval y).cells.size = v.flat.length := by simpa using c1
  obtain ⟨cs', g1, g2, g3, g4, g5, g6, g7, g8⟩ := setCells_row (a.eval y).cells.toList off w cs h2 (by simp; omega)
  have hrun := run_store_at hT (t := t) (b := b) (off := off) (w := w) (v := a.eval y) hkn (by omega) h2 (by omega) c2
  have hs : Same ok ok w (w.setCells b off (a.eval y).cells.toList) := ⟨fun _ _ h => h, fun k o h => by
    have hk : k ≠ b := fun q => by subst q; exact h4 _ h
    simp only [World.cell?, g4 k hk], .refl _⟩
  refine ⟨undef, w.setCells b off (a.eval y).cells.toList, ok, _, _, .inr ⟨?_, rfl⟩, ⟨rfl, rfl⟩, frame_set hg (fun h => h) hb g4 g5 g6 g7 g8, hs, fun k o h => ⟨by rw [g8]; exact hokb _ _ h, .inl h⟩,
    gl.upd hg (fun h => h) (fun h => h) hb g4 g8 (fun h => h) ⟨b, e, cs', hb, g1, by simp; omega, h4, fun j hj => ?_⟩, fun k h => .inl (occG_set hg (fun h => h) h), Rep.tup (ok := ok) [] [] rfl (by simp)⟩
  · simp only [execOp, ho, he, Sem.run_bind, hrun, Result.andThen_ok, Sem.run_pure]
  · have hlay := lay_get l v.flat off v.flat.length rfl (by omega) j
    rw [g3]
    by_cases hin : off ≤ j ∧ j < off + v.flat.length
    · rw [if_pos (by simp; omega)]
      rw [if_pos hin] at hlay
      have hj1 : j - off < v.flat.length := by omega
      have hj2 : j - off < (a.eval y).cells.toList.length := by omega
      rw [List.getElem?_eq_getElem hj, List.getElem?_eq_getElem hj1] at hlay
      simp only [Option.some.injEq] at hlay
      rw [hlay]
      exact ⟨_, List.getElem?_eq_getElem hj2, c2 _ (List.getElem_mem hj2), (c4 (j - off) hj1 hj2).mono hs⟩
    · rw [if_neg (by simp; omega)]
      rw [if_neg hin] at hlay
      have hj1 : j < l.length := by simp at hj; omega
      rw [List.getElem?_eq_getElem hj, List.getElem?_eq_getElem hj1] at hlay
      simp only [Option.some.injEq] at hlay
      rw [hlay]
      obtain ⟨u, k1, k2, k3⟩ := h5 j hj1
      exact ⟨u, k1, k2, k3.mono hs⟩

/-- Cells of a row's element are written. -/
theorem gop_storeR {o : Oper} {t : TypeId} {x y : Operand} (ho : o.op = .store t x y) {gh : GH} {id z off : Nat} {i : Int} {l : List V} {v el el' : V} (hkn : known (tyOf t).k = true) (hc : v.okc = true) (hsz : v.flat.length = (tyOf t).size) (hg : gh.get id = some (.row z l)) (hi : l[i.toNat]? = some el)
    (hle : off + v.flat.length ≤ el.flat.length) (hel : el'.flat = el.flat.take off ++ v.flat ++ el.flat.drop (off + v.flat.length)) :
    GOp P o [.ge id z i off, v] gh (One (.tup []) (gh.set id (.row z (l.set i.toNat el')))) := by
  refine GOp.of_run fun ok w a gl hokb hx => ?_
  rw [ho] at hx
  obtain ⟨b, hn, hb, hi0, he⟩ := rep_ge (hx.get 0 rfl (by simp [Op.operands]; rfl))
  have hy := hx.get 1 rfl (y := y) (by simp [Op.operands])
  obtain ⟨c1, c2, c3, c4⟩ := repV_cells hy hc
  obtain ⟨hlt, hli⟩ := List.getElem?_eq_some_iff.1 hi
  rcases (gl.obj _ _ hg).2 with ⟨_, h1⟩ | ⟨b', cs, e, h1, h2, h3, h4, h5, h6, h7⟩
  · rw [hb] at h1; cases h1
  rw [hb] at h1; cases h1
  have c1' : (a.eval y).cells.size = v.flat.length := by simpa using c1
  have hz := h6.hz _ hlt
  rw [hli] at hz
  have hmul : i.toNat * z + z ≤ ok.cap id * z := by rw [← Nat.succ_mul]; exact Nat.mul_le_mul_right _ (by omega)
  obtain ⟨cs', g1, g2, g3, g4, g5, g6, g7, g8⟩ := setCells_row (a.eval y).cells.toList (i.toNat * z + off) w cs h2 (by simp; omega)
  have hrun := run_store_at hT (t := t) (b := b) (off := i.toNat * z + off) (w := w) (v := a.eval y) hkn (by omega) h2 (by omega) c2
  have hs : Same ok ok w (w.setCells b (i.toNat * z + off) (a.eval y).cells.toList) := ⟨fun _ _ h => h, fun k o h => by
    have hk : k ≠ b := fun q => by subst q; exact h7 _ h
    simp only [World.cell?, g4 k hk], .refl _⟩
  have hlay := fun j => lay_get el.flat v.flat off v.flat.length rfl (by omega) j
  rw [← hel] at hlay
  have hel2 : el'.flat.length = z := by rw [hel]; simp; omega
  have hcells : ∀ j (hj : j < el'.flat.length), (off ≤ j ∧ j < off + v.flat.length ∧ ∃ hj1 : j - off < v.flat.length, el'.flat[j]'hj = v.flat[j - off]'hj1) ∨ (¬ (off ≤ j ∧ j < off + v.flat.length) ∧ ∃ hj1 : j < el.flat.length, el'.flat[j]'hj = el.flat[j]'hj1) := by
    intro j hj
    have h := hlay j
    rw [List.getElem?_eq_getElem hj] at h
    by_cases hin : off ≤ j ∧ j < off + v.flat.length
    · rw [if_pos hin, List.getElem?_eq_getElem (show j - off < v.flat.length by omega)] at h
      simp only [Option.some.injEq] at h
      exact .inl ⟨hin.1, hin.2, by omega, h⟩
    · have hj1 : j < el.flat.length := by omega
      rw [if_neg hin, List.getElem?_eq_getElem hj1] at h
      simp only [Option.some.injEq] at h
      exact .inr ⟨hin, hj1, h⟩
  have hrow : RowAt ok (w.setCells b (i.toNat * z + off) (a.eval y).cells.toList) b 0 z (l.set i.toNat el') := by
    refine h6.set hs hlt hel2 (fun j hj => ?_) (fun k hk => ?_) (fun j hj => ?_)
    · rcases hcells j hj with ⟨_, _, hj1, q⟩ | ⟨_, hj1, q⟩
      · rw [q]; exact c3 _ _
      · rw [q]
        have := h6.hcell _ hlt j (by rw [hli]; exact hj1)
        simpa [hli] using this
    · rw [cell_of_heap g1, cell_of_heap h2, g3, if_neg (by simp; omega)]
    · rw [cell_of_heap g1, g3]
      rcases hcells j hj with ⟨q1, q2, hj1, q⟩ | ⟨q1, hj1, q⟩
      · have hj2 : j - off < (a.eval y).cells.toList.length := by omega
        rw [if_pos (by simp; omega), show i.toNat * z + j - (i.toNat * z + off) = j - off from by omega, q]
        exact ⟨_, List.getElem?_eq_getElem hj2, (c4 (j - off) hj1 hj2).mono hs⟩
      · obtain ⟨u, k1, k2⟩ := h6.hr _ hlt j (by rw [hli]; exact hj1)
        rw [if_neg (by simp; omega), q]
        rw [cell_of_heap h2, Nat.zero_add] at k1
        have k3 : Rep ok w (el.flat[j]'hj1) u := by simpa [hli] using k2
        exact ⟨u, k1, k3.mono hs⟩
  refine ⟨undef, w.setCells b (i.toNat * z + off) (a.eval y).cells.toList, ok, _, _, .inr ⟨?_, rfl⟩, ⟨rfl, rfl⟩, frame_set hg (fun h => h) hb g4 g5 g6 g7 g8, hs, fun k o h => ⟨by rw [g8]; exact hokb _ _ h, .inl h⟩,
    gl.upd hg (fun h => h) (fun h => h) hb g4 g8 (fun h => h) (.inr ⟨b, cs', e, hb, g1, by omega, by simpa using h4, h5, hrow, h7⟩), fun k h => .inl (occG_set hg (fun h => h) h), Rep.tup (ok := ok) [] [] rfl (by simp)⟩
  simp only [execOp, ho, he, Sem.run_bind, hrun, Result.andThen_ok, Sem.run_pure]

/-- A new variable. -/
theorem gop_alloc {o : Oper} {t : TypeId} (ho : o.op = .alloc t) {gh : GH} {l : List V} (hkn : known (tyOf t).k = true) (hz : toVs [] (tyOf t).zero = some l) : GOp P o [] gh (One (.gp gh.next 0) (gh.new (.box l))) := by
  refine GOp.of_run fun ok w a gl hokb hx => ?_
  obtain ⟨z, hrun, hzero, hone, hsz⟩ := exec_alloc hT hkn w
  rw [hzero] at hz
  have hv := toVs_sound (E := ⟨fun _ => none, fun _ => none, fun _ => 0, fun _ => 0⟩) (ok := ok) (w := w) (ob := []) (by simp [look]) _ l z.cells.toList hz (by simp) (fun i h h' => by simp only [List.getElem_map]; exact constD1_rep _ _ _ _)
  have hlen : l.length = z.cells.size := by simpa using hv.1
  have hs : Same ok (ok.bind (some w.heap.size) 0) w (w.alloc (.cells z.cells t)) := ⟨fun _ _ h => h, fun k o h => by simp only [World.cell?, heap_alloc_old w _ (hokb _ _ h)], Oks.bind_ext _ _ _⟩
  refine ⟨.pointer (some ⟨w.heap.size, 0, none⟩), w.alloc (.cells z.cells t), ok.bind (some w.heap.size) 0, _, _, .inl ?_, ⟨rfl, rfl⟩, frame_alloc _ _ _, hs, fun k o h => ⟨by have := hokb _ _ (h : ok k o); simp; omega, .inl h⟩,
    gl.new hokb (fun k hk => heap_alloc_old w _ hk) (by simp) (fun bb h => by cases h; exact Nat.le_refl _) ⟨w.heap.size, t, z.cells, Oks.bind_blk _ _ _, heap_alloc_new w _, hlen.symm, fun o h => by have := hokb _ _ (h : ok w.heap.size o); omega, fun j hj => ?_⟩,
    fun k h => occG_new gl (fun bb h => by cases h; exact Nat.le_refl _) h, .gp _ _ _ (by rw [gl.next]; exact Nat.lt_succ_self _) (by rw [gl.next]; exact Oks.bind_blk _ _ _)⟩
  · simp only [execOp, ho, Sem.run_bind, hrun, Result.andThen_ok, Sem.run_pure]
  · have hj' : j < z.cells.toList.length := by simp; omega
    refine ⟨z.cells[j]'(by omega), Array.getElem?_eq_getElem _, hone _ (by simp), ?_⟩
    have := hv.2 j hj hj'
    simp at this
    exact this.mono hs
/-- A new variable with a value. -/
theorem gop_box {o : Oper} {t : TypeId} {x : Operand} (ho : o.op = .box t x) {gh : GH} {v : V} (hc : v.okc = true) : GOp P o [v] gh (One (.gp gh.next 0) (gh.new (.box v.flat))) := by
  refine GOp.of_run fun ok w a gl hokb hx => ?_
  rw [ho] at hx
  have hy := hx.get 0 rfl (y := x) (by simp [Op.operands])
  obtain ⟨c1, c2, c3, c4⟩ := repV_cells hy hc
  have hs : Same ok (ok.bind (some w.heap.size) 0) w (w.alloc (.cells (a.eval x).cells t)) := ⟨fun _ _ h => h, fun k o h => by simp only [World.cell?, heap_alloc_old w _ (hokb _ _ h)], Oks.bind_ext _ _ _⟩
  refine ⟨.pointer (some ⟨w.heap.size, 0, none⟩), w.alloc (.cells (a.eval x).cells t), ok.bind (some w.heap.size) 0, _, _, .inl ?_, ⟨rfl, rfl⟩, frame_alloc _ _ _, hs, fun k o h => ⟨by have := hokb _ _ (h : ok k o); simp; omega, .inl h⟩,
    gl.new hokb (fun k hk => heap_alloc_old w _ hk) (by simp) (fun bb h => by cases h; exact Nat.le_refl _) ⟨w.heap.size, t, (a.eval x).cells, Oks.bind_blk _ _ _, heap_alloc_new w _, by simpa using c1, fun o h => by have := hokb _ _ (h : ok w.heap.size o); omega, fun j hj => ?_⟩,
    fun k h => occG_new gl (fun bb h => by cases h; exact Nat.le_refl _) h, .gp _ _ _ (by rw [gl.next]; exact Nat.lt_succ_self _) (by rw [gl.next]; exact Oks.bind_blk _ _ _)⟩
  · simp [execOp, ho, Instr.box, newVar, newRow, newObj, Sem.run]
  · have hj' : j < (a.eval x).cells.toList.length := by omega
    refine ⟨(a.eval x).cells[j]'(by simpa using hj'), Array.getElem?_eq_getElem _, c2 _ (by simp), ?_⟩
    have := c4 j hj hj'
    simp at this
    exact this.mono hs
end
end Go.Proofs.Ytinckcpmkocakaa.AM
