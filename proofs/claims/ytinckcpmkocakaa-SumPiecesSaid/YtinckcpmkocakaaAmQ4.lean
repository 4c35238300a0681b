/-
  The abstract machine, part 8: each quiet operation, II.
-/
import Derived.Test.YtinckcpmkocakaaAmQ3
set_option linter.unusedVariables false
set_option linter.unusedSimpArgs false
namespace Go.Proofs.Ytinckcpmkocakaa.AM
open Go Go.RowKit

theorem elemD_sound {P : Program} {R : List (Nat × AObj) → List D → Prop} {td : TD} {l : List V} {i : Int} {K : V → Prop} (h : elemD (std P R) td l i K) : ∃ x, K x ∧ 0 ≤ i ∧ l[i.toNat]? = some x ∧ (isAggT td.k = false → x.cell = true) ∧ (isAggT td.k = true → ∃ cs, x = .agg cs ∧ cs.length = td.size) := by
  unfold elemD at h
  split at h
  · rename_i hk
    obtain ⟨n, ⟨h0, h1⟩, h2⟩ := h
    exact ⟨_, h2, h0, h1, fun _ => rfl, fun q => by rw [hk] at q; simp [isAggT] at q⟩
  · rename_i hk
    obtain ⟨cs, ⟨h0, h1, h2⟩, h3⟩ := h
    exact ⟨_, h3, h0, h1, fun q => by rw [hk] at q; simp [isAggT] at q, fun _ => ⟨cs, rfl, h2⟩⟩
  · rename_i hk
    obtain ⟨cs, ⟨h0, h1, h2⟩, h3⟩ := h
    exact ⟨_, h3, h0, h1, fun q => by rw [hk] at q; simp [isAggT] at q, fun _ => ⟨cs, rfl, h2⟩⟩
  · rename_i h1 h2 h3
    obtain ⟨x, ⟨h0, hx, hc⟩, hK⟩ := h
    refine ⟨x, hK, h0, hx, fun _ => hc, fun q => ?_⟩
    cases hk : td.k <;> rw [hk] at q <;> simp [isAggT] at q
    · exact absurd hk (h3 _ _)
    · exact absurd hk (h2 _)
theorem exec_load {a : Act} {o : Oper} {t : TypeId} {x : Operand} (ho : o.op = .load t x) : execOp a.eval o = (do pure (.value (← Instr.loadAt t (a.eval x)))) := by simp only [execOp, ho]

section
variable {P : Program} {R : List (Nat × AObj) → List D → Prop} (hT : tableOf P = T)
include hT

theorem ty_fn {t : Nat} (h : (tyOf t).k = .fn) : ∃ ps rs vr, P.underlying t = some (.func ps rs vr) := by
  have := ty_k hT h (by simp)
  unfold tkOf at this
  split at this <;> simp_all
theorem ty_ptr {t e : Nat} (h : (tyOf t).k = .ptr e) : P.underlying t = some (.pointer e) := by
  have := ty_k hT h (by simp)
  unfold tkOf at this
  split at this <;> simp_all

theorem eqD_sound (t : Nat) (ob : List (Nat × AObj)) (x y : D) (K : D → Prop) (h : eqD (std P R) t ob x y K) : ∃ d, K d ∧ EqRun (R := R) P t ob x y d := by
  unfold eqD at h
  split at h
  · rename_i hk
    have hu := ty_bool hT hk
    have key : ∀ (a b : Bool) (w : World), (∀ op p q, (op = .eql ∨ op = .neq) → (eqGuard op t p q (.bool a) (.bool b)).run P w = .ok () w) ∧ (binOp .eql t (.bool a) (.bool b)).run P w = .ok (.bool (a == b)) w ∧ (binOp .neq t (.bool a) (.bool b)).run P w = .ok (.bool !(a == b)) w :=
      fun a b w => eq_run_of (by simp) (by simp) (equal_bool hu w a b) ⟨rfl, rfl⟩
    split at h
    · rename_i a b
      refine ⟨_, h, fun E ok w u v ho hx hy => ⟨a == b, .lit _, .lit _, ?_⟩⟩
      rw [repD_lit hx, repD_lit hy]; exact key a b w
    · rename_i a b
      refine ⟨_, h, fun E ok w u v ho hx hy => ⟨a == b, .v _ _ (.bool _), .v _ _ (.bool _), ?_⟩⟩
      rw [repD_lit hx, repD_bool hy]; exact key a b w
    · rename_i a b
      refine ⟨_, h, fun E ok w u v ho hx hy => ⟨a == b, .v _ _ (.bool _), .v _ _ (.bool _), ?_⟩⟩
      rw [repD_bool hx, repD_lit hy]; exact key a b w
    · rename_i a b
      refine ⟨_, h, fun E ok w u v ho hx hy => ⟨a == b, .v _ _ (.bool _), .v _ _ (.bool _), ?_⟩⟩
      rw [repD_bool hx, repD_bool hy]; exact key a b w
    · exact h.elim
  · rename_i e hk
    have hu := ty_ptr hT hk
    split at h
    · refine ⟨_, h, fun E ok w u v ho hx hy => ⟨true, .lit _, .lit _, ?_⟩⟩
      rw [rep_nilp (repD_v hx), rep_nilp (repD_v hy)]
      exact eq_run_of (by simp) (by simp) (equal_nil_ptr hu w none) ⟨rfl, rfl⟩
    · refine ⟨_, h, fun E ok w u v ho hx hy => ⟨false, .lit _, .lit _, ?_⟩⟩
      obtain ⟨b, _, rfl⟩ := repD_ptr hx
      rw [rep_nilp (repD_v hy)]
      exact eq_run_of (by simp) (by simp) (equal_ptr_nil hu w _) ⟨rfl, rfl⟩
    · refine ⟨_, h, fun E ok w u v ho hx hy => ⟨false, .lit _, .lit _, ?_⟩⟩
      obtain ⟨b, _, rfl⟩ := repD_ptr hy
      rw [rep_nilp (repD_v hx)]
      exact eq_run_of (by simp) (by simp) (equal_nil_ptr hu w _) ⟨rfl, rfl⟩
    · refine ⟨_, h, fun E ok w u v ho hx hy => ⟨false, .lit _, .lit _, ?_⟩⟩
      obtain ⟨b, off, rfl, _⟩ := rep_ref (repD_v hx)
      rw [rep_nilp (repD_v hy)]
      exact eq_run_of (by simp) (by simp) (equal_ptr_nil hu w _) ⟨rfl, rfl⟩
    · exact h.elim
  · rename_i e hk
    have hu := ty_slice hT hk
    have key : ∀ (a : Option Addr) (n c : Nat) (w : World), (∀ op p q, (op = .eql ∨ op = .neq) → (eqGuard op t p q (.slice a n c) (.slice none 0 0)).run P w = .ok () w) ∧ (binOp .eql t (.slice a n c) (.slice none 0 0)).run P w = .ok (.bool a.isNone) w ∧ (binOp .neq t (.slice a n c) (.slice none 0 0)).run P w = .ok (.bool !a.isNone) w :=
      fun a n c w => eq_run_of (by simp) (by simp) (equal_slice_nil hu w a n c) ⟨rfl, rfl⟩
    split at h
    · refine ⟨_, h, fun E ok w u v ho hx hy => ⟨true, .lit _, .lit _, ?_⟩⟩
      rw [repD_nils hx, repD_nils hy]
      exact key none 0 0 w
    · rename_i id
      split at h
      · rename_i z l ex hrow
        refine ⟨_, h.2, fun E ok w u v ho hx hy => ⟨false, .lit _, .lit _, ?_⟩⟩
        obtain ⟨a, c, he, hn⟩ := own_slice (ho _ _ (rowOf_some hrow))
        rw [repD_own hx, repD_nils hy, he]
        have := key a l.length c w
        cases a with
        | none => exact absurd (hn rfl) h.1
        | some a => exact this
      · exact h.elim
    · rename_i l
      refine ⟨_, h.2, fun E ok w u v ho hx hy => ⟨false, .lit _, .lit _, ?_⟩⟩
      obtain ⟨a, c, rfl, _, _, z, _, _, hp⟩ := slice_row (repD_v hx)
      obtain ⟨b, off, rfl, _⟩ := hp (List.length_pos_iff.2 h.1)
      rw [repD_nils hy]
      exact key _ l.length c w
    · exact h.elim
  · rename_i hk
    obtain ⟨ps, rs, vr, hu⟩ := ty_fn hT hk
    split at h
    · refine ⟨_, h, fun E ok w u v ho hx hy => ⟨true, .lit _, .lit _, ?_⟩⟩
      rw [rep_nilfn (repD_v hx), rep_nilfn (repD_v hy)]
      have he : ∀ d, (Op.equalIn (d + 1) t .nilFunc .nilFunc).run P w = .ok true w := fun d => by simp [Op.equalIn, run_underlying hu]
      exact eq_run_of (by simp) (by simp) (he 9999) ⟨rfl, rfl⟩
    · refine ⟨_, h, fun E ok w u v ho hx hy => ⟨false, .lit _, .lit _, ?_⟩⟩
      obtain ⟨cs, rfl, _⟩ := repD_fn hx
      rw [rep_nilfn (repD_v hy)]
      exact eq_run_of (by simp) (by simp) (equal_fn_nil hu w _ _ _) ⟨rfl, rfl⟩
    · refine ⟨_, h, fun E ok w u v ho hx hy => ⟨false, .lit _, .lit _, ?_⟩⟩
      obtain ⟨cs, rfl, _⟩ := rep_clo (repD_v hx)
      rw [rep_nilfn (repD_v hy)]
      exact eq_run_of (by simp) (by simp) (equal_fn_nil hu w _ _ _) ⟨rfl, rfl⟩
    · exact h.elim
  · split at h
    · rename_i a ha
      split at h
      · rename_i b hb
        obtain ⟨c, hc, hK⟩ := h
        refine ⟨_, hK, fun E ok w u v ho hx hy => ⟨c, .v _ _ (.bool _), .v _ _ (.bool _), ?_⟩⟩
        have hx' := toV_sound ho _ _ _ ha hx
        have hy' := toV_sound ho _ _ _ hb hy
        obtain ⟨h1, h2⟩ := hc ok w u v hx' hy'
        obtain ⟨cs, rfl, _⟩ := rep_agg hx'
        obtain ⟨cs', rfl, _⟩ := rep_agg hy'
        exact ⟨fun op p q _ => h1 op p q, by simp only [binOp, Sem.run_bind, h2, Result.andThen_ok, Sem.run_pure], by simp only [binOp, Sem.run_bind, h2, Result.andThen_ok, Sem.run_pure]⟩
      · exact h.elim
    · exact h.elim
  · exact h.elim

/-! Loads -/
theorem q_load (ob : List (Nat × AObj)) (ρ : Operand → D) (t : TypeId) (x : Operand) (K : D → Prop) (hkn : known (tyOf t).k = true) (h : loadD (std P R) (tyOf t) ob (ρ x) K) : ∃ d, K d ∧ Comes' P ob ρ (.load t x) d := by
  unfold loadD at h
  split at h
  · rename_i id off hx
    split at h
    · rename_i l hl
      split at h
      · rename_i hk
        split at h
        · rename_i hle
          refine ⟨_, h, fun E ok w a o ho hq => ?_⟩
          obtain ⟨b, e, cs, h1, h2, h3, h4, h5⟩ := hq.obj _ _ hl
          obtain ⟨b', hb', he⟩ := repD_ptr (hx ▸ hq.opr x (by simp [Op.operands]))
          rw [h1] at hb'; cases hb'
          have hc : ∀ j (hj : j < ((List.range (tyOf t).size).map fun j => cs.getD (off + j) undef).length), w.cell? ⟨b, off + j, none⟩ = some (((List.range (tyOf t).size).map fun j => cs.getD (off + j) undef)[j]'hj) := by
            intro j hj
            simp at hj
            rw [cell_of_heap h2]
            simp [show off + j < cs.size from by omega]
          refine does_v (exec_load ho) (by rw [he]; exact run_load_agg hT hk (by simp) hc) (.agg _ _ (by simp [cutD]; omega) ?_ ?_)
          · intro u hu
            simp at hu
            obtain ⟨j, hj, rfl⟩ := hu
            obtain ⟨u, hu, hu', _⟩ := h5 (off + j) (by omega)
            rw [hu]; exact hu'
          · intro j hj hj'
            simp at hj'
            obtain ⟨u, hu, _, hr⟩ := h5 (off + j) (by omega)
            simp only [cutD, List.getElem_take, List.getElem_drop, List.getElem_map, List.getElem_range]
            have : cs.getD (off + j) undef = u := by
              rw [Array.getD_eq_getD_getElem?, hu]; rfl
            rw [this]; exact hr
        · exact h.elim
      · rename_i hk
        split at h
        · rename_i d hd
          refine ⟨_, h, fun E ok w a o ho hq => ?_⟩
          obtain ⟨b, e, cs, h1, h2, h3, h4, h5⟩ := hq.obj _ _ hl
          obtain ⟨b', hb', he⟩ := repD_ptr (hx ▸ hq.opr x (by simp [Op.operands]))
          rw [h1] at hb'; cases hb'
          obtain ⟨hlt, rfl⟩ := look?_some hd
          obtain ⟨u, hu, _, hr⟩ := h5 off hlt
          exact does_v (exec_load ho) (by rw [he]; exact run_load_cell hT hk hkn (by rw [cell_of_heap h2, hu])) hr
        · exact h.elim
    · rename_i l hl
      split at h
      · rename_i hk
        split at h
        · rename_i hle
          refine ⟨_, h, fun E ok w a o ho hq => ?_⟩
          obtain ⟨b, h1, _, h2, h3⟩ := hq.obj _ _ hl
          obtain ⟨b', hb', he⟩ := repD_ptr (hx ▸ hq.opr x (by simp [Op.operands]))
          rw [h1] at hb'; cases hb'
          have hc : ∀ j (hj : j < ((List.range (tyOf t).size).map fun j => (w.cell? ⟨b, off + j, none⟩).getD undef).length), w.cell? ⟨b, off + j, none⟩ = some (((List.range (tyOf t).size).map fun j => (w.cell? ⟨b, off + j, none⟩).getD undef)[j]'hj) := by
            intro j hj
            simp at hj
            obtain ⟨_, u, hu, _⟩ := h3 (off + j) (by omega)
            simp [hu]
          refine does_v (exec_load ho) (by rw [he]; exact run_load_agg hT hk (by simp) hc) (.v _ _ (.agg _ _ (by simp; omega) ?_ ?_))
          · intro j hj
            simp only [List.getElem_take, List.getElem_drop]
            exact h2 _ (by simp at hj; omega)
          · intro j hj hj'
            simp at hj'
            obtain ⟨_, u, hu, hr⟩ := h3 (off + j) (by omega)
            simp only [List.getElem_take, List.getElem_drop, List.getElem_map, List.getElem_range, hu, Option.getD_some]
            exact hr
        · exact h.elim
      · rename_i hk
        split at h
        · rename_i d hd
          refine ⟨_, h, fun E ok w a o ho hq => ?_⟩
          obtain ⟨b, h1, _, h2, h3⟩ := hq.obj _ _ hl
          obtain ⟨b', hb', he⟩ := repD_ptr (hx ▸ hq.opr x (by simp [Op.operands]))
          rw [h1] at hb'; cases hb'
          obtain ⟨hlt, rfl⟩ := look?_some hd
          obtain ⟨_, u, hu, hr⟩ := h3 off hlt
          exact does_v (exec_load ho) (by rw [he]; exact run_load_cell hT hk hkn hu) (.v _ _ hr)
        · exact h.elim
    · rename_i z l ex hl
      split at h
      · rename_i n e hk
        split at h
        · rename_i hn
          obtain ⟨⟨hlen, hcl⟩, h⟩ := h
          refine ⟨_, h, fun E ok w a o ho hq => ?_⟩
          have hrow := hq.obj _ _ hl
          obtain ⟨b, hb, he⟩ := repD_ptr (hx ▸ hq.opr x (by simp [Op.operands]))
          rcases hrow with ⟨_, h1, _⟩ | ⟨b', cap, cs, e', h1, h2, h3, h4, h5, h6, h7, h8⟩
          · rw [h1] at hb; cases hb
          rw [h1] at hb; cases hb
          have hc : ∀ j (hj : j < ((List.range (tyOf t).size).map fun j => (w.cell? ⟨b, 0 + j, none⟩).getD undef).length), w.cell? ⟨b, 0 + j, none⟩ = some (((List.range (tyOf t).size).map fun j => (w.cell? ⟨b, 0 + j, none⟩).getD undef)[j]'hj) := by
            intro j hj
            simp at hj
            obtain ⟨u, hu, _⟩ := h7.hr j (by omega) 0 (by rw [h7.hz j (by omega)]; omega)
            simp at hu
            simp [hu]
          refine does_v (exec_load ho) (by rw [he]; exact run_load_agg hT (by rw [hk]; rfl) (by simp) hc) (.v _ _ (.agg _ _ (by simp; omega) ?_ ?_))
          · intro j hj
            exact hcl _ (List.getElem_mem _)
          · intro j hj hj'
            simp at hj'
            have hfl := cell_flat (hcl _ (List.getElem_mem hj))
            obtain ⟨u, hu, hr⟩ := h7.hr j hj 0 (by rw [hfl]; simp)
            simp at hu
            simp only [List.getElem_map, List.getElem_range, Nat.zero_add, hu, Option.getD_some]
            simpa [hfl] using hr
        · exact h.elim
      · exact h.elim
    · exact h.elim
  · rename_i id z i off hx
    split at h
    · rename_i z' l ex hl
      split at h
      · rename_i hz
        subst hz
        have place : ∀ (E : Env) (ok : Oks) (w : World) (a : Act) (o : Oper), QH E ok w a ob ρ (.load t x) → 0 ≤ i ∧ ∀ y, l[i.toNat]? = some y → ∃ b, a.eval x = .pointer (some ⟨b, i.toNat * z + off, none⟩) ∧ RowAt ok w b 0 z l := by
          intro E ok w a o hq
          obtain ⟨b, hb, hi, he⟩ := repD_rptr (hx ▸ hq.opr x (by simp [Op.operands]))
          refine ⟨hi, fun y hy => ?_⟩
          rcases hq.obj _ _ hl with ⟨h0, h1, _⟩ | ⟨b', cap, cs, e', h1, h2, h3, h4, h5, h6, h7, h8⟩
          · rw [h1] at hb; cases hb
          · rw [h1] at hb; cases hb
            exact ⟨b, he, h7⟩
        split at h
        · rename_i hk
          split at h
          · rename_i h0
            subst h0
            split at h
            · rename_i hsz
              obtain ⟨y, hK, hi, hy, _, hagg⟩ := elemD_sound h
              obtain ⟨cs', rfl, hcs'⟩ := hagg hk
              refine ⟨_, hK, fun E ok w a o ho hq => ?_⟩
              obtain ⟨_, hp⟩ := place E ok w a o hq
              obtain ⟨b, he, hrow⟩ := hp _ hy
              obtain ⟨q1, q2, q3⟩ := hrow.elem hi hy
              simp only [V.flat] at q1 q2 q3
              have hc : ∀ j (hj : j < ((List.range (tyOf t).size).map fun j => (w.cell? ⟨b, i.toNat * z + 0 + j, none⟩).getD undef).length), w.cell? ⟨b, i.toNat * z + 0 + j, none⟩ = some (((List.range (tyOf t).size).map fun j => (w.cell? ⟨b, i.toNat * z + 0 + j, none⟩).getD undef)[j]'hj) := by
                intro j hj
                simp at hj
                obtain ⟨u, hu, _⟩ := q3 j (by omega)
                simp at hu
                simp [hu]
              refine does_v (exec_load ho) (by rw [he]; exact run_load_agg hT hk (by simp) hc) (.v _ _ (.agg _ _ (by simp; omega) q2 ?_))
              intro j hj hj'
              obtain ⟨u, hu, hr⟩ := q3 j hj
              simp at hu
              simp [hu]
              exact hr
            · exact h.elim
          · exact h.elim
        · rename_i hk
          have one : ∀ (y : V) (v : V) (j : Nat), 0 ≤ i → l[i.toNat]? = some y → y.flat[j]? = some v → off = j → Comes' P ob ρ (.load t x) (.v v) := by
            intro y v j hi hy hv hj E ok w a o ho hq
            subst hj
            obtain ⟨_, hp⟩ := place E ok w a o hq
            obtain ⟨b, he, hrow⟩ := hp _ hy
            obtain ⟨q1, q2, q3⟩ := hrow.elem hi hy
            obtain ⟨hlt, rfl⟩ := List.getElem?_eq_some_iff.1 hv
            obtain ⟨u, hu, hr⟩ := q3 _ hlt
            simp at hu
            exact does_v (exec_load ho) (by rw [he]; exact run_load_cell hT hk hkn hu) (.v _ _ hr)
          split at h
          · rename_i hz1
            split at h
            · rename_i h0
              obtain ⟨y, hK, hi, hy, hcell, _⟩ := elemD_sound h
              exact ⟨_, hK, one y y 0 hi hy (by rw [cell_flat (hcell hk)]; rfl) h0⟩
            · exact h.elim
          · obtain ⟨cs', ⟨hi, hy, _⟩, h⟩ := h
            split at h
            · rename_i v hv
              exact ⟨_, h, one (.agg cs') v off hi hy (by rw [← look?_eq]; exact hv) rfl⟩
            · exact h.elim
      · exact h.elim
    · exact h.elim
  · rename_i l hx
    split at h
    · rename_i hk
      split at h
      · rename_i hle
        refine ⟨_, h, fun E ok w a o ho hq => ?_⟩
        obtain ⟨b, off, he, hc⟩ := rep_ref (repD_v (hx ▸ hq.opr x (by simp [Op.operands])))
        have hc' : ∀ j (hj : j < ((List.range (tyOf t).size).map fun j => (w.cell? ⟨b, off + j, none⟩).getD undef).length), w.cell? ⟨b, off + j, none⟩ = some (((List.range (tyOf t).size).map fun j => (w.cell? ⟨b, off + j, none⟩).getD undef)[j]'hj) := by
          intro j hj
          simp at hj
          obtain ⟨_, _, u, hu, _⟩ := hc j (by omega)
          simp [hu]
        refine does_v (exec_load ho) (by rw [he]; exact run_load_agg hT hk (by simp) hc') (.v _ _ (.agg _ _ (by simp; omega) ?_ ?_))
        · intro j hj
          simp only [List.getElem_take]
          exact (hc j (by simp at hj; omega)).2.1
        · intro j hj hj'
          simp at hj'
          obtain ⟨_, _, u, hu, hr⟩ := hc j (by omega)
          simp only [List.getElem_take, List.getElem_map, List.getElem_range, hu, Option.getD_some]
          exact hr
      · exact h.elim
    · rename_i hk
      split at h
      · rename_i d hd
        refine ⟨_, h, fun E ok w a o ho hq => ?_⟩
        obtain ⟨b, off, he, hc⟩ := rep_ref (repD_v (hx ▸ hq.opr x (by simp [Op.operands])))
        obtain ⟨hlt, rfl⟩ := look?_some hd
        obtain ⟨_, _, u, hu, hr⟩ := hc 0 hlt
        exact does_v (exec_load ho) (by rw [he]; exact run_load_cell hT hk hkn hu) (.v _ _ hr)
      · exact h.elim
  · exact h.elim
end
end Go.Proofs.Ytinckcpmkocakaa.AM
