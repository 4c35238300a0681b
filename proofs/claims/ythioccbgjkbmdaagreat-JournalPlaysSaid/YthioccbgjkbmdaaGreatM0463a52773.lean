/-
 The abstract machine, part 8: each quiet operation, II.
-/
import Derived.Test.YthioccbgjkbmdaaGreatM037f881d5f
import Derived.Lib.ConvBytes
import Derived.Laws.MakeOwn
import Derived.Laws.IdiomStrings
set_option linter.unusedVariables false
set_option linter.unusedSimpArgs false
namespace Go.Proofs.YthioccbgjkbmdaaGreat.AM
open Go Go.RowKit
theorem elemD_sound {P : Program} {R : List (Nat × AObj) → List D → Prop} {td : TD} {l : List V} {i : Int} {K : V → Prop} (h : elemD (std P R) td l i K) : ∃ x, K x ∧ 0 ≤ i ∧ l[i.toNat]? = some x ∧ (isAggT td.k = false → x.cell = true) ∧ (isAggT td.k = true → ∃ cs, x = .agg cs ∧ cs.length = td.size) := by
 unfold elemD at h
 split at h
 ·rename_i hk
  obtain ⟨n, ⟨h0, h1⟩, h2⟩ := h
  exact ⟨_, h2, h0, h1, fun _ => rfl, fun q => by rw [hk] at q; simp [isAggT] at q⟩
 ·rename_i hk
  obtain ⟨cs, ⟨h0, h1, h2⟩, h3⟩ := h
  exact ⟨_, h3, h0, h1, fun q => by rw [hk] at q; simp [isAggT] at q, fun _ => ⟨cs, rfl, h2⟩⟩
 ·rename_i hk
  obtain ⟨cs, ⟨h0, h1, h2⟩, h3⟩ := h
  exact ⟨_, h3, h0, h1, fun q => by rw [hk] at q; simp [isAggT] at q, fun _ => ⟨cs, rfl, h2⟩⟩
 ·rename_i h1 h2 h3
  obtain ⟨x, ⟨h0, hx, hc⟩, hK⟩ := h
  refine ⟨x, hK, h0, hx, fun _ => hc, fun q => ?_⟩
  cases hk : td.k <;> rw [hk] at q <;> simp [isAggT] at q
  ·exact absurd hk (h3 _ _)
  ·exact absurd hk (h2 _)
theorem exec_load {a : Act} {o : Oper} {t : TypeId} {x : Operand} (ho : o.op = .load t x) : execOp a.eval o = (do pure (.value (← Instr.loadAt t (a.eval x)))) := by simp only [execOp, ho]
section
variable {P : Program} {R : List (Nat × AObj) → List D → Prop} (hT : tableOf P = T)
include hT
theorem ty_fn {t : Nat} (h : (tyOf t).k = .fn) : ∃ ps rs vr, P.underlying t = some (.func ps rs vr) := by
 have := ty_k hT h (by simp)
 unfold tkOf at this
 split at this <;> simp_all
theorem ty_ptr {t e : Nat} (h : (tyOf t).k = .ptr e) : P.underlying t = some (.pointer e) := by
 have := ty_k hT h (by simp)
 unfold tkOf at this
 split at this <;> simp_all
theorem eqD_sound (t : Nat) (ob : List (Nat × AObj)) (x y : D) (K : D → Prop) (h : eqD (std P R) t ob x y K) : ∃ d, K d ∧ EqRun (R := R) P t ob x y d := by
 unfold eqD at h
 split at h
 ·rename_i hk
  have hu := ty_bool hT hk
  have key : ∀ (a b : Bool) (w : World), (∀ op p q, (op = .eql ∨ op = .neq) → (eqGuard op t p q (.bool a) (.bool b)).run P w = .ok () w) ∧ (binOp .eql t (.bool a) (.bool b)).run P w = .ok (.bool (a == b)) w ∧ (binOp .neq t (.bool a) (.bool b)).run P w = .ok (.bool !(a == b)) w :=
   fun a b w => eq_run_of (by simp) (by simp) (equal_bool hu w a b) ⟨rfl, rfl⟩
  split at h
  ·rename_i a b
   refine ⟨_, h, fun E ok w u v ho hx hy => ⟨a == b, .lit _, .lit _, ?_⟩⟩
   rw [repD_lit hx, repD_lit hy]; exact key a b w
  ·rename_i a b
   refine ⟨_, h, fun E ok w u v ho hx hy => ⟨a == b, .v _ _ (.bool _), .v _ _ (.bool _), ?_⟩⟩
   rw [repD_lit hx, repD_bool hy]; exact key a b w
  ·rename_i a b
   refine ⟨_, h, fun E ok w u v ho hx hy => ⟨a == b, .v _ _ (.bool _), .v _ _ (.bool _), ?_⟩⟩
   rw [repD_bool hx, repD_lit hy]; exact key a b w
  ·rename_i a b
   refine ⟨_, h, fun E ok w u v ho hx hy => ⟨a == b, .v _ _ (.bool _), .v _ _ (.bool _), ?_⟩⟩
   rw [repD_bool hx, repD_bool hy]; exact key a b w
  ·exact h.elim
 ·rename_i e hk
  have hu := ty_ptr hT hk
  split at h
  ·refine ⟨_, h, fun E ok w u v ho hx hy => ⟨true, .lit _, .lit _, ?_⟩⟩
   rw [rep_nilp (repD_v hx), rep_nilp (repD_v hy)]
   exact eq_run_of (by simp) (by simp) (equal_nil_ptr hu w none) ⟨rfl, rfl⟩
  ·refine ⟨_, h, fun E ok w u v ho hx hy => ⟨false, .lit _, .lit _, ?_⟩⟩
   obtain ⟨b, _, rfl⟩ := repD_ptr hx
   rw [rep_nilp (repD_v hy)]
   exact eq_run_of (by simp) (by simp) (equal_ptr_nil hu w _) ⟨rfl, rfl⟩
  ·refine ⟨_, h, fun E ok w u v ho hx hy => ⟨false, .lit _, .lit _, ?_⟩⟩
   obtain ⟨b, _, rfl⟩ := repD_ptr hy
   rw [rep_nilp (repD_v hx)]
   exact eq_run_of (by simp) (by simp) (equal_nil_ptr hu w _) ⟨rfl, rfl⟩
  ·refine ⟨_, h, fun E ok w u v ho hx hy => ⟨false, .lit _, .lit _, ?_⟩⟩
   obtain ⟨b, off, rfl, _⟩ := rep_ref (repD_v hx)
   rw [rep_nilp (repD_v hy)]
   exact eq_run_of (by simp) (by simp) (equal_ptr_nil hu w _) ⟨rfl, rfl⟩
  ·refine ⟨_, h, fun E ok w u v ho hx hy => ⟨false, .lit _, .lit _, ?_⟩⟩
   obtain ⟨b, _, _, rfl⟩ := rep_gp (repD_v hx)
   rw [rep_nilp (repD_v hy)]
   exact eq_run_of (by simp) (by simp) (equal_ptr_nil hu w _) ⟨rfl, rfl⟩
  ·refine ⟨_, h, fun E ok w u v ho hx hy => ⟨false, .lit _, .lit _, ?_⟩⟩
   obtain ⟨b, _, _, rfl⟩ := rep_gp (repD_v hy)
   rw [rep_nilp (repD_v hx)]
   exact eq_run_of (by simp) (by simp) (equal_nil_ptr hu w _) ⟨rfl, rfl⟩
  ·exact h.elim
 ·rename_i e hk
  have hu := ty_slice hT hk
  have key : ∀ (a : Option Addr) (n c : Nat) (w : World), (∀ op p q, (op = .eql ∨ op = .neq) → (eqGuard op t p q (.slice a n c) (.slice none 0 0)).run P w = .ok () w) ∧ (binOp .eql t (.slice a n c) (.slice none 0 0)).run P w = .ok (.bool a.isNone) w ∧ (binOp .neq t (.slice a n c) (.slice none 0 0)).run P w = .ok (.bool !a.isNone) w :=
   fun a n c w => eq_run_of (by simp) (by simp) (equal_slice_nil hu w a n c) ⟨rfl, rfl⟩
  split at h
  ·refine ⟨_, h, fun E ok w u v ho hx hy => ⟨true, .lit _, .lit _, ?_⟩⟩
   rw [repD_nils hx, repD_nils hy]
   exact key none 0 0 w
  ·refine ⟨_, h, fun E ok w u v ho hx hy => ⟨true, .lit _, .lit _, ?_⟩⟩
   rw [rep_nils (repD_v hx), repD_nils hy]
   exact key none 0 0 w
  ·rename_i id
   split at h
   ·rename_i z l ex hrow
    rcases h with ⟨h1, h⟩ | h
    ·refine ⟨_, h, fun E ok w u v ho hx hy => ⟨false, .lit _, .lit _, ?_⟩⟩
     obtain ⟨a, c, he, hn⟩ := own_slice (ho _ _ (rowOf_some hrow))
     rw [repD_own hx, repD_nils hy, he]
     have := key a l.length c w
     cases a with
     | none => exact absurd (hn rfl) h1
     | some a => exact this
    ·refine ⟨_, h, fun E ok w u v ho hx hy => ?_⟩
     obtain ⟨a, c, he, hn⟩ := own_slice (ho _ _ (rowOf_some hrow))
     rw [repD_own hx, repD_nils hy, he]
     exact ⟨a.isNone, .ub _, .ub _, key a l.length c w⟩
   ·exact h.elim
  ·rename_i l
   rcases h with ⟨h1, h⟩ | h
   ·refine ⟨_, h, fun E ok w u v ho hx hy => ⟨false, .lit _, .lit _, ?_⟩⟩
    obtain ⟨a, c, rfl, _, _, z, _, _, hp⟩ := slice_row (repD_v hx)
    obtain ⟨b, off, rfl, _⟩ := hp (List.length_pos_iff.2 h1)
    rw [repD_nils hy]
    exact key _ l.length c w
   ·refine ⟨_, h, fun E ok w u v ho hx hy => ?_⟩
    obtain ⟨a, c, rfl, _⟩ := slice_row (repD_v hx)
    rw [repD_nils hy]
    exact ⟨a.isNone, .ub _, .ub _, key _ l.length c w⟩
  ·exact h.elim
 ·rename_i hk
  obtain ⟨ps, rs, vr, hu⟩ := ty_fn hT hk
  split at h
  ·refine ⟨_, h, fun E ok w u v ho hx hy => ⟨true, .lit _, .lit _, ?_⟩⟩
   rw [rep_nilfn (repD_v hx), rep_nilfn (repD_v hy)]
   have he : ∀ d, (Op.equalIn (d + 1) t .nilFunc .nilFunc).run P w = .ok true w := fun d => by simp [Op.equalIn, run_underlying hu]
   exact eq_run_of (by simp) (by simp) (he 9999) ⟨rfl, rfl⟩
  ·refine ⟨_, h, fun E ok w u v ho hx hy => ⟨false, .lit _, .lit _, ?_⟩⟩
   obtain ⟨cs, rfl, _⟩ := repD_fn hx
   rw [rep_nilfn (repD_v hy)]
   exact eq_run_of (by simp) (by simp) (equal_fn_nil hu w _ _ _) ⟨rfl, rfl⟩
  ·refine ⟨_, h, fun E ok w u v ho hx hy => ⟨false, .lit _, .lit _, ?_⟩⟩
   obtain ⟨cs, rfl, _⟩ := rep_clo (repD_v hx)
   rw [rep_nilfn (repD_v hy)]
   exact eq_run_of (by simp) (by simp) (equal_fn_nil hu w _ _ _) ⟨rfl, rfl⟩
  ·refine ⟨_, h, fun E ok w u v ho hx hy => ⟨false, .lit _, .lit _, ?_⟩⟩
   obtain ⟨cs, rfl, _⟩ := rep_mth (repD_v hx)
   rw [rep_nilfn (repD_v hy)]
   exact eq_run_of (by simp) (by simp) (equal_fn_nil hu w _ _ _) ⟨rfl, rfl⟩
  ·exact h.elim
 ·split at h
  ·rename_i a ha
   split at h
   ·rename_i b hb
    obtain ⟨c, hc, hK⟩ := h
    refine ⟨_, hK, fun E ok w u v ho hx hy => ⟨c, .v _ _ (.bool _), .v _ _ (.bool _), ?_⟩⟩
    have hx' := toV_sound ho _ _ _ ha hx
    have hy' := toV_sound ho _ _ _ hb hy
    obtain ⟨h1, h2⟩ := hc ok w u v hx' hy'
    obtain ⟨cs, rfl, _⟩ := rep_agg hx'
    obtain ⟨cs', rfl, _⟩ := rep_agg hy'
    exact ⟨fun op p q _ => h1 op p q, by simp only [binOp, Sem.run_bind, h2, Result.andThen_ok, Sem.run_pure], by simp only [binOp, Sem.run_bind, h2, Result.andThen_ok, Sem.run_pure]⟩
   ·exact h.elim
  ·exact h.elim
 ·exact h.elim
theorem q_load (ob : List (Nat × AObj)) (ρ : Operand → D) (t : TypeId) (x : Operand) (K : D → Prop) (hkn : known (tyOf t).k = true) (h : loadD (std P R) (tyOf t) ob (ρ x) K) : ∃ d, K d ∧ Comes' P ob ρ (.load t x) d := by
 unfold loadD at h
 split at h
 ·rename_i id off hx
  split at h
  ·rename_i l hl
   split at h
   ·rename_i hk
    split at h
    ·rename_i hle
     refine ⟨_, h, fun E ok w a o ho hq => ?_⟩
     obtain ⟨b, e, cs, h1, h2, h3, h4, h5⟩ := hq.obj _ _ hl
     obtain ⟨b', hb', he⟩ := repD_ptr (hx ▸ hq.opr x (by simp [Op.operands]))
     rw [h1] at hb'; cases hb'
     have hc : ∀ j (hj : j < ((List.range (tyOf t).size).map fun j => cs.getD (off + j) undef).length), w.cell? ⟨b, off + j, none⟩ = some (((List.range (tyOf t).size).map fun j => cs.getD (off + j) undef)[j]'hj) := by
      intro j hj
      simp at hj
      rw [cell_of_heap h2]
      simp [show off + j < cs.size from by omega]
     refine does_v (exec_load ho) (by rw [he]; exact run_load_agg hT hk (by simp) hc) (.agg _ _ (by simp [cutD]; omega) ?_ ?_)
     ·intro u hu
      simp at hu
      obtain ⟨j, hj, rfl⟩ := hu
      obtain ⟨u, hu, hu', _⟩ := h5 (off + j) (by omega)
      rw [hu]; exact hu'
     ·intro j hj hj'
      simp at hj'
      obtain ⟨u, hu, _, hr⟩ := h5 (off + j) (by omega)
      simp only [cutD, List.getElem_take, List.getElem_drop, List.getElem_map, List.getElem_range]
      have : cs.getD (off + j) undef = u := by
       rw [Array.getD_eq_getD_getElem?, hu]; rfl
      rw [this]; exact hr
    ·exact h.elim
   ·rename_i hk
    split at h
    ·rename_i d hd
     refine ⟨_, h, fun E ok w a o ho hq => ?_⟩
     obtain ⟨b, e, cs, h1, h2, h3, h4, h5⟩ := hq.obj _ _ hl
     obtain ⟨b', hb', he⟩ := repD_ptr (hx ▸ hq.opr x (by simp [Op.operands]))
     rw [h1] at hb'; cases hb'
     obtain ⟨hlt, rfl⟩ := look?_some hd
     obtain ⟨u, hu, _, hr⟩ := h5 off hlt
     exact does_v (exec_load ho) (by rw [he]; exact run_load_cell hT hk hkn (by rw [cell_of_heap h2, hu])) hr
    ·exact h.elim
  ·rename_i l hl
   split at h
   ·rename_i hk
    split at h
    ·rename_i hle
     refine ⟨_, h, fun E ok w a o ho hq => ?_⟩
     obtain ⟨b, h1, _, h2, h3⟩ := hq.obj _ _ hl
     obtain ⟨b', hb', he⟩ := repD_ptr (hx ▸ hq.opr x (by simp [Op.operands]))
     rw [h1] at hb'; cases hb'
     have hc : ∀ j (hj : j < ((List.range (tyOf t).size).map fun j => (w.cell? ⟨b, off + j, none⟩).getD undef).length), w.cell? ⟨b, off + j, none⟩ = some (((List.range (tyOf t).size).map fun j => (w.cell? ⟨b, off + j, none⟩).getD undef)[j]'hj) := by
      intro j hj
      simp at hj
      obtain ⟨_, u, hu, _⟩ := h3 (off + j) (by omega)
      simp [hu]
     refine does_v (exec_load ho) (by rw [he]; exact run_load_agg hT hk (by simp) hc) (.v _ _ (.agg _ _ (by simp; omega) ?_ ?_))
     ·intro j hj
      simp only [List.getElem_take, List.getElem_drop]
      exact h2 _ (by simp at hj; omega)
     ·intro j hj hj'
      simp at hj'
      obtain ⟨_, u, hu, hr⟩ := h3 (off + j) (by omega)
      simp only [List.getElem_take, List.getElem_drop, List.getElem_map, List.getElem_range, hu, Option.getD_some]
      exact hr
    ·exact h.elim
   ·rename_i hk
    split at h
    ·rename_i d hd
     refine ⟨_, h, fun E ok w a o ho hq => ?_⟩
     obtain ⟨b, h1, _, h2, h3⟩ := hq.obj _ _ hl
     obtain ⟨b', hb', he⟩ := repD_ptr (hx ▸ hq.opr x (by simp [Op.operands]))
     rw [h1] at hb'; cases hb'
     obtain ⟨hlt, rfl⟩ := look?_some hd
     obtain ⟨_, u, hu, hr⟩ := h3 off hlt
     exact does_v (exec_load ho) (by rw [he]; exact run_load_cell hT hk hkn hu) (.v _ _ hr)
    ·exact h.elim
  ·rename_i z l ex hl
   split at h
   ·rename_i n e hk
    split at h
    ·rename_i hn
     obtain ⟨⟨hlen, hcl⟩, h⟩ := h
     refine ⟨_, h, fun E ok w a o ho hq => ?_⟩
     have hrow := hq.obj _ _ hl
     obtain ⟨b, hb, he⟩ := repD_ptr (hx ▸ hq.opr x (by simp [Op.operands]))
     rcases hrow with ⟨_, h1, _⟩ | ⟨b', cap, cs, e', h1, h2, h3, h4, h5, h6, h7, h8⟩
     ·rw [h1] at hb; cases hb
     rw [h1] at hb; cases hb
     have hc : ∀ j (hj : j < ((List.range (tyOf t).size).map fun j => (w.cell? ⟨b, 0 + j, none⟩).getD undef).length), w.cell? ⟨b, 0 + j, none⟩ = some (((List.range (tyOf t).size).map fun j => (w.cell? ⟨b, 0 + j, none⟩).getD undef)[j]'hj) := by
      intro j hj
      simp at hj
      obtain ⟨u, hu, _⟩ := h7.hr j (by omega) 0 (by rw [h7.hz j (by omega)]; omega)
      simp at hu
      simp [hu]
     refine does_v (exec_load ho) (by rw [he]; exact run_load_agg hT (by rw [hk]; rfl) (by simp) hc) (.v _ _ (.agg _ _ (by simp; omega) ?_ ?_))
     ·intro j hj
      exact hcl _ (List.getElem_mem _)
     ·intro j hj hj'
      simp at hj'
      have hfl := cell_flat (hcl _ (List.getElem_mem hj))
      obtain ⟨u, hu, hr⟩ := h7.hr j hj 0 (by rw [hfl]; simp)
      simp at hu
      simp only [List.getElem_map, List.getElem_range, Nat.zero_add, hu, Option.getD_some]
      simpa [hfl] using hr
    ·exact h.elim
   ·exact h.elim
  ·exact h.elim
 ·rename_i id z i off hx
  split at h
  ·rename_i z' l ex hl
   split at h
   ·rename_i hz
    subst hz
    have place : ∀ (E : Env) (ok : Oks) (w : World) (a : Act) (o : Oper), QH E ok w a ob ρ (.load t x) → 0 ≤ i ∧ ∀ y, l[i.toNat]? = some y → ∃ b, a.eval x = .pointer (some ⟨b, i.toNat * z + off, none⟩) ∧ RowAt ok w b 0 z l := by
     intro E ok w a o hq
     obtain ⟨b, hb, hi, he⟩ := repD_rptr (hx ▸ hq.opr x (by simp [Op.operands]))
     refine ⟨hi, fun y hy => ?_⟩
     rcases hq.obj _ _ hl with ⟨h0, h1, _⟩ | ⟨b', cap, cs, e', h1, h2, h3, h4, h5, h6, h7, h8⟩
     ·rw [h1] at hb; cases hb
     ·rw [h1] at hb; cases hb
      exact ⟨b, he, h7⟩
    split at h
    ·rename_i hk
     split at h
     ·rename_i h0
      subst h0
      split at h
      ·rename_i hsz
       obtain ⟨y, hK, hi, hy, _, hagg⟩ := elemD_sound h
       obtain ⟨cs', rfl, hcs'⟩ := hagg hk
       refine ⟨_, hK, fun E ok w a o ho hq => ?_⟩
       obtain ⟨_, hp⟩ := place E ok w a o hq
       obtain ⟨b, he, hrow⟩ := hp _ hy
       obtain ⟨q1, q2, q3⟩ := hrow.elem hi hy
       simp only [V.flat] at q1 q2 q3
       have hc : ∀ j (hj : j < ((List.range (tyOf t).size).map fun j => (w.cell? ⟨b, i.toNat * z + 0 + j, none⟩).getD undef).length), w.cell? ⟨b, i.toNat * z + 0 + j, none⟩ = some (((List.range (tyOf t).size).map fun j => (w.cell? ⟨b, i.toNat * z + 0 + j, none⟩).getD undef)[j]'hj) := by
        intro j hj
        simp at hj
        obtain ⟨u, hu, _⟩ := q3 j (by omega)
        simp at hu
        simp [hu]
       refine does_v (exec_load ho) (by rw [he]; exact run_load_agg hT hk (by simp) hc) (.v _ _ (.agg _ _ (by simp; omega) q2 ?_))
       intro j hj hj'
       obtain ⟨u, hu, hr⟩ := q3 j hj
       simp at hu
       simp [hu]
       exact hr
      ·exact h.elim
     ·exact h.elim
    ·rename_i hk
     have one : ∀ (y : V) (v : V) (j : Nat), 0 ≤ i → l[i.toNat]? = some y → y.flat[j]? = some v → off = j → Comes' P ob ρ (.load t x) (.v v) := by
      intro y v j hi hy hv hj E ok w a o ho hq
      subst hj
      obtain ⟨_, hp⟩ := place E ok w a o hq
      obtain ⟨b, he, hrow⟩ := hp _ hy
      obtain ⟨q1, q2, q3⟩ := hrow.elem hi hy
      obtain ⟨hlt, rfl⟩ := List.getElem?_eq_some_iff.1 hv
      obtain ⟨u, hu, hr⟩ := q3 _ hlt
      simp at hu
      exact does_v (exec_load ho) (by rw [he]; exact run_load_cell hT hk hkn hu) (.v _ _ hr)
     split at h
     ·rename_i hz1
      split at h
      ·rename_i h0
       obtain ⟨y, hK, hi, hy, hcell, _⟩ := elemD_sound h
       exact ⟨_, hK, one y y 0 hi hy (by rw [cell_flat (hcell hk)]; rfl) h0⟩
      ·exact h.elim
     ·obtain ⟨cs', ⟨hi, hy, _⟩, h⟩ := h
      split at h
      ·rename_i v hv
       exact ⟨_, h, one (.agg cs') v off hi hy (by rw [← look?_eq]; exact hv) rfl⟩
      ·exact h.elim
   ·exact h.elim
  ·exact h.elim
 ·rename_i l hx
  split at h
  ·rename_i hk
   split at h
   ·rename_i hle
    refine ⟨_, h, fun E ok w a o ho hq => ?_⟩
    obtain ⟨b, off, he, hc⟩ := rep_ref (repD_v (hx ▸ hq.opr x (by simp [Op.operands])))
    have hc' : ∀ j (hj : j < ((List.range (tyOf t).size).map fun j => (w.cell? ⟨b, off + j, none⟩).getD undef).length), w.cell? ⟨b, off + j, none⟩ = some (((List.range (tyOf t).size).map fun j => (w.cell? ⟨b, off + j, none⟩).getD undef)[j]'hj) := by
     intro j hj
     simp at hj
     obtain ⟨_, _, u, hu, _⟩ := hc j (by omega)
     simp [hu]
    refine does_v (exec_load ho) (by rw [he]; exact run_load_agg hT hk (by simp) hc') (.v _ _ (.agg _ _ (by simp; omega) ?_ ?_))
    ·intro j hj
     simp only [List.getElem_take]
     exact (hc j (by simp at hj; omega)).2.1
    ·intro j hj hj'
     simp at hj'
     obtain ⟨_, _, u, hu, hr⟩ := hc j (by omega)
     simp only [List.getElem_take, List.getElem_map, List.getElem_range, hu, Option.getD_some]
     exact hr
   ·exact h.elim
  ·rename_i hk
   split at h
   ·rename_i d hd
    refine ⟨_, h, fun E ok w a o ho hq => ?_⟩
    obtain ⟨b, off, he, hc⟩ := rep_ref (repD_v (hx ▸ hq.opr x (by simp [Op.operands])))
    obtain ⟨hlt, rfl⟩ := look?_some hd
    obtain ⟨_, _, u, hu, hr⟩ := hc 0 hlt
    exact does_v (exec_load ho) (by rw [he]; exact run_load_cell hT hk hkn hu) (.v _ _ hr)
   ·exact h.elim
 ·exact h.elim
end
open Go Go.RowKit
theorem known_ne {k : TK} (h : ¬ known k = false) : k ≠ .other := by intro e; rw [e] at h; simp [known] at h
theorem known_ne' {k : TK} (h : known k = true) : k ≠ .other := by intro e; rw [e] at h; simp [known] at h
theorem fieldOf_some {t f off ft : Nat} (h : fieldOf (tyOf t) f = some (off, ft)) : ∃ fs, (tyOf t).k = .struct fs ∧ fs[f]? = some (off, ft) := by
 unfold fieldOf at h
 split at h
 ·rename_i fs hk; exact ⟨fs, hk, by rw [← look?_eq]; exact h⟩
 ·simp at h
theorem elemRef_sound {P : Program} {R : List (Nat × AObj) → List D → Prop} {td : TD} {l : List V} {i : Int} {K : D → Prop} (h : elemRef (std P R) td l i K) :
  ∃ x, K (.v (.ref x.flat)) ∧ 0 ≤ i ∧ l[i.toNat]? = some x ∧ x.flat.length = td.size := by
 unfold elemRef at h
 split at h
 ·rename_i k hk
  split at h
  ·rename_i hs
   obtain ⟨n, ⟨h0, h1⟩, h2⟩ := h
   exact ⟨.int k n, h2, h0, h1, by rw [hs]; rfl⟩
  ·exact h.elim
 ·obtain ⟨cs, ⟨h0, h1, h2⟩, h3⟩ := h
  exact ⟨.agg cs, h3, h0, h1, h2⟩
 ·obtain ⟨cs, ⟨h0, h1, h2⟩, h3⟩ := h
  exact ⟨.agg cs, h3, h0, h1, h2⟩
 ·split at h
  ·rename_i hs
   obtain ⟨x, ⟨h0, hx, hc⟩, hK⟩ := h
   exact ⟨x, by rw [cell_flat hc]; exact hK, h0, hx, by rw [hs, cell_flat hc]; rfl⟩
  ·exact h.elim
section
variable {P : Program} {R : List (Nat × AObj) → List D → Prop} (hT : tableOf P = T)
include hT
theorem run_part_cell {ft off : Nat} {w : World} {cs : List Value} {u : Value} (hk : known (tyOf ft).k = true) (ha : isAggT (tyOf ft).k = false) (hu : cs[off]? = some u) : (part ft cs.toArray off).run P w = .ok u w := by
 simp [part, ty_isAgg hT (known_ne' hk), ha, hu]
theorem run_part_agg {ft off : Nat} {w : World} {cs : List Value} (hk : known (tyOf ft).k = true) (ha : isAggT (tyOf ft).k = true) : (part ft cs.toArray off).run P w = .ok (.agg ((cs.drop off).take (tyOf ft).size).toArray) w := by
 simp only [part, Sem.run_bind, ty_isAgg hT (known_ne' hk), ha, Result.andThen_ok, if_true, ty_size hT (known_ne' hk), Sem.run_pure]
 congr 2
 apply Array.ext'
 simp
theorem q_field (ob : List (Nat × AObj)) (ρ : Operand → D) (t : TypeId) (x : Operand) (f : Nat) (K : D → Prop) (h : qWp (std P R) ob ρ (.field t x f) K) : ∃ d, K d ∧ Comes' P ob ρ (.field t x f) d := by
 unfold qWp at h
 simp only at h
 split at h
 ·rename_i l off ft hx hf
  obtain ⟨fs, hk, hff⟩ := fieldOf_some hf
  obtain ⟨fields, hu, rfl⟩ := ty_struct hT hk
  simp only [List.getElem?_map, Option.map_eq_some_iff] at hff
  obtain ⟨fld, hfl, he⟩ := hff
  simp only [Prod.mk.injEq] at he
  obtain ⟨rfl, rfl⟩ := he
  have hfl' : fields[f]? = some fld := by simpa using hfl
  split at h
  ·exact h.elim
  ·rename_i hkn
   have hkn' : known (tyOf fld.type).k = true := by simpa using hkn
   split at h
   ·rename_i ha
    split at h
    ·rename_i hle
     refine ⟨_, h, fun E ok w a o ho hq => ?_⟩
     obtain ⟨cs, he, hl, hc, hr⟩ := repD_agg (hx ▸ hq.opr x (by simp [Op.operands]))
     refine does_v (s := Instr.field t (a.eval x) f) (v := .agg ((cs.drop fld.offset).take (tyOf fld.type).size).toArray) (by simp only [execOp, ho]) ?_ (.agg _ _ (by simp [cutD]; omega) ?_ ?_)
     ·rw [he]
      simp [Instr.field, run_underlying hu, hfl', asAgg]
      exact run_part_agg hT hkn' ha
     ·intro u hu
      exact hc u (List.mem_of_mem_drop (List.mem_of_mem_take hu))
     ·intro j hj hj'
      simp only [cutD, List.getElem_take, List.getElem_drop]
      exact hr _ (by simp [cutD] at hj; omega) _
    ·exact h.elim
   ·rename_i ha
    split at h
    ·rename_i d hd
     refine ⟨_, h, fun E ok w a o ho hq => ?_⟩
     obtain ⟨cs, he, hl, hc, hr⟩ := repD_agg (hx ▸ hq.opr x (by simp [Op.operands]))
     obtain ⟨hlt, rfl⟩ := look?_some hd
     refine does_v (s := Instr.field t (a.eval x) f) (v := cs[fld.offset]'(by omega)) (by simp only [execOp, ho]) ?_ (hr _ hlt (by omega))
     rw [he]
     simp [Instr.field, run_underlying hu, hfl', asAgg]
     exact run_part_cell hT hkn' ha (by simp [show fld.offset < cs.length from by omega])
    ·exact h.elim
 ·rename_i l off ft hx hf
  obtain ⟨fs, hk, hff⟩ := fieldOf_some hf
  obtain ⟨fields, hu, rfl⟩ := ty_struct hT hk
  simp only [List.getElem?_map, Option.map_eq_some_iff] at hff
  obtain ⟨fld, hfl, he⟩ := hff
  simp only [Prod.mk.injEq] at he
  obtain ⟨rfl, rfl⟩ := he
  have hfl' : fields[f]? = some fld := by simpa using hfl
  split at h
  ·exact h.elim
  ·rename_i hkn
   have hkn' : known (tyOf fld.type).k = true := by simpa using hkn
   split at h
   ·rename_i ha
    split at h
    ·rename_i hle
     refine ⟨_, h, fun E ok w a o ho hq => ?_⟩
     obtain ⟨cs, he, hl, hc, hr⟩ := rep_agg (repD_v (hx ▸ hq.opr x (by simp [Op.operands])))
     refine does_v (s := Instr.field t (a.eval x) f) (v := .agg ((cs.drop fld.offset).take (tyOf fld.type).size).toArray) (by simp only [execOp, ho]) ?_ (.v _ _ (.agg _ _ (by simp; omega) ?_ ?_))
     ·rw [he]
      simp [Instr.field, run_underlying hu, hfl', asAgg]
      exact run_part_agg hT hkn' ha
     ·intro j hj
      simp only [List.getElem_take, List.getElem_drop]
      exact hc _ (by simp at hj; omega)
     ·intro j hj hj'
      simp only [List.getElem_take, List.getElem_drop]
      exact hr _ (by simp at hj; omega) _
    ·exact h.elim
   ·rename_i ha
    split at h
    ·rename_i d hd
     refine ⟨_, h, fun E ok w a o ho hq => ?_⟩
     obtain ⟨cs, he, hl, hc, hr⟩ := rep_agg (repD_v (hx ▸ hq.opr x (by simp [Op.operands])))
     obtain ⟨hlt, rfl⟩ := look?_some hd
     refine does_v (s := Instr.field t (a.eval x) f) (v := cs[fld.offset]'(by omega)) (by simp only [execOp, ho]) ?_ (.v _ _ (hr _ hlt (by omega)))
     rw [he]
     simp [Instr.field, run_underlying hu, hfl', asAgg]
     exact run_part_cell hT hkn' ha (by simp [show fld.offset < cs.length from by omega])
    ·exact h.elim
 ·exact h.elim
theorem q_fieldAddr (ob : List (Nat × AObj)) (ρ : Operand → D) (t : TypeId) (x : Operand) (f : Nat) (K : D → Prop) (h : qWp (std P R) ob ρ (.fieldAddr t x f) K) : ∃ d, K d ∧ Comes' P ob ρ (.fieldAddr t x f) d := by
 unfold qWp at h
 simp only at h
 split at h
 ·rename_i off ft hf
  obtain ⟨fs, hk, hff⟩ := fieldOf_some hf
  obtain ⟨fields, hu, rfl⟩ := ty_struct hT hk
  simp only [List.getElem?_map, Option.map_eq_some_iff] at hff
  obtain ⟨fld, hfl, he⟩ := hff
  simp only [Prod.mk.injEq] at he
  obtain ⟨rfl, rfl⟩ := he
  have hfl' : fields[f]? = some fld := by simpa using hfl
  split at h
  ·exact h.elim
  ·rename_i hkn
   split at h
   ·exact h.elim
   ·rename_i hsz
    have run : ∀ (b o : Nat) (w : World), (Instr.fieldAt t (.pointer (some ⟨b, o, none⟩)) f).run P w = .ok (.pointer (some ⟨b, o + fld.offset, none⟩)) w := by
     intro b o w
     simp [Instr.fieldAt, run_underlying hu, hfl', Instr.sureAddr, fieldPlace, ty_size hT (known_ne hkn), hsz, add_plain]
    split at h
    ·rename_i id o hx
     refine ⟨_, h, fun E ok w a op ho hq => ?_⟩
     obtain ⟨b, hb, he⟩ := repD_ptr (hx ▸ hq.opr x (by simp [Op.operands]))
     exact does_v (s := Instr.fieldAt t (a.eval x) f) (by simp only [execOp, ho]) (by rw [he]; exact run _ _ _) (.ptr _ _ b hb)
    ·rename_i id z i o hx
     refine ⟨_, h, fun E ok w a op ho hq => ?_⟩
     obtain ⟨b, hb, hi, he⟩ := repD_rptr (hx ▸ hq.opr x (by simp [Op.operands]))
     exact does_v (s := Instr.fieldAt t (a.eval x) f) (by simp only [execOp, ho]) (by rw [he, run, Nat.add_assoc]) (.rptr _ _ _ _ b hb hi)
    ·rename_i l hx
     refine ⟨_, h, fun E ok w a op ho hq => ?_⟩
     obtain ⟨b, off, he, hc⟩ := rep_ref (repD_v (hx ▸ hq.opr x (by simp [Op.operands])))
     refine does_v (s := Instr.fieldAt t (a.eval x) f) (by simp only [execOp, ho]) (by rw [he]; exact run _ _ _) (.v _ _ (.ref _ b (off + fld.offset) (fun j => (w.cell? ⟨b, off + fld.offset + j, none⟩).getD undef) (fun j hj => ?_) (fun j hj => ?_) (fun j hj => ?_)))
     ·simp at hj
      obtain ⟨q1, q2, u, q3, q4⟩ := hc (fld.offset + j) (by omega)
      rw [← Nat.add_assoc] at q1 q3
      exact ⟨q1, by rw [q3]; rfl⟩
     ·simp only [List.getElem_drop]; exact (hc _ (by simp at hj; omega)).2.1
     ·simp at hj
      obtain ⟨q1, q2, u, q3, q4⟩ := hc (fld.offset + j) (by omega)
      rw [← Nat.add_assoc] at q3
      simp only [List.getElem_drop, q3, Option.getD_some]; exact q4
    ·rename_i id o hx
     refine ⟨_, h, fun E ok w a op ho hq => ?_⟩
     obtain ⟨b, hn, hb, he⟩ := rep_gp (repD_v (hx ▸ hq.opr x (by simp [Op.operands])))
     exact does_v (s := Instr.fieldAt t (a.eval x) f) (by simp only [execOp, ho]) (by rw [he]; exact run _ _ _) (.v _ _ (.gp _ _ b hn hb))
    ·rename_i id z i o hx
     refine ⟨_, h, fun E ok w a op ho hq => ?_⟩
     obtain ⟨b, hn, hb, hi, he⟩ := rep_ge (repD_v (hx ▸ hq.opr x (by simp [Op.operands])))
     exact does_v (s := Instr.fieldAt t (a.eval x) f) (by simp only [execOp, ho]) (by rw [he, run, Nat.add_assoc]) (.v _ _ (.ge _ _ _ _ b hn hb hi))
    ·exact h.elim
 ·exact h.elim
theorem q_indexAddr (ob : List (Nat × AObj)) (ρ : Operand → D) (t : TypeId) (x i : Operand) (K : D → Prop) (h : qWp (std P R) ob ρ (.indexAddr t x i) K) : ∃ d, K d ∧ Comes' P ob ρ (.indexAddr t x i) d := by
 unfold qWp at h
 simp only at h
 split at h
 ·rename_i n hn
  obtain ⟨k, hi⟩ := intOfD_some hn
  split at h
  ·rename_i e hk
   have hu := ty_slice hT hk
   split at h
   ·exact h.elim
   ·rename_i hkn
    have run : ∀ (b o m c : Nat) (w : World), 0 ≤ n → n < m → (Instr.indexAt t (.slice (some ⟨b, o, none⟩) m c) (.int k n)).run P w = .ok (.pointer (some ⟨b, o + n.toNat * (tyOf e).size, none⟩)) w := by
     intro b o m c w h0 h1
     simp [Instr.indexAt, asIntOf, run_underlying hu, ty_size hT (known_ne hkn), h0, h1, add_plain]
    split at h
    ·rename_i l hx
     obtain ⟨y, hK, h0, hy, hag⟩ := elemRef_sound h
     refine ⟨_, hK, fun E ok w a op ho hq => ?_⟩
     have e2 : a.eval i = .int k n := repD_int (hi ▸ hq.opr i (by simp [Op.operands]))
     obtain ⟨ad, c, e1, _, _, z, hz, hcell, hp⟩ := slice_row (repD_v (hx ▸ hq.opr x (by simp [Op.operands])))
     obtain ⟨hlt, hy'⟩ := List.getElem?_eq_some_iff.1 hy
     obtain ⟨b, off, rfl, hrow, hok⟩ := hp (by omega)
     obtain ⟨q1, q2, q3⟩ := hrow.elem h0 hy
     refine does_v (s := Instr.indexAt t (a.eval x) (a.eval i)) (by simp only [execOp, ho]) (by rw [e1, e2]; exact run _ _ _ _ _ h0 (by omega)) (.v _ _ (.ref _ b (off + n.toNat * (tyOf e).size) (fun j => (w.cell? ⟨b, off + n.toNat * (tyOf e).size + j, none⟩).getD undef) (fun j hj => ?_) q2 (fun j hj => ?_)))
     ·obtain ⟨u, hu, _⟩ := q3 j hj
      have hle : n.toNat * z + z ≤ l.length * z := by rw [← Nat.succ_mul]; exact Nat.mul_le_mul_right _ hlt
      have hz' : (tyOf e).size = z := by omega
      rw [hz', Nat.add_assoc]
      exact ⟨hok _ (by omega), by rw [hu]; rfl⟩
     ·obtain ⟨u, hu, hr⟩ := q3 j hj
      have hz' : (tyOf e).size = z := by omega
      rw [hz', Nat.add_assoc, hu]
      exact hr
    ·rename_i id hx
     split at h
     ·rename_i z l ex hrow
      split at h
      ·rename_i hz
       obtain ⟨⟨h0, h1⟩, hK⟩ := h
       refine ⟨_, hK, fun E ok w a op ho hq => ?_⟩
       have e2 : a.eval i = .int k n := repD_int (hi ▸ hq.opr i (by simp [Op.operands]))
       have e1 := repD_own (hx ▸ hq.opr x (by simp [Op.operands]))
       rcases hq.obj _ _ (rowOf_some hrow) with ⟨rfl, _, _⟩ | ⟨b, cap, cs, e', g1, g2, g3, g4, g5, g6, g7, g8⟩
       ·simp at h1; omega
       ·refine does_v (s := Instr.indexAt t (a.eval x) (a.eval i)) (by simp only [execOp, ho]) (by rw [e1, e2, g2]; exact run _ _ _ _ _ h0 h1) ?_
        have := RepD.rptr (E := E) (ok := ok) (w := w) id z n 0 b g1 h0
        simpa [hz] using this
      ·exact h.elim
     ·exact h.elim
    ·exact h.elim
  ·rename_i m e hk
   have hu := ty_arr hT hk
   split at h
   ·exact h.elim
   ·rename_i hkn
    split at h
    ·rename_i id hx
     split at h
     ·rename_i z l ex hrow
      split at h
      ·rename_i hz
       obtain ⟨⟨h0, h1⟩, ⟨_, h2⟩, hK⟩ := h
       simp at h2
       refine ⟨_, hK, fun E ok w a op ho hq => ?_⟩
       have e2 : a.eval i = .int k n := repD_int (hi ▸ hq.opr i (by simp [Op.operands]))
       obtain ⟨b, hb, e1⟩ := repD_ptr (hx ▸ hq.opr x (by simp [Op.operands]))
       refine does_v (s := Instr.indexAt t (a.eval x) (a.eval i)) (v := .pointer (some ⟨b, n.toNat * z, none⟩)) (by simp only [execOp, ho]) ?_ ?_
       ·rw [e1, e2]
        simp [Instr.indexAt, asIntOf, run_underlying hu, Instr.sureAddr, ty_size hT (known_ne hkn), h0, h2, add_plain, hz]
       ·have := RepD.rptr (E := E) (ok := ok) (w := w) id z n 0 b hb h0
        simpa [hz] using this
      ·exact h.elim
     ·exact h.elim
    ·exact h.elim
  ·exact h.elim
 ·exact h.elim
end
open Go Go.RowKit
def okAdd (ok : Oks) (b n : Nat) : Oks := { ok with ok := fun b' o => ok b' o ∨ (b' = b ∧ o < n) }
theorem Grow.alloc (w : World) (ok : Oks) (ob : Obj) (n : Nat) : Grow w ok (w.alloc ob) (okAdd ok w.heap.size n) :=
 ⟨(Below.refl _ w).alloc (Nat.le_refl _) ob, fun _ _ h => .inl h, fun b o h => by
  rcases h with h | ⟨rfl, _⟩
  ·exact .inl h
  ·exact .inr ⟨Nat.le_refl _, by simp⟩, ⟨rfl, rfl, rfl⟩⟩
theorem constD1_rep (E : Env) (ok : Oks) (w : World) (v : Value) : RepD E ok w (constD1 v) v := by
 unfold constD1
 split
 ·exact .lit _
 ·exact .v _ _ (.int _ _)
 ·rename_i s
  have h := Rep.str (ok := ok) (w := w) s.data.toList
  simp at h
  exact .v _ _ h
 ·exact .nils
 ·exact .v _ _ .nilp
 ·exact .v _ _ .nilfn
 ·exact .v _ _ .nilif
 ·exact .v _ _ .nilmap
 ·rename_i f first cap
  split
  ·rename_i h1 h2
   have e1 : first = #[] := by apply Array.ext'; simpa using h1
   have e2 : cap = #[] := by apply Array.ext'; simpa using h2
   subst e1; subst e2
   exact RepD.fn (E := E) (ok := ok) (w := w) f [] [] rfl (by simp)
  ·exact .any _
 ·exact .any _
theorem constD_rep (E : Env) (ok : Oks) (w : World) (v : Value) : RepD E ok w (constD v) v := by
 unfold constD
 split
 ·rename_i cs
  split
  ·rename_i h
   have := RepD.agg (E := E) (ok := ok) (w := w) (cs.toList.map constD1) cs.toList (by simp) (List.all_eq_true.1 h) (by
    intro i h1 h2
    simp only [List.getElem_map]
    exact constD1_rep _ _ _ _)
   simpa using this
  ·exact .any _
 ·exact constD1_rep _ _ _ _
theorem getElem?_mk (s : List UInt8) (i : Nat) : (ByteArray.mk s.toArray)[i]? = s[i]? := by
 by_cases h : i < s.length
 ·rw [getElem?_pos (ByteArray.mk s.toArray) i (by rw [size_mk]; exact h), getElem?_pos s i h]
  rfl
 ·rw [getElem?_neg (ByteArray.mk s.toArray) i (by rw [size_mk]; exact h), getElem?_neg s i h]
theorem extract_mk (s : List UInt8) (l h : Nat) : (ByteArray.mk s.toArray).extract l h = ⟨((s.take h).drop l).toArray⟩ := by
 apply ByteArray.ext
 apply Array.ext'
 simp [List.extract, List.drop_take]
theorem boundsD_sound {lo hi : Option D} {len : Int} {K : Int → Int → Prop} (h : boundsD lo hi len K) : ∃ l m, K l m ∧ ((lo = none ∧ l = 0) ∨ ∃ k, lo = some (.v (.int k l))) ∧ ((hi = none ∧ m = len) ∨ ∃ k, hi = some (.v (.int k m))) := by
 unfold boundsD at h
 split at h
 ·split at h
  ·exact ⟨_, _, h, .inl ⟨rfl, rfl⟩, .inl ⟨rfl, rfl⟩⟩
  ·split at h
   ·rename_i hn
    obtain ⟨k, rfl⟩ := intOfD_some hn
    exact ⟨_, _, h, .inl ⟨rfl, rfl⟩, .inr ⟨k, rfl⟩⟩
   ·exact h.elim
 ·split at h
  ·rename_i hl
   obtain ⟨k, rfl⟩ := intOfD_some hl
   split at h
   ·exact ⟨_, _, h, .inr ⟨k, rfl⟩, .inl ⟨rfl, rfl⟩⟩
   ·split at h
    ·rename_i hn
     obtain ⟨k', rfl⟩ := intOfD_some hn
     exact ⟨_, _, h, .inr ⟨k, rfl⟩, .inr ⟨k', rfl⟩⟩
    ·exact h.elim
  ·exact h.elim
theorem run_bound (P : Program) (w : World) (k : IntKind) (i : Int) (y : Nat) (c : BoundsCode) (h0 : 0 ≤ i) (h1 : i ≤ y) : (Instr.sliceBound (.int k i) y c).run P w = .ok i.toNat w := by
 simp [Instr.sliceBound, asIntOf, h0, h1]
theorem run_bounds (P : Program) (w : World) (isSlice : Bool) (len cap : Nat) (lo hi : Option Value) (l m : Int) (hl : (lo = none ∧ l = 0) ∨ ∃ k, lo = some (.int k l)) (hm : (hi = none ∧ m = len) ∨ ∃ k, hi = some (.int k m)) (h0 : 0 ≤ l) (h1 : l ≤ m) (h2 : m ≤ cap) :
  (Instr.sliceBounds isSlice len cap lo hi none).run P w = .ok (l.toNat, m.toNat, cap) w := by
 have b2 : ∀ k c, (Instr.sliceBound (.int k m) cap c).run P w = .ok m.toNat w := fun k c => run_bound P w k m cap c (by omega) h2
 have b1 : ∀ k c, (Instr.sliceBound (.int k l) m.toNat c).run P w = .ok l.toNat w := fun k c => run_bound P w k l _ c h0 (by omega)
 rcases hm with ⟨rfl, rfl⟩ | ⟨k, rfl⟩ <;> rcases hl with ⟨rfl, rfl⟩ | ⟨k', rfl⟩
 ·simp [Instr.sliceBounds]
 ·have b3 := b1 k'
  simp at b3
  simp [Instr.sliceBounds, b3]
 ·simp [Instr.sliceBounds, b2]
 ·simp [Instr.sliceBounds, b2, b1]
theorem slice_rep {ok : Oks} {w : World} {s : List V} {u : Value} {l m : Int} (h : Rep ok w (.slice s) u) (h0 : 0 ≤ l) (h1 : l ≤ m) (h2 : m ≤ s.length) {e : Nat} (hz : ∀ x ∈ s, x.flat.length = (tyOf e).size) :
  ∃ a c, u = .slice a s.length c ∧ s.length ≤ c ∧ Rep ok w (.slice ((s.take m.toNat).drop l.toNat)) (.slice (if c = l.toNat then a else a.map (·.add (l.toNat * (tyOf e).size))) (m.toNat - l.toNat) (c - l.toNat)) := by
 obtain ⟨a, c, rfl, hc, hm, z, hz', hcell, hp⟩ := slice_row h
 refine ⟨a, c, rfl, hc, ?_⟩
 have hlen : ((s.take m.toNat).drop l.toNat).length = m.toNat - l.toNat := by simp; omega
 rw [← hlen]
 by_cases hpos : 0 < ((s.take m.toNat).drop l.toNat).length
 ·obtain ⟨b, off, rfl, hrow, hok⟩ := hp (by omega)
  have hzz : (tyOf e).size = z := by
   have h3 := hz' 0 (by omega)
   have h4 := hz (s[0]'(by omega)) (List.getElem_mem _)
   omega
  have hne : ¬ c = l.toNat := by omega
  rw [if_neg hne]
  simp only [Option.map_some, add_plain]
  have key : RowAt ok w b (off + l.toNat * (tyOf e).size) z ((s.take m.toNat).drop l.toNat) := by
   refine ⟨fun i hi => ?_, fun i hi j hj => ?_, fun i hi j hj => ?_⟩
   ·simp only [List.getElem_drop, List.getElem_take]; exact hz' _ _
   ·simp only [List.getElem_drop, List.getElem_take]; exact hcell _ _ _ _
   ·have hi' : l.toNat + i < s.length := by omega
    have hj' : j < (s[l.toNat + i]'hi').flat.length := by simpa [List.getElem_drop, List.getElem_take] using hj
    obtain ⟨u, hu, hr⟩ := hrow.hr (l.toNat + i) hi' j hj'
    refine ⟨u, ?_, by simpa only [List.getElem_drop, List.getElem_take] using hr⟩
    rw [hzz, ← hu]
    congr 2
    rw [Nat.add_mul]; omega
  refine rep_row key (fun j hj => ?_) (by omega) (by omega)
  rw [hzz, Nat.add_assoc]
  refine hok _ ?_
  have : (l.toNat + ((s.take m.toNat).drop l.toNat).length) * z ≤ s.length * z := Nat.mul_le_mul_right _ (by omega)
  rw [Nat.add_mul] at this
  omega
 ·have hnil : (s.take m.toNat).drop l.toNat = [] := List.eq_nil_of_length_eq_zero (by omega)
  rw [hnil]
  exact .slice [] _ _ 0 (fun _ _ => undef) (by simp) (by omega) (by simp) (by simp) (by simp) (by simp)
section
variable {P : Program} {R : List (Nat × AObj) → List D → Prop} (hT : tableOf P = T)
theorem q_extract (ob : List (Nat × AObj)) (ρ : Operand → D) (x : Operand) (i : Nat) (K : D → Prop) (h : qWp (std P R) ob ρ (.extract x i) K) : ∃ d, K d ∧ Comes' P ob ρ (.extract x i) d := by
 unfold qWp at h
 simp only at h
 split at h
 ·rename_i l hx
  split at h
  ·rename_i d hd
   obtain ⟨hlt, rfl⟩ := look?_some hd
   refine ⟨_, h, fun E ok w a o ho hq => ?_⟩
   obtain ⟨cs, he, hl, hr⟩ := repD_tup (hx ▸ hq.opr x (by simp [Op.operands]))
   exact does_v (s := Instr.extract (a.eval x) i) (v := cs[i]'(by omega)) (by simp only [execOp, ho]) (by rw [he]; simp [Instr.extract, show i < cs.length from by omega]) (hr i hlt (by omega))
  ·exact h.elim
 ·rename_i l hx
  split at h
  ·rename_i d hd
   obtain ⟨hlt, rfl⟩ := look?_some hd
   refine ⟨_, h, fun E ok w a o ho hq => ?_⟩
   obtain ⟨cs, he, hl, hr⟩ := rep_tup (repD_v (hx ▸ hq.opr x (by simp [Op.operands])))
   exact does_v (s := Instr.extract (a.eval x) i) (v := cs[i]'(by omega)) (by simp only [execOp, ho]) (by rw [he]; simp [Instr.extract, show i < cs.length from by omega]) (.v _ _ (hr i hlt (by omega)))
  ·exact h.elim
 ·exact h.elim
theorem q_makeFunc (ob : List (Nat × AObj)) (ρ : Operand → D) (fn : Fn) (first cap : Array Operand) (K : D → Prop) (h : qWp (std P R) ob ρ (.makeFunc fn first cap) K) : ∃ d, K d ∧ Comes' P ob ρ (.makeFunc fn first cap) d := by
 unfold qWp at h
 simp only at h
 split at h
 ·rename_i f hf
  have e1 : first = #[] := by apply Array.ext'; simpa using hf
  subst e1
  refine ⟨_, h, fun E ok w a o ho hq => ?_⟩
  have := RepD.fn (E := E) (ok := ok) (w := w) f (cap.toList.map ρ) (cap.toList.map a.eval) (by simp) (by
   intro i h1 h2
   simp only [List.getElem_map]
   exact hq.opr _ (by simp [Op.operands]))
  exact does_v (s := Instr.makeFunc (.func f) (#[].map a.eval) (cap.map a.eval)) (v := .func (.func f) #[] (cap.map a.eval)) (by simp only [execOp, ho]) (by simp [Instr.makeFunc]) (by
   have e : cap.map a.eval = (cap.toList.map a.eval).toArray := by apply Array.ext'; simp
   rw [e]; exact this)
 ·rename_i f y r hf
  split at h
  ·rename_i hc
   have e1 : cap = #[] := by apply Array.ext'; simpa using hc
   subst e1
   split at h
   ·rename_i l hl
    refine ⟨_, h, fun E ok w a o ho hq => ?_⟩
    have hl' : toVs ob (first.toList.map ρ) = some l := by rw [hf]; exact hl
    obtain ⟨h1, h2⟩ := toVs_sound (E := E) (ok := ok) (w := w) hq.obj (first.toList.map ρ) l (first.toList.map a.eval) hl' (by simp) (fun i hi hi' => by
     simp only [List.getElem_map]
     exact hq.opr _ (by simp [Op.operands]))
    have := Rep.mth (ok := ok) (w := w) f l (first.toList.map a.eval) (by simpa using h1.symm) (fun i hi hi' => h2 i hi hi')
    exact does_v (s := Instr.makeFunc (.func f) (first.map a.eval) (#[].map a.eval)) (v := .func (.func f) (first.map a.eval) #[]) (by simp only [execOp, ho]) (by simp [Instr.makeFunc]) (by
     have e : first.map a.eval = (first.toList.map a.eval).toArray := by apply Array.ext'; simp
     rw [e]; exact .v _ _ this)
   ·exact h.elim
  ·exact h.elim
 ·exact h.elim
theorem q_unOp (ob : List (Nat × AObj)) (ρ : Operand → D) (op : UnOp) (t : TypeId) (x : Operand) (K : D → Prop) (h : qWp (std P R) ob ρ (.unOp op t x) K) : ∃ d, K d ∧ Comes' P ob ρ (.unOp op t x) d := by
 unfold qWp at h
 simp only at h
 split at h
 ·split at h
  ·rename_i b hx
   refine ⟨_, h, fun E ok w a o ho hq => ?_⟩
   have he := repD_lit (hx ▸ hq.opr x (by simp [Op.operands]))
   exact does_v (s := Op.unary .not (a.eval x)) (v := .bool !b) (by simp only [execOp, ho]) (by rw [he]; simp [Op.unary]) (.lit _)
  ·rename_i b hx
   refine ⟨_, h, fun E ok w a o ho hq => ?_⟩
   have he := repD_bool (hx ▸ hq.opr x (by simp [Op.operands]))
   exact does_v (s := Op.unary .not (a.eval x)) (v := .bool !b) (by simp only [execOp, ho]) (by rw [he]; simp [Op.unary]) (.v _ _ (.bool _))
  ·exact h.elim
 ·rename_i k n hx
  refine ⟨_, h, fun E ok w a o ho hq => ?_⟩
  have he := repD_int (hx ▸ hq.opr x (by simp [Op.operands]))
  exact does_v (s := Op.unary .xor (a.eval x)) (v := .int k (Go.bits .xor k (if k.signed then -1 else k.max) n)) (by simp only [execOp, ho]) (by rw [he]; simp only [Op.unary]; exact run_bits P .xor k _ _ w (by simp)) (.v _ _ (.int _ _))
 ·rename_i k n hx
  refine ⟨_, h, fun E ok w a o ho hq => ?_⟩
  have he := repD_int (hx ▸ hq.opr x (by simp [Op.operands]))
  exact does_v (s := Op.unary .neg (a.eval x)) (v := .int k (k.wrap (0 - n))) (by simp only [execOp, ho]) (by rw [he]; simp [Op.unary, Op.intArith]) (.v _ _ (.int _ _))
 ·exact h.elim
include hT
theorem q_index (ob : List (Nat × AObj)) (ρ : Operand → D) (t : TypeId) (x i : Operand) (K : D → Prop) (h : qWp (std P R) ob ρ (.index t x i) K) : ∃ d, K d ∧ Comes' P ob ρ (.index t x i) d := by
 unfold qWp at h
 simp only at h
 split at h
 ·rename_i n hn
  obtain ⟨k, hi⟩ := intOfD_some hn
  split at h
  ·rename_i s hk hx
   have hu := ty_str hT hk
   obtain ⟨b, ⟨h0, hb⟩, h⟩ := h
   refine ⟨_, h, fun E ok w a o ho hq => ?_⟩
   have e1 := repD_str (hx ▸ hq.opr x (by simp [Op.operands]))
   have e2 : a.eval i = .int k n := repD_int (hi ▸ hq.opr i (by simp [Op.operands]))
   refine does_v (s := Instr.index t (a.eval x) (a.eval i)) (v := .int .u8 b.toNat) (by simp only [execOp, ho]) ?_ (.v _ _ (.int _ _))
   rw [e1, e2]
   simp [Instr.index, asIntOf, run_underlying hu, h0, getElem?_mk, hb]
  ·rename_i m e l hk hx
   have hu := ty_arr hT hk
   split at h
   ·rename_i k' hk'
    split at h
    ·rename_i hsz
     obtain ⟨⟨h0, h1⟩, r, ⟨_, hr⟩, h⟩ := h
     simp at h1
     refine ⟨_, h, fun E ok w a o ho hq => ?_⟩
     obtain ⟨cs, e1, hl, hc, hrep⟩ := rep_agg (repD_v (hx ▸ hq.opr x (by simp [Op.operands])))
     have e2 : a.eval i = .int k n := repD_int (hi ▸ hq.opr i (by simp [Op.operands]))
     obtain ⟨hlt, hr'⟩ := List.getElem?_eq_some_iff.1 hr
     have hcell := hrep n.toNat hlt (by omega)
     rw [hr'] at hcell
     refine does_v (s := Instr.index t (a.eval x) (a.eval i)) (v := .int k' r) (by simp only [execOp, ho]) ?_ (.v _ _ (.int _ _))
     rw [e1, e2]
     have hpart := run_part_cell (P := P) hT (ft := e) (off := n.toNat * (tyOf e).size) (w := w) (cs := cs) (u := .int k' r) (by rw [hk']; rfl) (by rw [hk']; rfl) (by rw [hsz, Nat.mul_one, List.getElem?_eq_getElem (show n.toNat < cs.length from by omega), rep_int hcell])
     simp [Instr.index, asIntOf, run_underlying hu, h0, h1, ty_size hT (t := e) (by rw [hk']; simp), hpart]
    ·exact h.elim
   ·exact h.elim
  ·exact h.elim
 ·exact h.elim
theorem q_slice (ob : List (Nat × AObj)) (ρ : Operand → D) (t : TypeId) (x : Operand) (lo hi mx : Option Operand) (K : D → Prop) (h : qWp (std P R) ob ρ (.slice t x lo hi mx) K) : ∃ d, K d ∧ Comes' P ob ρ (.slice t x lo hi mx) d := by
 unfold qWp at h
 simp only at h
 unfold sliceD at h
 split at h
 ·exact h.elim
 ·rename_i hmx
  have hmx' : mx = none := by cases mx <;> simp at hmx; rfl
  subst hmx'
  have vals : ∀ (E : Env) (ok : Oks) (w : World) (a : Act), QH E ok w a ob ρ (.slice t x lo hi none) → ∀ l m len : Int, ((lo.map ρ = none ∧ l = 0) ∨ ∃ k, lo.map ρ = some (.v (.int k l))) → ((hi.map ρ = none ∧ m = len) ∨ ∃ k, hi.map ρ = some (.v (.int k m))) →
    ((lo.map a.eval = none ∧ l = 0) ∨ ∃ k, lo.map a.eval = some (.int k l)) ∧ ((hi.map a.eval = none ∧ m = len) ∨ ∃ k, hi.map a.eval = some (.int k m)) := by
   intro E ok w a hq l m len h1 h2
   constructor
   ·rcases h1 with ⟨h1, h1'⟩ | ⟨k, h1⟩
    ·exact .inl ⟨by cases lo <;> simp at h1 ⊢, h1'⟩
    ·cases lo with
     | none => simp at h1
     | some y =>
      simp at h1
      exact .inr ⟨k, by simp [repD_int (h1 ▸ hq.opr y (by simp [Op.operands]))]⟩
   ·rcases h2 with ⟨h2, h2'⟩ | ⟨k, h2⟩
    ·exact .inl ⟨by cases hi <;> simp at h2 ⊢, h2'⟩
    ·cases hi with
     | none => simp at h2
     | some y =>
      simp at h2
      exact .inr ⟨k, by simp [repD_int (h2 ▸ hq.opr y (by simp [Op.operands]))]⟩
  have sl : ∀ (e : Nat) (s : List V) (l m : Int), (tyOf t).k = .slice e → known (tyOf e).k = true → ((lo.map ρ = none ∧ l = 0) ∨ ∃ k, lo.map ρ = some (.v (.int k l))) → ((hi.map ρ = none ∧ m = s.length) ∨ ∃ k, hi.map ρ = some (.v (.int k m))) → 0 ≤ l → l ≤ m → m ≤ s.length → (∀ x ∈ s, x.flat.length = (tyOf e).size) →
    (∀ (E : Env) (ok : Oks) (w : World) (a : Act), QH E ok w a ob ρ (.slice t x lo hi none) → Rep ok w (.slice s) (a.eval x)) → Comes' P ob ρ (.slice t x lo hi none) (.v (.slice ((s.take m.toNat).drop l.toNat))) := by
   intro e s l m hk hkn h1 h2 h3 h4 h5 hz hrep E ok w a o ho hq
   obtain ⟨v1, v2⟩ := vals E ok w a hq l m s.length h1 h2
   obtain ⟨ad, c, he, hc, hr⟩ := slice_rep (hrep E ok w a hq) h3 h4 h5 hz
   have hu := ty_slice hT hk
   refine does_v (s := Instr.sliceAt t (a.eval x) (lo.map a.eval) (hi.map a.eval) (Option.none.map a.eval)) (v := .slice (if c = l.toNat then ad else ad.map (·.add (l.toNat * (tyOf e).size))) (m.toNat - l.toNat) (c - l.toNat)) (by simp only [execOp, ho]) ?_ (.v _ _ hr)
   rw [he]
   have hb := run_bounds P w true s.length c (lo.map a.eval) (hi.map a.eval) l m v1 v2 h3 h4 (by omega)
   simp [Instr.sliceAt, Instr.slice, run_underlying hu, hb, ty_size hT (known_ne' hkn)]
  split at h
  ·rename_i s hx
   split at h
   ·rename_i hk
    have hu := ty_str hT hk
    obtain ⟨l, m, ⟨⟨h0, h1, h2⟩, h⟩, hl, hm⟩ := boundsD_sound h
    refine ⟨_, h, fun E ok w a o ho hq => ?_⟩
    obtain ⟨v1, v2⟩ := vals E ok w a hq l m s.length hl (by simpa [std] using hm)
    have e1 := repD_str (hx ▸ hq.opr x (by simp [Op.operands]))
    refine does_v (s := Instr.sliceAt t (a.eval x) (lo.map a.eval) (hi.map a.eval) (Option.none.map a.eval)) (v := .string ⟨((s.take m.toNat).drop l.toNat).toArray⟩) (by simp only [execOp, ho]) ?_ (.v _ _ (.str _))
    rw [e1]
    have hb := run_bounds P w false s.length s.length (lo.map a.eval) (hi.map a.eval) l m v1 v2 h0 h1 h2
    simp [Instr.sliceAt, Instr.slice, run_underlying hu, hb, size_mk, extract_mk]
   ·exact h.elim
  ·rename_i s hx
   split at h
   ·rename_i e hk
    split at h
    ·rename_i hkn
     obtain ⟨hz, h⟩ := h
     obtain ⟨l, m, ⟨⟨h0, h1, h2⟩, h⟩, hl, hm⟩ := boundsD_sound h
     exact ⟨_, h, sl e s l m hk hkn hl (by simpa [std] using hm) h0 h1 h2 hz fun E ok w a hq => repD_v (hx ▸ hq.opr x (by simp [Op.operands]))⟩
    ·exact h.elim
   ·exact h.elim
  ·rename_i hx
   split at h
   ·rename_i e hk
    split at h
    ·rename_i hkn
     obtain ⟨l, m, ⟨⟨h0, h1, h2⟩, h⟩, hl, hm⟩ := boundsD_sound h
     exact ⟨_, h, sl e [] l m hk hkn hl (by simpa using hm) h0 h1 h2 (by simp) fun E ok w a hq => by
      have he : a.eval x = .slice none 0 0 := repD_nils (hx ▸ hq.opr x (by simp [Op.operands]))
      rw [he]; exact rep_nil_slice _ _⟩
    ·exact h.elim
   ·exact h.elim
  ·rename_i id hx
   split at h
   ·rename_i e hk
    split at h
    ·rename_i hkn
     split at h
     ·rename_i z s ex hob
      split at h
      ·obtain ⟨hz, h⟩ := h
       obtain ⟨l, m, ⟨⟨h0, h1, h2⟩, h⟩, hl, hm⟩ := boundsD_sound h
       refine ⟨_, h, sl e s l m hk hkn hl (by simpa [std] using hm) h0 h1 h2 hz fun E ok w a hq => ?_⟩
       exact toV_sound hq.obj (.own id) _ _ (by simp [toV, hob]) (hx ▸ hq.opr x (by simp [Op.operands]))
      ·exact h.elim
     ·exact h.elim
    ·exact h.elim
   ·exact h.elim
  ·exact h.elim
end
end Go.Proofs.YthioccbgjkbmdaaGreat.AM
