/-
  The abstract machine, part 9: each quiet operation, III.
-/
import Derived.Test.YtinckcpmkocakaaAmQ4
set_option linter.unusedVariables false
set_option linter.unusedSimpArgs false
namespace Go.Proofs.Ytinckcpmkocakaa.AM
open Go Go.RowKit

theorem known_ne {k : TK} (h : ¬ known k = false) : k ≠ .other := by intro e; rw [e] at h; simp [known] at h
theorem known_ne' {k : TK} (h : known k = true) : k ≠ .other := by intro e; rw [e] at h; simp [known] at h
theorem fieldOf_some {t f off ft : Nat} (h : fieldOf (tyOf t) f = some (off, ft)) : ∃ fs, (tyOf t).k = .struct fs ∧ fs[f]? = some (off, ft) := by
  unfold fieldOf at h
  split at h
  · rename_i fs hk; exact ⟨fs, hk, by rw [← look?_eq]; exact h⟩
  · simp at h
theorem asIntOf_int (P : Program) (w : World) (k : IntKind) (n : Int) : (asIntOf (.int k n)).run P w = .ok (k, n) w := rfl
theorem elemRef_sound {P : Program} {R : List (Nat × AObj) → List D → Prop} {td : TD} {l : List V} {i : Int} {K : D → Prop} (h : elemRef (std P R) td l i K) :
    ∃ x, K (.v (.ref x.flat)) ∧ 0 ≤ i ∧ l[i.toNat]? = some x ∧ x.flat.length = td.size := by
  unfold elemRef at h
  split at h
  · rename_i k hk
    split at h
    · rename_i hs
      obtain ⟨n, ⟨h0, h1⟩, h2⟩ := h
      exact ⟨.int k n, h2, h0, h1, by rw [hs]; rfl⟩
    · exact h.elim
  · obtain ⟨cs, ⟨h0, h1, h2⟩, h3⟩ := h
    exact ⟨.agg cs, h3, h0, h1, h2⟩
  · obtain ⟨cs, ⟨h0, h1, h2⟩, h3⟩ := h
    exact ⟨.agg cs, h3, h0, h1, h2⟩
  · split at h
    · rename_i hs
      obtain ⟨x, ⟨h0, hx, hc⟩, hK⟩ := h
      exact ⟨x, by rw [cell_flat hc]; exact hK, h0, hx, by rw [hs, cell_flat hc]; rfl⟩
    · exact h.elim
theorem getD_of {α : Type} {l : List α} {i : Nat} {x d : α} (h : l[i]? = some x) : l.getD i d = x := by simp [List.getD, h]

section
variable {P : Program} {R : List (Nat × AObj) → List D → Prop} (hT : tableOf P = T)
include hT

theorem run_part_cell {ft off : Nat} {w : World} {cs : List Value} {u : Value} (hk : known (tyOf ft).k = true) (ha : isAggT (tyOf ft).k = false) (hu : cs[off]? = some u) : (part ft cs.toArray off).run P w = .ok u w := by
  simp [part, ty_isAgg hT (known_ne' hk), ha, hu]
theorem run_part_agg {ft off : Nat} {w : World} {cs : List Value} (hk : known (tyOf ft).k = true) (ha : isAggT (tyOf ft).k = true) : (part ft cs.toArray off).run P w = .ok (.agg ((cs.drop off).take (tyOf ft).size).toArray) w := by
  simp only [part, Sem.run_bind, ty_isAgg hT (known_ne' hk), ha, Result.andThen_ok, if_true, ty_size hT (known_ne' hk), Sem.run_pure]
  congr 2
  apply Array.ext'
  simp

theorem q_field (ob : List (Nat × AObj)) (ρ : Operand → D) (t : TypeId) (x : Operand) (f : Nat) (K : D → Prop) (h : qWp (std P R) ob ρ (.field t x f) K) : ∃ d, K d ∧ Comes' P ob ρ (.field t x f) d := by
  unfold qWp at h
  simp only at h
  split at h
  · rename_i l off ft hx hf
    obtain ⟨fs, hk, hff⟩ := fieldOf_some hf
    obtain ⟨fields, hu, rfl⟩ := ty_struct hT hk
    simp only [List.getElem?_map, Option.map_eq_some_iff] at hff
    obtain ⟨fld, hfl, he⟩ := hff
    simp only [Prod.mk.injEq] at he
    obtain ⟨rfl, rfl⟩ := he
    have hfl' : fields[f]? = some fld := by simpa using hfl
    split at h
    · exact h.elim
    · rename_i hkn
      have hkn' : known (tyOf fld.type).k = true := by simpa using hkn
      split at h
      · rename_i ha
        split at h
        · rename_i hle
          refine ⟨_, h, fun E ok w a o ho hq => ?_⟩
          obtain ⟨cs, he, hl, hc, hr⟩ := repD_agg (hx ▸ hq.opr x (by simp [Op.operands]))
          refine does_v (s := Instr.field t (a.eval x) f) (v := .agg ((cs.drop fld.offset).take (tyOf fld.type).size).toArray) (by simp only [execOp, ho]) ?_ (.agg _ _ (by simp [cutD]; omega) ?_ ?_)
          · rw [he]
            simp [Instr.field, run_underlying hu, hfl', asAgg]
            exact run_part_agg hT hkn' ha
          · intro u hu
            exact hc u (List.mem_of_mem_drop (List.mem_of_mem_take hu))
          · intro j hj hj'
            simp only [cutD, List.getElem_take, List.getElem_drop]
            exact hr _ (by simp [cutD] at hj; omega) _
        · exact h.elim
      · rename_i ha
        split at h
        · rename_i d hd
          refine ⟨_, h, fun E ok w a o ho hq => ?_⟩
          obtain ⟨cs, he, hl, hc, hr⟩ := repD_agg (hx ▸ hq.opr x (by simp [Op.operands]))
          obtain ⟨hlt, rfl⟩ := look?_some hd
          refine does_v (s := Instr.field t (a.eval x) f) (v := cs[fld.offset]'(by omega)) (by simp only [execOp, ho]) ?_ (hr _ hlt (by omega))
          rw [he]
          simp [Instr.field, run_underlying hu, hfl', asAgg]
          exact run_part_cell hT hkn' ha (by simp [show fld.offset < cs.length from by omega])
        · exact h.elim
  · rename_i l off ft hx hf
    obtain ⟨fs, hk, hff⟩ := fieldOf_some hf
    obtain ⟨fields, hu, rfl⟩ := ty_struct hT hk
    simp only [List.getElem?_map, Option.map_eq_some_iff] at hff
    obtain ⟨fld, hfl, he⟩ := hff
    simp only [Prod.mk.injEq] at he
    obtain ⟨rfl, rfl⟩ := he
    have hfl' : fields[f]? = some fld := by simpa using hfl
    split at h
    · exact h.elim
    · rename_i hkn
      have hkn' : known (tyOf fld.type).k = true := by simpa using hkn
      split at h
      · rename_i ha
        split at h
        · rename_i hle
          refine ⟨_, h, fun E ok w a o ho hq => ?_⟩
          obtain ⟨cs, he, hl, hc, hr⟩ := rep_agg (repD_v (hx ▸ hq.opr x (by simp [Op.operands])))
          refine does_v (s := Instr.field t (a.eval x) f) (v := .agg ((cs.drop fld.offset).take (tyOf fld.type).size).toArray) (by simp only [execOp, ho]) ?_ (.v _ _ (.agg _ _ (by simp; omega) ?_ ?_))
          · rw [he]
            simp [Instr.field, run_underlying hu, hfl', asAgg]
            exact run_part_agg hT hkn' ha
          · intro j hj
            simp only [List.getElem_take, List.getElem_drop]
            exact hc _ (by simp at hj; omega)
          · intro j hj hj'
            simp only [List.getElem_take, List.getElem_drop]
            exact hr _ (by simp at hj; omega) _
        · exact h.elim
      · rename_i ha
        split at h
        · rename_i d hd
          refine ⟨_, h, fun E ok w a o ho hq => ?_⟩
          obtain ⟨cs, he, hl, hc, hr⟩ := rep_agg (repD_v (hx ▸ hq.opr x (by simp [Op.operands])))
          obtain ⟨hlt, rfl⟩ := look?_some hd
          refine does_v (s := Instr.field t (a.eval x) f) (v := cs[fld.offset]'(by omega)) (by simp only [execOp, ho]) ?_ (.v _ _ (hr _ hlt (by omega)))
          rw [he]
          simp [Instr.field, run_underlying hu, hfl', asAgg]
          exact run_part_cell hT hkn' ha (by simp [show fld.offset < cs.length from by omega])
        · exact h.elim
  · exact h.elim

theorem q_fieldAddr (ob : List (Nat × AObj)) (ρ : Operand → D) (t : TypeId) (x : Operand) (f : Nat) (K : D → Prop) (h : qWp (std P R) ob ρ (.fieldAddr t x f) K) : ∃ d, K d ∧ Comes' P ob ρ (.fieldAddr t x f) d := by
  unfold qWp at h
  simp only at h
  split at h
  · rename_i off ft hf
    obtain ⟨fs, hk, hff⟩ := fieldOf_some hf
    obtain ⟨fields, hu, rfl⟩ := ty_struct hT hk
    simp only [List.getElem?_map, Option.map_eq_some_iff] at hff
    obtain ⟨fld, hfl, he⟩ := hff
    simp only [Prod.mk.injEq] at he
    obtain ⟨rfl, rfl⟩ := he
    have hfl' : fields[f]? = some fld := by simpa using hfl
    split at h
    · exact h.elim
    · rename_i hkn
      split at h
      · exact h.elim
      · rename_i hsz
        have run : ∀ (b o : Nat) (w : World), (Instr.fieldAt t (.pointer (some ⟨b, o, none⟩)) f).run P w = .ok (.pointer (some ⟨b, o + fld.offset, none⟩)) w := by
          intro b o w
          simp [Instr.fieldAt, run_underlying hu, hfl', Instr.sureAddr, fieldPlace, ty_size hT (known_ne hkn), hsz, add_plain]
        split at h
        · rename_i id o hx
          refine ⟨_, h, fun E ok w a op ho hq => ?_⟩
          obtain ⟨b, hb, he⟩ := repD_ptr (hx ▸ hq.opr x (by simp [Op.operands]))
          exact does_v (s := Instr.fieldAt t (a.eval x) f) (by simp only [execOp, ho]) (by rw [he]; exact run _ _ _) (.ptr _ _ b hb)
        · rename_i id z i o hx
          refine ⟨_, h, fun E ok w a op ho hq => ?_⟩
          obtain ⟨b, hb, hi, he⟩ := repD_rptr (hx ▸ hq.opr x (by simp [Op.operands]))
          exact does_v (s := Instr.fieldAt t (a.eval x) f) (by simp only [execOp, ho]) (by rw [he, run, Nat.add_assoc]) (.rptr _ _ _ _ b hb hi)
        · rename_i l hx
          refine ⟨_, h, fun E ok w a op ho hq => ?_⟩
          obtain ⟨b, off, he, hc⟩ := rep_ref (repD_v (hx ▸ hq.opr x (by simp [Op.operands])))
          refine does_v (s := Instr.fieldAt t (a.eval x) f) (by simp only [execOp, ho]) (by rw [he]; exact run _ _ _) (.v _ _ (.ref _ b (off + fld.offset) (fun j => (w.cell? ⟨b, off + fld.offset + j, none⟩).getD undef) (fun j hj => ?_) (fun j hj => ?_) (fun j hj => ?_)))
          · simp at hj
            obtain ⟨q1, q2, u, q3, q4⟩ := hc (fld.offset + j) (by omega)
            rw [← Nat.add_assoc] at q1 q3
            exact ⟨q1, by rw [q3]; rfl⟩
          · simp only [List.getElem_drop]; exact (hc _ (by simp at hj; omega)).2.1
          · simp at hj
            obtain ⟨q1, q2, u, q3, q4⟩ := hc (fld.offset + j) (by omega)
            rw [← Nat.add_assoc] at q3
            simp only [List.getElem_drop, q3, Option.getD_some]; exact q4
        · exact h.elim
  · exact h.elim

theorem q_indexAddr (ob : List (Nat × AObj)) (ρ : Operand → D) (t : TypeId) (x i : Operand) (K : D → Prop) (h : qWp (std P R) ob ρ (.indexAddr t x i) K) : ∃ d, K d ∧ Comes' P ob ρ (.indexAddr t x i) d := by
  unfold qWp at h
  simp only at h
  split at h
  · rename_i n hn
    obtain ⟨k, hi⟩ := intOfD_some hn
    split at h
    · rename_i e hk
      have hu := ty_slice hT hk
      split at h
      · exact h.elim
      · rename_i hkn
        have run : ∀ (b o m c : Nat) (w : World), 0 ≤ n → n < m → (Instr.indexAt t (.slice (some ⟨b, o, none⟩) m c) (.int k n)).run P w = .ok (.pointer (some ⟨b, o + n.toNat * (tyOf e).size, none⟩)) w := by
          intro b o m c w h0 h1
          simp [Instr.indexAt, asIntOf, run_underlying hu, ty_size hT (known_ne hkn), h0, h1, add_plain]
        split at h
        · rename_i l hx
          obtain ⟨y, hK, h0, hy, hag⟩ := elemRef_sound h
          refine ⟨_, hK, fun E ok w a op ho hq => ?_⟩
          have e2 : a.eval i = .int k n := repD_int (hi ▸ hq.opr i (by simp [Op.operands]))
          obtain ⟨ad, c, e1, _, _, z, hz, hcell, hp⟩ := slice_row (repD_v (hx ▸ hq.opr x (by simp [Op.operands])))
          obtain ⟨hlt, hy'⟩ := List.getElem?_eq_some_iff.1 hy
          obtain ⟨b, off, rfl, hrow, hok⟩ := hp (by omega)
          obtain ⟨q1, q2, q3⟩ := hrow.elem h0 hy
          refine does_v (s := Instr.indexAt t (a.eval x) (a.eval i)) (by simp only [execOp, ho]) (by rw [e1, e2]; exact run _ _ _ _ _ h0 (by omega)) (.v _ _ (.ref _ b (off + n.toNat * (tyOf e).size) (fun j => (w.cell? ⟨b, off + n.toNat * (tyOf e).size + j, none⟩).getD undef) (fun j hj => ?_) q2 (fun j hj => ?_)))
          · obtain ⟨u, hu, _⟩ := q3 j hj
            have hle : n.toNat * z + z ≤ l.length * z := by rw [← Nat.succ_mul]; exact Nat.mul_le_mul_right _ hlt
            have hz' : (tyOf e).size = z := by omega
            rw [hz', Nat.add_assoc]
            exact ⟨hok _ (by omega), by rw [hu]; rfl⟩
          · obtain ⟨u, hu, hr⟩ := q3 j hj
            have hz' : (tyOf e).size = z := by omega
            rw [hz', Nat.add_assoc, hu]
            exact hr
        · rename_i id hx
          split at h
          · rename_i z l ex hrow
            split at h
            · rename_i hz
              obtain ⟨⟨h0, h1⟩, hK⟩ := h
              refine ⟨_, hK, fun E ok w a op ho hq => ?_⟩
              have e2 : a.eval i = .int k n := repD_int (hi ▸ hq.opr i (by simp [Op.operands]))
              have e1 := repD_own (hx ▸ hq.opr x (by simp [Op.operands]))
              rcases hq.obj _ _ (rowOf_some hrow) with ⟨rfl, _, _⟩ | ⟨b, cap, cs, e', g1, g2, g3, g4, g5, g6, g7, g8⟩
              · simp at h1; omega
              · refine does_v (s := Instr.indexAt t (a.eval x) (a.eval i)) (by simp only [execOp, ho]) (by rw [e1, e2, g2]; exact run _ _ _ _ _ h0 h1) ?_
                have := RepD.rptr (E := E) (ok := ok) (w := w) id z n 0 b g1 h0
                simpa [hz] using this
            · exact h.elim
          · exact h.elim
        · exact h.elim
    · rename_i m e hk
      have hu := ty_arr hT hk
      split at h
      · exact h.elim
      · rename_i hkn
        split at h
        · rename_i id hx
          split at h
          · rename_i z l ex hrow
            split at h
            · rename_i hz
              obtain ⟨⟨h0, h1⟩, ⟨_, h2⟩, hK⟩ := h
              simp at h2
              refine ⟨_, hK, fun E ok w a op ho hq => ?_⟩
              have e2 : a.eval i = .int k n := repD_int (hi ▸ hq.opr i (by simp [Op.operands]))
              obtain ⟨b, hb, e1⟩ := repD_ptr (hx ▸ hq.opr x (by simp [Op.operands]))
              refine does_v (s := Instr.indexAt t (a.eval x) (a.eval i)) (v := .pointer (some ⟨b, n.toNat * z, none⟩)) (by simp only [execOp, ho]) ?_ ?_
              · rw [e1, e2]
                simp [Instr.indexAt, asIntOf, run_underlying hu, Instr.sureAddr, ty_size hT (known_ne hkn), h0, h2, add_plain, hz]
              · have := RepD.rptr (E := E) (ok := ok) (w := w) id z n 0 b hb h0
                simpa [hz] using this
            · exact h.elim
          · exact h.elim
        · exact h.elim
    · exact h.elim
  · exact h.elim
end
end Go.Proofs.Ytinckcpmkocakaa.AM
