/-
  The abstract machine, part 13: each quiet operation, VII; all of them.
-/
import Derived.Test.YtinckcpmkocakaaM06b1fb7f89
set_option linter.unusedVariables false
set_option linter.unusedSimpArgs false
namespace Go.Proofs.Ytinckcpmkocakaa.AM
open Go Go.RowKit

theorem rep_alloc_row {ok : Oks} {w : World} {z cap : Nat} {l : List V} {cs : Array Value} {e : TypeId} (hz : ∀ i (h : i < l.length), (l[i]'h).flat.length = z)
    (hr : ∀ i (h : i < l.length) j (hj : j < (l[i]'h).flat.length), ((l[i]'h).flat[j]'hj).cell = true ∧ ∃ v, cs[i * z + j]? = some v ∧ Rep ok w ((l[i]'h).flat[j]'hj) v) (hb : ∀ b o, ok b o → b < w.heap.size) (hc : l.length ≤ cap) (hm : cap ≤ maxLen) :
    Rep (okAdd ok w.heap.size (l.length * z)) (w.alloc (.cells cs e)) (.slice l) (.slice (some ⟨w.heap.size, 0, none⟩) l.length cap) :=
  rep_row (row_alloc hz hr hb) (fun j hj => .inr ⟨rfl, by omega⟩) hc hm

section
variable {P : Program} {R : List (Nat × AObj) → List D → Prop}

theorem q_len (hT : tableOf P = T) (ob : List (Nat × AObj)) (ρ : Operand → D) (c : Call) (x : Operand) (t : TypeId) (hc : c.callee = .builtin .len) (ha : c.args.toList = [x]) (ht : c.argTypes.toList = [t]) (K : D → Prop) (h : lenD (std P R) t ob (ρ x) K) : ∃ d, K d ∧ Comes' P ob ρ (.call c) d := by
  have ea : c.args = #[x] := by apply Array.ext'; simpa using ha
  have et : c.argTypes = #[t] := by apply Array.ext'; simpa using ht
  have ex : ∀ (a : Act) (o : Oper), o.op = .call c → ∀ w v, (Builtin.len_ #[t] o.type #[a.eval x]).run P w = .ok v w → (execOp a.eval o).run P w = .ok (.value v) w := by
    intro a o ho w v hv
    simp [execOp, ho, resolve, hc, ea, et, invoke, builtin, hv]
  have hmem : x ∈ (Op.call c).operands.toList := by simp [Op.operands, Call.operands, hc, ea]
  unfold lenD at h
  split at h
  · rename_i hk
    have hu := ty_str hT hk
    split at h
    · rename_i s hx
      refine ⟨_, h, fun E ok w a o ho hq => does_run (ex a o ho w _ ?_) (.v _ _ (.int _ _))⟩
      rw [show a.eval x = .string ⟨s.toArray⟩ from repD_str (hx ▸ hq.opr x hmem)]
      simp [Builtin.len_, run_underlying hu, goInt, size_mk, std]
    · exact h.elim
  · rename_i e hk
    have hu := ty_slice hT hk
    have run : ∀ (ad : Option Addr) (n c : Nat) (w : World), (Builtin.len_ #[t] 0 #[.slice ad n c]).run P w = .ok (.int .i64 n) w := by
      intro ad n c w; simp [Builtin.len_, run_underlying hu, goInt]
    split at h
    · rename_i l hx
      refine ⟨_, h, fun E ok w a o ho hq => does_run (ex a o ho w _ ?_) (.v _ _ (.int _ _))⟩
      obtain ⟨ad, c', he, _⟩ := slice_row (repD_v (hx ▸ hq.opr x hmem))
      rw [he]; exact run _ _ _ _
    · rename_i hx
      refine ⟨_, h, fun E ok w a o ho hq => does_run (ex a o ho w _ ?_) (.v _ _ (.int _ _))⟩
      rw [show a.eval x = .slice none 0 0 from rep_nils (repD_v (hx ▸ hq.opr x hmem))]; exact run _ _ _ _
    · rename_i hx
      refine ⟨_, h, fun E ok w a o ho hq => does_run (ex a o ho w _ ?_) (.v _ _ (.int _ _))⟩
      rw [show a.eval x = .slice none 0 0 from repD_nils (hx ▸ hq.opr x hmem)]; exact run _ _ _ _
    · rename_i id hx
      split at h
      · rename_i z l e' hrow
        refine ⟨_, h, fun E ok w a o ho hq => does_run (ex a o ho w _ ?_) (.v _ _ (.int _ _))⟩
        obtain ⟨ad, c', he, _⟩ := own_slice (hq.obj _ _ (rowOf_some hrow))
        rw [show a.eval x = E.hdr id from repD_own (hx ▸ hq.opr x hmem), he]; exact run _ _ _ _
      · exact h.elim
    · exact h.elim
  · rename_i n e hk
    have hu := ty_arr hT hk
    refine ⟨_, h, fun E ok w a o ho hq => does_run (ex a o ho w (.int .i64 n) ?_) (.v _ _ (.int _ _))⟩
    simp [Builtin.len_, run_underlying hu, goInt]
  · exact h.elim

theorem min_go (mx : Bool) (ρ : Operand → D) : ∀ (xs : List Operand) (d : D) (K : D → Prop), minD.go (std P R) mx d (xs.map ρ) K →
    ∃ d', K d' ∧ ∀ (ev : Operand → Value), (∀ x ∈ xs, ∀ k n, ρ x = .v (.int k n) → ev x = .int k n) → ∀ (u : Value) (rp : D → Value → Prop), rp d u → (∀ k n v, rp (.v (.int k n)) v → v = .int k n) → (∀ k n, rp (.v (.int k n)) (.int k n)) → ∀ w, ∃ v, ((xs.map ev).foldlM (if mx then Builtin.max2 else Builtin.min2) u : Sem Value).run P w = .ok v w ∧ rp d' v
  | [], d, K, h => by
    simp only [List.map_nil, minD.go] at h
    exact ⟨d, h, fun ev _ u rp h0 h1 h2 w => ⟨u, rfl, h0⟩⟩
  | x :: r, d, K, h => by
    simp only [List.map_cons] at h
    cases hx : ρ x with
    | v y =>
      cases y with
      | int k' b =>
        rw [hx] at h
        cases d with
        | v d0 =>
          cases d0 with
          | int k a =>
            simp only [minD.go] at h
            split at h
            · rename_i hk
              have hk := keq_eq hk
              subst hk
              obtain ⟨d', hK, hrun⟩ := min_go mx ρ r _ K h
              refine ⟨d', hK, fun ev hrep u rp h0 h1 h2 w => ?_⟩
              have hrep' := fun y (hy : y ∈ r) => hrep y (List.mem_cons_of_mem _ hy)
              have hu := h1 _ _ _ h0
              subst hu
              cases mx
              · obtain ⟨v, g1, g2⟩ := hrun ev hrep' (.int k (if b < a then b else a)) rp (h2 _ _) h1 h2 w
                refine ⟨v, ?_, g2⟩
                simp only [Bool.false_eq_true, if_false] at g1 ⊢
                rw [List.map_cons, List.foldlM_cons, hrep x (by simp) k b hx]
                simp only [Sem.run_bind, Builtin.min2, Sem.run_pure, Result.andThen_ok]
                exact g1
              · obtain ⟨v, g1, g2⟩ := hrun ev hrep' (.int k (if b > a then b else a)) rp (h2 _ _) h1 h2 w
                refine ⟨v, ?_, g2⟩
                simp only [if_true] at g1 ⊢
                rw [List.map_cons, List.foldlM_cons, hrep x (by simp) k b hx]
                simp only [Sem.run_bind, Builtin.max2, Sem.run_pure, Result.andThen_ok]
                exact g1
            · exact h.elim
          | _ => simp [minD.go] at h
        | _ => simp [minD.go] at h
      | _ => rw [hx] at h; cases d <;> (try (rename_i d0; cases d0)) <;> simp [minD.go] at h
    | _ => rw [hx] at h; cases d <;> (try (rename_i d0; cases d0)) <;> simp [minD.go] at h
theorem q_min (mx : Bool) (ob : List (Nat × AObj)) (ρ : Operand → D) (c : Call) (hc : c.callee = .builtin (if mx then .max else .min)) (K : D → Prop) (h : minD (std P R) mx (c.args.toList.map ρ) K) : ∃ d, K d ∧ Comes' P ob ρ (.call c) d := by
  cases hargs : c.args.toList with
  | nil => rw [hargs] at h; exact h.elim
  | cons x r =>
    rw [hargs] at h
    simp only [List.map_cons, minD] at h
    have ea : c.args = (x :: r).toArray := by apply Array.ext'; simpa using hargs
    have hmem : ∀ y ∈ x :: r, y ∈ (Op.call c).operands.toList := fun y hy => by
      rw [← hargs] at hy
      simp only [Op.operands, Call.operands, Array.toList_append, List.mem_append]
      exact .inr hy
    obtain ⟨d', hK, hrun⟩ := min_go (P := P) (R := R) mx ρ r (ρ x) K h
    refine ⟨d', hK, fun E ok w a o ho hq => ?_⟩
    obtain ⟨v, h1, h2⟩ := hrun a.eval (fun y hy k n q => repD_int (q ▸ hq.opr y (hmem y (by simp [hy])))) (a.eval x) (RepD E ok w) (hq.opr x (hmem x (by simp))) (fun k n v q => repD_int q) (fun k n => .v _ _ (.int _ _)) w
    refine does_run (v := v) ?_ h2
    have em : (c.args.map a.eval).toList = a.eval x :: r.map a.eval := by rw [ea]; simp
    cases mx
    · simp only [Bool.false_eq_true, if_false] at hc h1
      simp only [execOp, ho, resolve, hc, Sem.run_bind, Sem.run_pure, Result.andThen_ok, invoke, builtin, Builtin.min_, em, h1]
    · simp only [if_true] at hc h1
      simp only [execOp, ho, resolve, hc, Sem.run_bind, Sem.run_pure, Result.andThen_ok, invoke, builtin, Builtin.max_, em, h1]

/-! Rows that are made -/
theorem sliceVals {z : Nat} {l : List V} (h : l.all (fun x => x.flat.length == z && x.flat.all V.cell) = true) : (∀ i (h : i < l.length), (l[i]'h).flat.length = z) ∧ ∀ i (h : i < l.length) j (hj : j < (l[i]'h).flat.length), ((l[i]'h).flat[j]'hj).cell = true := by
  rw [List.all_eq_true] at h
  refine ⟨fun i hi => ?_, fun i hi j hj => ?_⟩
  · have := h _ (List.getElem_mem hi)
    simp only [Bool.and_eq_true, beq_iff_eq] at this
    exact this.1
  · have := h _ (List.getElem_mem hi)
    simp only [Bool.and_eq_true] at this
    exact List.all_eq_true.1 this.2 _ (List.getElem_mem hj)

/-- A slice literal makes a row. -/
theorem run_buildSlice (hT : tableOf P = T) {ob : List (Nat × AObj)} {ρ : Operand → D} {t e n : Nat} {parts : Array (Nat × Operand)} {ld : List D} {l : List V} (hk : (tyOf t).k = .slice e) (hkn : known (tyOf e).k = true) (hn : parts.size = n) (hsz : n * (tyOf e).size ≤ 16777216)
    (hp : allParts 0 (parts.toList.map fun p => (p.1, ρ p.2)) = some ld) (hv : toVs ob ld = some l) (hl : l.all (fun x => x.flat.length == (tyOf e).size && x.flat.all V.cell) = true)
    {E : Env} {ok : Oks} {w : World} {a : Act} (hq : QH E ok w a ob ρ (.buildSlice t n parts)) :
    ∃ cs : Array Value, (Instr.buildSlice t n (parts.map fun (i, x) => (i, a.eval x))).run P w = .ok (.slice (some ⟨w.heap.size, 0, none⟩) n n) (w.alloc (.cells cs e)) ∧ l.length = n ∧ cs.size = n * (tyOf e).size ∧
      ∀ i (h : i < l.length) j (hj : j < (l[i]'h).flat.length), ((l[i]'h).flat[j]'hj).cell = true ∧ ∃ v, cs[i * (tyOf e).size + j]? = some v ∧ Rep ok w ((l[i]'h).flat[j]'hj) v := by
  have hu := ty_slice hT hk
  obtain ⟨i0, z0, hi, hz, hs, hb, hzero, _, hone, hzs⟩ := ty_info hT (t := e) (known_ne' hkn)
  obtain ⟨rfl, hidx⟩ := allParts_some ρ parts.toList 0 ld hp
  obtain ⟨hrl, hrv⟩ := toVs_some _ _ hv
  simp only [List.length_map, Array.length_toList] at hrl
  obtain ⟨hz1, hz2⟩ := sliceVals hl
  have hnt : ∀ x ∈ l, ∀ y, x ≠ .tup y := by
    intro x hx y he
    have := List.all_eq_true.1 hl x hx
    subst he
    simp [V.flat, V.cell] at this
  have hrep : ∀ j (hj : j < parts.toList.length) (hj' : j < l.length), Rep ok w (l[j]'hj') (a.eval (parts.toList[j]'hj).2) := by
    intro j hj hj'
    have h1 := hrv j (by simpa using hj) hj'
    simp only [List.getElem_map] at h1
    exact toV_sound hq.obj _ _ _ h1 (hq.opr _ (by
      simp [Op.operands]
      exact ⟨(parts.toList[j]'hj).1, by have h9 : parts[j]'(by simpa using hj) ∈ parts := Array.getElem_mem _; exact h9⟩))
  have hcells : ∀ j (hj : j < parts.toList.length), (a.eval (parts.toList[j]'hj).2).cells.size = (tyOf e).size := fun j hj => by
    have hj' : j < l.length := by simp at hj; omega
    rw [(rep_cells (hrep j hj hj') (hnt _ (List.getElem_mem hj'))).1]
    exact hz1 j hj'
  have hzc : ((if n * (tyOf e).size = 0 then pure #[] else do pure (← zeroValue e).cells) : Sem (Array Value)).run P w = .ok (if n * (tyOf e).size = 0 then #[] else z0.cells) w := by
    split
    · rfl
    · simp [zeroValue, typeInfo, program, Sem.run, hi, hz]
  obtain ⟨cs, f1, f2, _, f4⟩ := fill_seq (tyOf e).size (parts.toList.map fun p => (p.1, a.eval p.2)) 0 ((Array.range (n * (tyOf e).size)).map ((if n * (tyOf e).size = 0 then #[] else z0.cells)[· % (if n * (tyOf e).size = 0 then #[] else z0.cells).size]!)) (fun j hj => by
      simp only [List.getElem_map]; exact hidx j (by simpa using hj)) (fun p hp => by
        obtain ⟨q, hq', rfl⟩ := List.mem_map.1 hp
        obtain ⟨j, hj, rfl⟩ := List.getElem_of_mem hq'
        exact hcells j hj) (by simp [hn])
  refine ⟨cs, ?_, by omega, by rw [f2]; simp, fun i hi' j hj => ?_⟩
  · have hpp : (parts.map fun (i, x) => (i, a.eval x)).toList = parts.toList.map fun p => (p.1, a.eval p.2) := by simp
    have hng : ¬ n * (tyOf e).size > 2 ^ 24 := by omega
    by_cases h0 : n * (tyOf e).size = 0
    · rw [if_pos h0] at f1
      simp only [Instr.buildSlice, Sem.run_bind, run_underlying hu, Result.andThen_ok, ty_size hT (known_ne' hkn), hng, if_false, if_pos h0, hpp, f1, newRow, Sem.run_pure, Sem.run_map]
      simp [newObj, Sem.run]
    · rw [if_neg h0] at f1
      have hzr : (zeroValue e).run P w = .ok z0 w := by simp [zeroValue, typeInfo, program, Sem.run, hi, hz]
      simp only [Instr.buildSlice, Sem.run_bind, run_underlying hu, Result.andThen_ok, ty_size hT (known_ne' hkn), hng, if_false, if_neg h0, hpp, f1, newRow, Sem.run_pure, Sem.run_map, hzr]
      simp [newObj, Sem.run]
  · have hi2 : i < parts.toList.length := by simp; omega
    obtain ⟨_, g2⟩ := rep_cells (hrep i hi2 hi') (hnt _ (List.getElem_mem hi'))
    obtain ⟨g3, v, g4, g5⟩ := g2 j hj
    refine ⟨g3, v, ?_, g5⟩
    have h5 := f4 i (by simpa using hi2) j (by rw [← hz1 i hi']; exact hj)
    simp only [Nat.zero_add, List.getElem_map] at h5
    rw [h5]; exact g4

theorem q_buildSlice (hT : tableOf P = T) (ob : List (Nat × AObj)) (ρ : Operand → D) (t n : Nat) (parts : Array (Nat × Operand)) (K : D → Prop) (h : qWp (std P R) ob ρ (.buildSlice t n parts) K) :
    ∃ l : List V, K (.v (.slice l)) ∧ ∃ e, (tyOf t).k = .slice e ∧ known (tyOf e).k = true ∧ (∀ (E : Env) (ok : Oks) (w : World) (a : Act), QH E ok w a ob ρ (.buildSlice t n parts) →
      ∃ cs : Array Value, (Instr.buildSlice t n (parts.map fun (i, x) => (i, a.eval x))).run P w = .ok (.slice (some ⟨w.heap.size, 0, none⟩) n n) (w.alloc (.cells cs e)) ∧ l.length = n ∧ n ≤ maxLen ∧ cs.size = n * (tyOf e).size ∧ (∀ i (h : i < l.length), (l[i]'h).flat.length = (tyOf e).size) ∧
        ∀ i (h : i < l.length) j (hj : j < (l[i]'h).flat.length), ((l[i]'h).flat[j]'hj).cell = true ∧ ∃ v, cs[i * (tyOf e).size + j]? = some v ∧ Rep ok w ((l[i]'h).flat[j]'hj) v) := by
  unfold qWp at h
  simp only at h
  split at h
  · rename_i e hk
    split at h
    · exact h.elim
    · rename_i hkn
      split at h
      · rename_i hsz
        split at h
        rotate_left
        · exact h.elim
        rename_i hnb
        split at h
        · rename_i hn
          split at h
          · rename_i ld hp
            split at h
            · rename_i l hv
              split at h
              · rename_i hl
                refine ⟨l, h, e, hk, by simpa using hkn, fun E ok w a hq => ?_⟩
                obtain ⟨cs, h1, h2, h3, h4⟩ := run_buildSlice hT hk (by simpa using hkn) hn hsz hp hv hl hq
                exact ⟨cs, h1, h2, by simp [maxLen]; omega, h3, (sliceVals hl).1, h4⟩
              · exact h.elim
            · exact h.elim
          · exact h.elim
        · exact h.elim
      · exact h.elim
  · exact h.elim

theorem zeroV_some {zs : List Value} {x : V} (h : zeroV (zs.map constD1) = some x) (ok : Oks) (w : World) (hone : ∀ u ∈ zs, u.oneCell' = true) : x.flat.length = zs.length ∧ ∀ j (hj : j < x.flat.length), (x.flat[j]'hj).cell = true ∧ ∃ v, zs[j]? = some v ∧ Rep ok w (x.flat[j]'hj) v := by
  have base : ∀ r, toVs [] (zs.map constD1) = some r → r.length = zs.length ∧ ∀ i (h : i < r.length) (h' : i < zs.length), Rep ok w (r[i]'h) (zs[i]'h') := by
    intro r hr
    have := toVs_sound (E := ⟨fun _ => none, fun _ => none, fun _ => 0, fun _ => 0⟩) (ok := ok) (w := w) (ob := []) (by simp [look]) (zs.map constD1) r zs hr (by simp) (fun i h h' => by simp only [List.getElem_map]; exact constD1_rep _ _ _ _)
    exact ⟨by simpa using this.1, this.2⟩
  unfold zeroV at h
  split at h
  · rename_i y hy
    split at h
    · rename_i hc
      simp at h; subst h
      obtain ⟨h1, h2⟩ := base _ hy
      rw [cell_flat hc]
      refine ⟨by simpa using h1, fun j hj => ?_⟩
      simp at hj; subst hj
      have := h2 0 (by simp) (by simp at h1; omega)
      exact ⟨hc, zs[0]'(by simp at h1; omega), List.getElem?_eq_getElem _, this⟩
    · simp at h
  · rename_i l hl
    split at h
    · rename_i hc
      simp at h; subst h
      obtain ⟨h1, h2⟩ := base _ hl
      refine ⟨h1, fun j hj => ?_⟩
      simp only [V.flat] at hj ⊢
      exact ⟨List.all_eq_true.1 hc _ (List.getElem_mem hj), zs[j]'(by omega), List.getElem?_eq_getElem _, h2 j hj (by omega)⟩
    · simp at h
  · simp at h

theorem q_makeSlice (hT : tableOf P = T) (ob : List (Nat × AObj)) (ρ : Operand → D) (t : Nat) (l c : Operand) (K : D → Prop) (h : qWp (std P R) ob ρ (.makeSlice t l c) K) :
    ∃ r : List V, K (.v (.slice r)) ∧ ∃ e m, (tyOf t).k = .slice e ∧ known (tyOf e).k = true ∧ r.length ≤ m ∧ m ≤ maxLen ∧ (∀ (E : Env) (ok : Oks) (w : World) (a : Act), QH E ok w a ob ρ (.makeSlice t l c) →
      ∃ cs : Array Value, (Instr.makeSlice t (a.eval l) (a.eval c)).run P w = .ok (.slice (some ⟨w.heap.size, 0, none⟩) r.length m) (w.alloc (.cells cs e)) ∧ cs.size = m * (tyOf e).size ∧ (∀ i (h : i < r.length), (r[i]'h).flat.length = (tyOf e).size) ∧
        ∀ i (h : i < r.length) j (hj : j < (r[i]'h).flat.length), ((r[i]'h).flat[j]'hj).cell = true ∧ ∃ v, cs[i * (tyOf e).size + j]? = some v ∧ Rep ok w ((r[i]'h).flat[j]'hj) v) := by
  unfold qWp at h
  simp only at h
  split at h
  · rename_i e hk
    split at h
    · exact h.elim
    · rename_i hkn
      split at h
      · rename_i n m x h1 h2 hzv
        obtain ⟨⟨g0, g1, g2, g3⟩, h⟩ := h
        have hlen : (List.replicate n.toNat x).length = n.toNat := by simp
        refine ⟨_, h, e, m.toNat, hk, by simpa using hkn, by simp only [std, List.length_replicate]; omega, by simp [maxLen]; omega, fun E ok w a hq => ?_⟩
        have hu := ty_slice hT hk
        obtain ⟨i0, z0, hi, hz, hs, hb, hzero, _, hone, hzs⟩ := ty_info hT (t := e) (known_ne hkn)
        have e1 : a.eval l = .int .i64 n := repD_int (h1 ▸ hq.opr l (by simp [Op.operands]))
        have e2 : a.eval c = .int .i64 m := repD_int (h2 ▸ hq.opr c (by simp [Op.operands]))
        have hrun := run_make (P := P) w t e i0 z0 hu hi hz .i64 .i64 n m g0 g1 (by rw [hb, Int.mul_comm]; omega) (by omega)
        refine ⟨madeCells z0.cells (m.toNat * i0.size), ?_, by rw [size_madeCells, hs], ?_, ?_⟩
        · rw [e1, e2, hrun]; simp [std]
        · intro i hi'
          simp only [std, List.getElem_replicate]
          rw [hzero] at hzv
          rw [(zeroV_some hzv ok w hone).1]; simp; omega
        · intro i hi' j hj
          simp only [std, List.getElem_replicate] at hj ⊢
          rw [hzero] at hzv
          obtain ⟨q1, q2⟩ := zeroV_some hzv ok w hone
          obtain ⟨q3, v, q4, q5⟩ := q2 j hj
          refine ⟨q3, v, ?_, q5⟩
          have hsz : z0.cells.size = (tyOf e).size := by omega
          have hj' : j < z0.cells.size := by rw [q1] at hj; simpa using hj
          simp only [std, List.length_replicate] at hi'
          have hle : i * (tyOf e).size + (tyOf e).size ≤ m.toNat * (tyOf e).size := by rw [← Nat.succ_mul]; exact Nat.mul_le_mul_right _ (by omega)
          have hmod : (i * (tyOf e).size + j) % z0.cells.size = j := by rw [hsz, Nat.add_comm, Nat.add_mul_mod_self_right, Nat.mod_eq_of_lt (by omega)]
          unfold madeCells
          rw [Array.getElem?_map, Array.getElem?_range, if_pos (by rw [hs]; omega)]
          simp only [Option.map_some, hmod]
          rw [← q4, getElem!_pos z0.cells j hj']
          simp [hj']
      · exact h.elim
  · exact h.elim
end
end Go.Proofs.Ytinckcpmkocakaa.AM
