/-
  The abstract machine, part 12: each quiet operation, VI.
-/
import Derived.Test.YtinckcpmkocakaaAmQ7
set_option linter.unusedVariables false
set_option linter.unusedSimpArgs false
namespace Go.Proofs.Ytinckcpmkocakaa.AM
open Go Go.RowKit

theorem allParts_some (ρ : Operand → D) : ∀ (parts : List (Nat × Operand)) (k : Nat) (l : List D), allParts k (parts.map fun p => (p.1, ρ p.2)) = some l →
    l = parts.map (fun p => ρ p.2) ∧ ∀ i (h : i < parts.length), (parts[i]'h).1 = k + i
  | [], k, l, h => by simp [allParts] at h; subst h; simp
  | (j, x) :: r, k, l, h => by
    simp only [List.map_cons] at h
    unfold allParts at h
    split at h
    · rename_i hj
      split at h
      · rename_i l' hl'
        simp at h; subst h
        obtain ⟨h1, h2⟩ := allParts_some ρ r (k + 1) l' hl'
        refine ⟨by rw [h1]; rfl, fun i hi => ?_⟩
        cases i with
        | zero => simpa using hj
        | succ i =>
          have := h2 i (by simpa using hi)
          simp only [List.getElem_cons_succ]; omega
      · simp at h
    · simp at h
theorem fill_seq (size : Nat) : ∀ (parts : List (Nat × Value)) (k : Nat) (cells : Array Value), (∀ i (h : i < parts.length), (parts[i]'h).1 = k + i) → (∀ p ∈ parts, p.2.cells.size = size) → (k + parts.length) * size ≤ cells.size →
    ∃ r, Instr.fill (fun i => some (i * size, size)) cells parts = some r ∧ r.size = cells.size ∧ (∀ j, j < k * size → r[j]? = cells[j]?) ∧ ∀ i (h : i < parts.length) j, j < size → r[(k + i) * size + j]? = (parts[i]'h).2.cells[j]?
  | [], k, cells, hi, hs, hc => ⟨cells, rfl, rfl, fun _ _ => rfl, fun i h => by simp at h⟩
  | (i, u) :: r, k, cells, hi, hs, hc => by
    have e0 : i = k := by have := hi 0 (by simp); simpa using this
    subst e0
    have hu : u.cells.size = size := hs (i, u) (by simp)
    have hm : (i + (r.length + 1)) * size = i * size + size + r.length * size := by rw [Nat.add_mul, Nat.add_mul]; omega
    simp only [List.length_cons] at hc
    have hf := foldl_set u.cells.toList 0 (i * size) cells (by simp [hu]; omega)
    simp only at hf
    obtain ⟨f1, f2⟩ := hf
    have e : (u.cells.zipIdx.foldl (fun cs (c, j) => cs.setIfInBounds (i * size + j) c) cells) = (u.cells.toList.zipIdx 0).foldl (fun (cs : Array Value) (p : Value × Nat) => cs.setIfInBounds (i * size + p.2) p.1) cells := by
      rw [← Array.foldl_toList]
      simp
    have hsz : (i + 1 + r.length) * size ≤ ((u.cells.toList.zipIdx 0).foldl (fun (cs : Array Value) (p : Value × Nat) => cs.setIfInBounds (i * size + p.2) p.1) cells).size := by
      rw [f1, show i + 1 + r.length = i + (r.length + 1) from by omega]; exact hc
    obtain ⟨x, h1, h2, h3, h4⟩ := fill_seq size r (i + 1) ((u.cells.toList.zipIdx 0).foldl (fun (cs : Array Value) (p : Value × Nat) => cs.setIfInBounds (i * size + p.2) p.1) cells)
      (fun j hj => by have := hi (j + 1) (by simpa using hj); simp only [List.getElem_cons_succ] at this; omega) (fun p hp => hs p (by simp [hp])) hsz
    refine ⟨x, ?_, by rw [h2, f1], fun j hj => ?_, fun j hj q hq => ?_⟩
    · unfold Instr.fill
      simp only
      rw [if_neg (by simp [hu]; omega), e, h1]
    · rw [h3 j (by rw [Nat.add_mul]; omega), f2, if_neg (by omega)]
    · cases j with
      | zero =>
        rw [Nat.add_zero, h3 _ (by rw [Nat.add_mul]; omega), f2, if_pos (by simp [hu]; omega)]
        simp
      | succ j =>
        have := h4 j (by simpa using hj) q hq
        rw [show i + (j + 1) = i + 1 + j from by omega]
        simpa using this

theorem toVs_some {ob : List (Nat × AObj)} : ∀ (l : List D) (r : List V), toVs ob l = some r → r.length = l.length ∧ ∀ i (h : i < l.length) (h' : i < r.length), toV ob (l[i]'h) = some (r[i]'h')
  | [], r, h => by simp [toVs] at h; subst h; simp
  | d :: l, r, h => by
    unfold toVs at h
    split at h
    · rename_i x hx
      split at h
      · rename_i y hy
        simp at h; subst h
        obtain ⟨h1, h2⟩ := toVs_some l y hy
        refine ⟨by simp [h1], fun i hi hi' => ?_⟩
        cases i with
        | zero => exact hx
        | succ i => exact h2 i (by simpa using hi) (by simpa using hi')
      · simp at h
    · simp at h
theorem rep_cells {ok : Oks} {w : World} {x : V} {u : Value} (h : Rep ok w x u) (ht : ∀ l, x ≠ .tup l) : u.cells.size = x.flat.length ∧ ∀ j (hj : j < x.flat.length), (x.flat[j]'hj).cell = true ∧ ∃ v, u.cells[j]? = some v ∧ Rep ok w (x.flat[j]'hj) v := by
  by_cases hc : x.cell = true
  · obtain ⟨h1, h2⟩ := h.oneCell hc
    rw [h1, cell_flat hc]
    refine ⟨rfl, fun j hj => ?_⟩
    simp at hj; subst hj
    exact ⟨hc, u, rfl, h⟩
  · cases h with
    | agg l cs hl hcell hr =>
      refine ⟨by simpa [Value.cells, V.flat] using hl, fun j hj => ?_⟩
      simp only [V.flat] at hj ⊢
      exact ⟨hcell j hj, cs[j]'(by omega), by simp [Value.cells], hr j hj (by omega)⟩
    | tup l => exact absurd rfl (ht l)
    | _ => simp [V.cell] at hc

/-- A new block's row. -/
theorem row_alloc {ok : Oks} {w : World} {z n : Nat} {l : List V} {cs : Array Value} {e : TypeId} (hz : ∀ i (h : i < l.length), (l[i]'h).flat.length = z)
    (hr : ∀ i (h : i < l.length) j (hj : j < (l[i]'h).flat.length), ((l[i]'h).flat[j]'hj).cell = true ∧ ∃ v, cs[i * z + j]? = some v ∧ Rep ok w ((l[i]'h).flat[j]'hj) v) (hb : ∀ b o, ok b o → b < w.heap.size) :
    RowAt (okAdd ok w.heap.size n) (w.alloc (.cells cs e)) w.heap.size 0 z l := by
  have hs := (Grow.alloc w ok (.cells cs e) n).same hb
  refine ⟨hz, fun i hi j hj => (hr i hi j hj).1, fun i hi j hj => ?_⟩
  obtain ⟨_, v, hv, hx⟩ := hr i hi j hj
  refine ⟨v, ?_, hx.mono hs⟩
  rw [cell_of_heap (heap_alloc_new w _), Nat.zero_add]
  exact hv
section
variable {P : Program} {R : List (Nat × AObj) → List D → Prop} (hT : tableOf P = T)
include hT

theorem run_mapM_size (l : List Field) (w : World) (h : ∀ f ∈ l, known (tyOf f.type).k = true) : (l.mapM fun f => do pure (f.offset, ← sizeOf f.type) : Sem (List (Nat × Nat))).run P w = .ok (l.map fun f => (f.offset, (tyOf f.type).size)) w := by
  induction l with
  | nil => rfl
  | cons f r ih =>
    have h1 := ih fun g hg => h g (by simp [hg])
    simp only [List.mapM_cons, Sem.run_bind, ty_size hT (known_ne' (h f (by simp))), Result.andThen_ok, Sem.run_pure, h1, List.map_cons]

theorem q_build (ob : List (Nat × AObj)) (ρ : Operand → D) (t : TypeId) (parts : Array (Nat × Operand)) (K : D → Prop) (h : qWp (std P R) ob ρ (.build t parts) K) : ∃ d, K d ∧ Comes' P ob ρ (.build t parts) d := by
  unfold qWp at h
  simp only at h
  split at h
  · rename_i fs hk
    obtain ⟨fields, hu, rfl⟩ := ty_struct hT hk
    split at h
    · exact h.elim
    · rename_i hall
      have hall' : ∀ f ∈ fields.toList, known (tyOf f.type).k = true := by
        simp only [Bool.not_eq_false, List.all_eq_true] at hall
        exact fun f hf => hall (f.offset, f.type) (List.mem_map.2 ⟨f, hf, rfl⟩)
      split at h
      · rename_i l hl
        refine ⟨_, h, fun E ok w a o ho hq => ?_⟩
        obtain ⟨i, z, hi, hz, hs, hb, hzero, _, hone, hzs⟩ := ty_info hT (t := t) (by rw [hk]; simp)
        rw [hzero] at hl
        obtain ⟨cells', hf, hc⟩ := fill_sound (E := E) (ok := ok) (w := w) ρ a.eval parts.toList _ _ z.cells hl (cellsRep_zero E ok w _ hone) (fun p hp => hq.opr _ (by simp [Op.operands]; exact ⟨_, by simpa using hp⟩))
        refine does_v (s := Instr.build t (parts.map fun (i, x) => (i, a.eval x))) (v := .agg cells') (by simp only [execOp, ho]) ?_ ?_
        · have hm : (fields.mapM fun f => do pure (f.offset, ← sizeOf f.type) : Sem (Array (Nat × Nat))).run P w = .ok (fields.map fun f => (f.offset, (tyOf f.type).size)) w := by
            rw [Array.mapM_eq_mapM_toList]
            simp only [Sem.run_map, run_mapM_size hT fields.toList w hall', Result.andThen_ok]
            congr 1
            apply Array.ext'
            simp
          have hf' : Instr.fill (fun x => (fields.map fun f => (f.offset, (tyOf f.type).size))[x]?) z.cells (parts.map fun (i, x) => (i, a.eval x)).toList = some cells' := by
            rw [← hf]
            congr 1
            · funext j
              rw [look?_eq]
              simp
              cases fields[j]? <;> rfl
            · simp
          simp only [Instr.build, zeroValue, typeInfo, program, Sem.run_bind, Sem.run, hi, hz, Result.andThen_ok, run_underlying hu, hm, hf', Sem.run_pure]
        · have := RepD.agg (E := E) (ok := ok) (w := w) l cells'.toList hc.1 hc.2.1 hc.2.2
          simpa using this
      · exact h.elim
  · rename_i n e hk
    have hu := ty_arr hT hk
    split at h
    · exact h.elim
    rename_i hkn
    split at h
    · rename_i hse
      split at h
      · rename_i hn
        split at h
        · rename_i hst
          split at h
          · rename_i l hl
            split at h
            · rename_i r hr
              split at h
              · rename_i hcell
                refine ⟨_, h, fun E ok w a o ho hq => ?_⟩
                obtain ⟨i, z, hi, hz, hs, hb, hzero, _, hone, hzs⟩ := ty_info hT (t := t) (by rw [hk]; simp)
                obtain ⟨rfl, hidx⟩ := allParts_some ρ parts.toList 0 l hl
                obtain ⟨hrl, hrv⟩ := toVs_some _ _ hr
                simp only [List.length_map, Array.length_toList] at hrl
                have hrep : ∀ j (hj : j < parts.toList.length) (hj' : j < r.length), Rep ok w (r[j]'hj') (a.eval (parts.toList[j]'hj).2) := by
                  intro j hj hj'
                  have h1 := hrv j (by simpa using hj) hj'
                  simp only [List.getElem_map] at h1
                  exact toV_sound hq.obj _ _ _ h1 (hq.opr _ (by
                    simp [Op.operands]
                    exact ⟨(parts.toList[j]'hj).1, by have h9 : parts[j]'(by simpa using hj) ∈ parts := Array.getElem_mem _; exact h9⟩))
                have hcl : ∀ j (hj : j < r.length), (r[j]'hj).cell = true := fun j hj => List.all_eq_true.1 hcell _ (List.getElem_mem hj)
                have hone1 : ∀ j (hj : j < parts.toList.length), (a.eval (parts.toList[j]'hj).2).cells = #[a.eval (parts.toList[j]'hj).2] := fun j hj => by
                  have hj' : j < r.length := by simp at hj; omega
                  exact ((hrep j hj hj').oneCell (hcl j hj')).1
                obtain ⟨cs, f1, f2, _, f4⟩ := fill_seq 1 (parts.toList.map fun p => (p.1, a.eval p.2)) 0 z.cells (fun j hj => by
                  simp only [List.getElem_map]; exact hidx j (by simpa using hj)) (fun p hp => by
                    obtain ⟨q, hq', rfl⟩ := List.mem_map.1 hp
                    obtain ⟨j, hj, rfl⟩ := List.getElem_of_mem hq'
                    rw [hone1 j hj]; rfl) (by simp; omega)
                have hcs : cs.size = n := by rw [f2]; omega
                refine does_v (s := Instr.build t (parts.map fun (i, x) => (i, a.eval x))) (v := .agg cs) (by simp only [execOp, ho]) ?_ (.v _ _ ?_)
                · have hp : (parts.map fun (i, x) => (i, a.eval x)).toList = parts.toList.map fun p => (p.1, a.eval p.2) := by simp
                  simp only [Instr.build, zeroValue, typeInfo, program, Sem.run_bind, Sem.run, hi, hz, Result.andThen_ok, run_underlying hu, ty_size hT (t := e) (w := w) (known_ne hkn), hse, hp, f1, Sem.run_pure]
                · have := Rep.agg (ok := ok) (w := w) r cs.toList (by simp; omega) hcl (fun j hj hj' => by
                    have hj'' : j < parts.toList.length := by simp; omega
                    have h5 := f4 j (by simpa using hj'') 0 (by omega)
                    simp only [Nat.zero_add, Nat.mul_one, Nat.add_zero, List.getElem_map, hone1 j hj''] at h5
                    have h6 : cs.toList[j]'hj' = a.eval (parts.toList[j]'hj'').2 := by
                      have := Array.getElem?_eq_getElem (xs := cs) (i := j) (by simpa using hj')
                      rw [this] at h5
                      simpa using h5
                    rw [h6]; exact hrep j hj'' hj)
                  simpa using this
              · exact h.elim
            · exact h.elim
          · exact h.elim
        · exact h.elim
      · exact h.elim
    · exact h.elim
  · exact h.elim

theorem q_makeInterface (ob : List (Nat × AObj)) (ρ : Operand → D) (t : TypeId) (x : Operand) (K : D → Prop) (h : qWp (std P R) ob ρ (.makeInterface t x) K) : ∃ d, K d ∧ Comes' P ob ρ (.makeInterface t x) d := by
  unfold qWp at h
  simp only at h
  split at h
  · exact h.elim
  · exact h.elim
  · rename_i h1 h2
    split at h
    · rename_i y hy
      refine ⟨_, h, fun E ok w a o ho hq => ?_⟩
      refine does_v (s := Instr.makeInterface t (a.eval x)) (v := .iface t (a.eval x)) (by simp only [execOp, ho]) ?_ (.v _ _ (.iface _ _ _ (toV_sound hq.obj _ _ _ hy (hq.opr x (by simp [Op.operands])))))
      have hk := ty_k hT (t := t) rfl h2
      unfold tkOf at hk
      cases hu : P.underlying t with
      | none => rw [hu] at hk; exact absurd hk.symm h2
      | some d =>
        rw [hu] at hk
        cases d <;> simp only at hk <;> first | exact absurd hk.symm h1 | exact absurd hk.symm h2 | simp [Instr.makeInterface, run_underlying hu]
    · exact h.elim

end
end Go.Proofs.Ytinckcpmkocakaa.AM
