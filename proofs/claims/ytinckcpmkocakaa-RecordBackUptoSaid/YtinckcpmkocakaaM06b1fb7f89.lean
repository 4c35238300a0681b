/-
  The abstract machine, part 11: each quiet operation, V.
-/
import Derived.Test.YtinckcpmkocakaaM056404a9e6
set_option linter.unusedVariables false
set_option linter.unusedSimpArgs false
namespace Go.Proofs.Ytinckcpmkocakaa.AM
open Go Go.RowKit

/-! ### Parts laid into cells -/
theorem foldl_set (u : List Value) : ∀ (k off : Nat) (cells : Array Value), off + k + u.length ≤ cells.size →
    let r := (u.zipIdx k).foldl (fun (cs : Array Value) (p : Value × Nat) => cs.setIfInBounds (off + p.2) p.1) cells
    r.size = cells.size ∧ ∀ i, r[i]? = if off + k ≤ i ∧ i < off + k + u.length then u[i - (off + k)]? else cells[i]? := by
  induction u with
  | nil => intro k off cells h; exact ⟨rfl, fun i => by rw [if_neg (by intro h; simp at h; omega)]; rfl⟩
  | cons x r ih =>
    intro k off cells h
    simp only [List.length_cons] at h
    obtain ⟨h1, h2⟩ := ih (k + 1) off (cells.setIfInBounds (off + k) x) (by simp; omega)
    simp only [List.zipIdx_cons, List.foldl_cons]
    refine ⟨by rw [h1]; simp, fun i => ?_⟩
    rw [h2]
    simp only [List.length_cons]
    by_cases hi : i = off + k
    · subst hi
      rw [if_neg (by omega), if_pos (by omega)]
      simp [Array.getElem?_setIfInBounds, show off + k < cells.size from by omega]
    · by_cases hj : off + k + 1 ≤ i ∧ i < off + k + 1 + r.length
      · rw [if_pos (by omega), if_pos (by omega)]
        rw [show i - (off + k) = (i - (off + (k + 1))) + 1 from by omega, List.getElem?_cons_succ]
      · rw [if_neg (by omega), if_neg (by omega)]
        simp [Array.getElem?_setIfInBounds, show ¬ off + k = i from by omega]
theorem lay_get {α : Type} (cs l : List α) (off size : Nat) (hl : l.length = size) (ho : off + size ≤ cs.length) (i : Nat) : (cs.take off ++ l ++ cs.drop (off + size))[i]? = if off ≤ i ∧ i < off + size then l[i - off]? else cs[i]? := by
  simp only [List.getElem?_append, List.length_append, List.length_take, List.getElem?_take, List.getElem?_drop, hl]
  rw [show min off cs.length = off from by omega]
  by_cases h1 : i < off
  · rw [if_pos (by omega), if_pos h1, if_pos h1, if_neg (by omega)]
  · by_cases h2 : i < off + size
    · rw [if_pos h2, if_neg h1, if_pos (by omega)]
    · rw [if_neg h2, if_neg (by omega)]
      congr 1; omega

/-- Cells that tell, one by one. -/
def CellsRep (E : Env) (ok : Oks) (w : World) (ds : List D) (us : List Value) : Prop :=
  us.length = ds.length ∧ (∀ u ∈ us, u.oneCell' = true) ∧ ∀ i (h : i < ds.length) (h' : i < us.length), RepD E ok w (ds[i]'h) (us[i]'h')
theorem cellsD_rep {E : Env} {ok : Oks} {w : World} {d : D} {l : List D} {u : Value} (h : cellsD d = some l) (r : RepD E ok w d u) : CellsRep E ok w l u.cells.toList := by
  cases r with
  | any => simp [cellsD] at h
  | ub b => simp [cellsD] at h
  | lit b => simp [cellsD] at h; subst h; exact ⟨rfl, by simp [Value.cells]; rfl, fun i h h' => by simp at h; subst h; simpa [Value.cells] using RepD.lit b⟩
  | nils => simp [cellsD] at h; subst h; exact ⟨rfl, by simp [Value.cells]; rfl, fun i h h' => by simp at h; subst h; simpa [Value.cells] using RepD.nils⟩
  | agg l' cs hl hc hr => simp [cellsD] at h; subst h; exact ⟨by simpa [Value.cells] using hl, by simpa [Value.cells] using hc, fun i h h' => hr i h h'⟩
  | tup => simp [cellsD] at h
  | ptr id off b hb => simp [cellsD] at h; subst h; exact ⟨rfl, by simp [Value.cells]; rfl, fun i h h' => by simp at h; subst h; simpa [Value.cells] using RepD.ptr id off b hb⟩
  | rptr id z i off b hb hi => simp [cellsD] at h; subst h; exact ⟨rfl, by simp [Value.cells]; rfl, fun i h h' => by simp at h; subst h; simpa [Value.cells] using RepD.rptr id z _ off b hb hi⟩
  | fn f cap cs hl hr => simp [cellsD] at h; subst h; exact ⟨rfl, by simp [Value.cells]; rfl, fun i h h' => by simp at h; subst h; simpa [Value.cells] using RepD.fn f cap cs hl hr⟩
  | own id => simp [cellsD] at h; subst h; exact ⟨rfl, by simp [Value.cells, Env.hdr]; rfl, fun i h h' => by simp at h; subst h; exact RepD.own id⟩
  | v x u hx =>
    by_cases hc : x.cell = true
    · have h0 : cellsD (.v x) = some [.v x] := by cases x <;> simp [V.cell] at hc <;> rfl
      rw [h0] at h; simp at h; subst h
      obtain ⟨h1, h2⟩ := hx.oneCell hc
      rw [h1]
      exact ⟨rfl, by simpa using h2, fun i h h' => by simp at h; subst h; exact .v _ _ hx⟩
    · cases hx with
      | agg l' cs hl hcell hr =>
        simp [cellsD] at h; subst h
        refine ⟨by simpa [Value.cells] using hl, fun u hu => ?_, fun i h h' => ?_⟩
        · simp [Value.cells] at hu
          obtain ⟨j, hj, rfl⟩ := List.getElem_of_mem hu
          exact ((hr j (by omega) hj).oneCell (hcell j (by omega))).2
        · simp [Value.cells] at h' ⊢
          exact .v _ _ (hr i (by simpa using h) h')
      | tup => simp [cellsD] at h
      | _ => simp [V.cell] at hc

theorem fill_sound {E : Env} {ok : Oks} {w : World} {place : Nat → Option (Nat × Nat)} (ρ : Operand → D) (ev : Operand → Value) : ∀ (parts : List (Nat × Operand)) (ds ds' : List D) (cells : Array Value),
    layD place ds (parts.map fun p => (p.1, ρ p.2)) = some ds' → CellsRep E ok w ds cells.toList → (∀ p ∈ parts, RepD E ok w (ρ p.2) (ev p.2)) →
    ∃ cells', Instr.fill place cells (parts.map fun p => (p.1, ev p.2)) = some cells' ∧ CellsRep E ok w ds' cells'.toList
  | [], ds, ds', cells, h, hc, hp => by
    simp [layD] at h; subst h
    exact ⟨cells, rfl, hc⟩
  | (i, x) :: r, ds, ds', cells, h, hc, hp => by
    simp only [List.map_cons] at h ⊢
    unfold layD at h
    split at h
    · rename_i off size hpl
      split at h
      · rename_i l hl
        split at h
        · rename_i hsz
          split at h
          · rename_i hle
            have hr := cellsD_rep hl (hp (i, x) (by simp))
            have hu : (ev x).cells.toList.length = size := by rw [hr.1, hsz]
            have hu' : (ev x).cells.size = size := by simpa using hu
            have hcs : cells.size = ds.length := by simpa using hc.1
            have hf := foldl_set (ev x).cells.toList 0 off cells (by rw [hu, hcs]; omega)
            simp only at hf
            obtain ⟨f1, f2⟩ := hf
            have e : ((ev x).cells.zipIdx.foldl (fun cs (c, j) => cs.setIfInBounds (off + j) c) cells) = ((ev x).cells.toList.zipIdx 0).foldl (fun (cs : Array Value) (p : Value × Nat) => cs.setIfInBounds (off + p.2) p.1) cells := by
              rw [← Array.foldl_toList]
              simp
            unfold Instr.fill
            simp only [hpl]
            rw [if_neg (by simp [hu', hcs]; omega)]
            rw [e]
            refine fill_sound ρ ev r _ ds' _ h ?_ (fun p hp' => hp p (by simp [hp']))
            have hlen : (ds.take off ++ l ++ ds.drop (off + size)).length = ds.length := by simp; omega
            have get : ∀ (j : Nat) (u : Value), (((ev x).cells.toList.zipIdx 0).foldl (fun (cs : Array Value) (p : Value × Nat) => cs.setIfInBounds (off + p.2) p.1) cells).toList[j]? = some u → u.oneCell' = true ∧ ∀ d, (ds.take off ++ l ++ ds.drop (off + size))[j]? = some d → RepD E ok w d u := by
              intro j u hj
              rw [Array.getElem?_toList, f2] at hj
              rw [lay_get ds l off size hsz hle]
              by_cases hin : off ≤ j ∧ j < off + size
              · rw [if_pos (by rw [hu]; omega)] at hj
                rw [if_pos hin]
                obtain ⟨q1, rfl⟩ := List.getElem?_eq_some_iff.1 hj
                refine ⟨hr.2.1 _ (List.getElem_mem _), fun d hd => ?_⟩
                obtain ⟨q2, rfl⟩ := List.getElem?_eq_some_iff.1 hd
                exact hr.2.2 (j - off) q2 q1
              · rw [if_neg (by rw [hu]; omega)] at hj
                rw [if_neg hin]
                rw [← Array.getElem?_toList] at hj
                obtain ⟨q1, rfl⟩ := List.getElem?_eq_some_iff.1 hj
                refine ⟨hc.2.1 _ (List.getElem_mem _), fun d hd => ?_⟩
                obtain ⟨q2, rfl⟩ := List.getElem?_eq_some_iff.1 hd
                exact hc.2.2 j q2 q1
            refine ⟨by rw [hlen]; simp [f1, hcs], fun u hu => ?_, fun j h1 h2 => ?_⟩
            · obtain ⟨j, hj, rfl⟩ := List.getElem_of_mem hu
              exact (get j _ (List.getElem?_eq_getElem hj)).1
            · exact (get j _ (List.getElem?_eq_getElem h2)).2 _ (List.getElem?_eq_getElem h1)
          · simp at h
        · simp at h
      · simp at h
    · simp at h
theorem cellsRep_zero (E : Env) (ok : Oks) (w : World) (us : List Value) (h1 : ∀ u ∈ us, u.oneCell' = true) : CellsRep E ok w (us.map constD1) us :=
  ⟨by simp, h1, fun i h h' => by simp only [List.getElem_map]; exact constD1_rep _ _ _ _⟩
end Go.Proofs.Ytinckcpmkocakaa.AM

/-
  The abstract machine, part 12: each quiet operation, VI.
-/
set_option linter.unusedVariables false
set_option linter.unusedSimpArgs false
namespace Go.Proofs.Ytinckcpmkocakaa.AM
open Go Go.RowKit

theorem allParts_some (ρ : Operand → D) : ∀ (parts : List (Nat × Operand)) (k : Nat) (l : List D), allParts k (parts.map fun p => (p.1, ρ p.2)) = some l →
    l = parts.map (fun p => ρ p.2) ∧ ∀ i (h : i < parts.length), (parts[i]'h).1 = k + i
  | [], k, l, h => by simp [allParts] at h; subst h; simp
  | (j, x) :: r, k, l, h => by
    simp only [List.map_cons] at h
    unfold allParts at h
    split at h
    · rename_i hj
      split at h
      · rename_i l' hl'
        simp at h; subst h
        obtain ⟨h1, h2⟩ := allParts_some ρ r (k + 1) l' hl'
        refine ⟨by rw [h1]; rfl, fun i hi => ?_⟩
        cases i with
        | zero => simpa using hj
        | succ i =>
          have := h2 i (by simpa using hi)
          simp only [List.getElem_cons_succ]; omega
      · simp at h
    · simp at h
theorem fill_seq (size : Nat) : ∀ (parts : List (Nat × Value)) (k : Nat) (cells : Array Value), (∀ i (h : i < parts.length), (parts[i]'h).1 = k + i) → (∀ p ∈ parts, p.2.cells.size = size) → (k + parts.length) * size ≤ cells.size →
    ∃ r, Instr.fill (fun i => some (i * size, size)) cells parts = some r ∧ r.size = cells.size ∧ (∀ j, j < k * size → r[j]? = cells[j]?) ∧ ∀ i (h : i < parts.length) j, j < size → r[(k + i) * size + j]? = (parts[i]'h).2.cells[j]?
  | [], k, cells, hi, hs, hc => ⟨cells, rfl, rfl, fun _ _ => rfl, fun i h => by simp at h⟩
  | (i, u) :: r, k, cells, hi, hs, hc => by
    have e0 : i = k := by have := hi 0 (by simp); simpa using this
    subst e0
    have hu : u.cells.size = size := hs (i, u) (by simp)
    have hm : (i + (r.length + 1)) * size = i * size + size + r.length * size := by rw [Nat.add_mul, Nat.add_mul]; omega
    simp only [List.length_cons] at hc
    have hf := foldl_set u.cells.toList 0 (i * size) cells (by simp [hu]; omega)
    simp only at hf
    obtain ⟨f1, f2⟩ := hf
    have e : (u.cells.zipIdx.foldl (fun cs (c, j) => cs.setIfInBounds (i * size + j) c) cells) = (u.cells.toList.zipIdx 0).foldl (fun (cs : Array Value) (p : Value × Nat) => cs.setIfInBounds (i * size + p.2) p.1) cells := by
      rw [← Array.foldl_toList]
      simp
    have hsz : (i + 1 + r.length) * size ≤ ((u.cells.toList.zipIdx 0).foldl (fun (cs : Array Value) (p : Value × Nat) => cs.setIfInBounds (i * size + p.2) p.1) cells).size := by
      rw [f1, show i + 1 + r.length = i + (r.length + 1) from by omega]; exact hc
    obtain ⟨x, h1, h2, h3, h4⟩ := fill_seq size r (i + 1) ((u.cells.toList.zipIdx 0).foldl (fun (cs : Array Value) (p : Value × Nat) => cs.setIfInBounds (i * size + p.2) p.1) cells)
      (fun j hj => by have := hi (j + 1) (by simpa using hj); simp only [List.getElem_cons_succ] at this; omega) (fun p hp => hs p (by simp [hp])) hsz
    refine ⟨x, ?_, by rw [h2, f1], fun j hj => ?_, fun j hj q hq => ?_⟩
    · unfold Instr.fill
      simp only
      rw [if_neg (by simp [hu]; omega), e, h1]
    · rw [h3 j (by rw [Nat.add_mul]; omega), f2, if_neg (by omega)]
    · cases j with
      | zero =>
        rw [Nat.add_zero, h3 _ (by rw [Nat.add_mul]; omega), f2, if_pos (by simp [hu]; omega)]
        simp
      | succ j =>
        have := h4 j (by simpa using hj) q hq
        rw [show i + (j + 1) = i + 1 + j from by omega]
        simpa using this

theorem toVs_some {ob : List (Nat × AObj)} : ∀ (l : List D) (r : List V), toVs ob l = some r → r.length = l.length ∧ ∀ i (h : i < l.length) (h' : i < r.length), toV ob (l[i]'h) = some (r[i]'h')
  | [], r, h => by simp [toVs] at h; subst h; simp
  | d :: l, r, h => by
    unfold toVs at h
    split at h
    · rename_i x hx
      split at h
      · rename_i y hy
        simp at h; subst h
        obtain ⟨h1, h2⟩ := toVs_some l y hy
        refine ⟨by simp [h1], fun i hi hi' => ?_⟩
        cases i with
        | zero => exact hx
        | succ i => exact h2 i (by simpa using hi) (by simpa using hi')
      · simp at h
    · simp at h
theorem rep_cells {ok : Oks} {w : World} {x : V} {u : Value} (h : Rep ok w x u) (ht : ∀ l, x ≠ .tup l) : u.cells.size = x.flat.length ∧ ∀ j (hj : j < x.flat.length), (x.flat[j]'hj).cell = true ∧ ∃ v, u.cells[j]? = some v ∧ Rep ok w (x.flat[j]'hj) v := by
  by_cases hc : x.cell = true
  · obtain ⟨h1, h2⟩ := h.oneCell hc
    rw [h1, cell_flat hc]
    refine ⟨rfl, fun j hj => ?_⟩
    simp at hj; subst hj
    exact ⟨hc, u, rfl, h⟩
  · cases h with
    | agg l cs hl hcell hr =>
      refine ⟨by simpa [Value.cells, V.flat] using hl, fun j hj => ?_⟩
      simp only [V.flat] at hj ⊢
      exact ⟨hcell j hj, cs[j]'(by omega), by simp [Value.cells], hr j hj (by omega)⟩
    | tup l => exact absurd rfl (ht l)
    | _ => simp [V.cell] at hc

/-- A new block's row. -/
theorem row_alloc {ok : Oks} {w : World} {z n : Nat} {l : List V} {cs : Array Value} {e : TypeId} (hz : ∀ i (h : i < l.length), (l[i]'h).flat.length = z)
    (hr : ∀ i (h : i < l.length) j (hj : j < (l[i]'h).flat.length), ((l[i]'h).flat[j]'hj).cell = true ∧ ∃ v, cs[i * z + j]? = some v ∧ Rep ok w ((l[i]'h).flat[j]'hj) v) (hb : ∀ b o, ok b o → b < w.heap.size) :
    RowAt (okAdd ok w.heap.size n) (w.alloc (.cells cs e)) w.heap.size 0 z l := by
  have hs := (Grow.alloc w ok (.cells cs e) n).same hb
  refine ⟨hz, fun i hi j hj => (hr i hi j hj).1, fun i hi j hj => ?_⟩
  obtain ⟨_, v, hv, hx⟩ := hr i hi j hj
  refine ⟨v, ?_, hx.mono hs⟩
  rw [cell_of_heap (heap_alloc_new w _), Nat.zero_add]
  exact hv
section
variable {P : Program} {R : List (Nat × AObj) → List D → Prop} (hT : tableOf P = T)
include hT

theorem run_mapM_size (l : List Field) (w : World) (h : ∀ f ∈ l, known (tyOf f.type).k = true) : (l.mapM fun f => do pure (f.offset, ← sizeOf f.type) : Sem (List (Nat × Nat))).run P w = .ok (l.map fun f => (f.offset, (tyOf f.type).size)) w := by
  induction l with
  | nil => rfl
  | cons f r ih =>
    have h1 := ih fun g hg => h g (by simp [hg])
    simp only [List.mapM_cons, Sem.run_bind, ty_size hT (known_ne' (h f (by simp))), Result.andThen_ok, Sem.run_pure, h1, List.map_cons]

theorem q_build (ob : List (Nat × AObj)) (ρ : Operand → D) (t : TypeId) (parts : Array (Nat × Operand)) (K : D → Prop) (h : qWp (std P R) ob ρ (.build t parts) K) : ∃ d, K d ∧ Comes' P ob ρ (.build t parts) d := by
  unfold qWp at h
  simp only at h
  split at h
  · rename_i fs hk
    obtain ⟨fields, hu, rfl⟩ := ty_struct hT hk
    split at h
    · exact h.elim
    · rename_i hall
      have hall' : ∀ f ∈ fields.toList, known (tyOf f.type).k = true := by
        simp only [Bool.not_eq_false, List.all_eq_true] at hall
        exact fun f hf => hall (f.offset, f.type) (List.mem_map.2 ⟨f, hf, rfl⟩)
      split at h
      · rename_i l hl
        refine ⟨_, h, fun E ok w a o ho hq => ?_⟩
        obtain ⟨i, z, hi, hz, hs, hb, hzero, _, hone, hzs⟩ := ty_info hT (t := t) (by rw [hk]; simp)
        rw [hzero] at hl
        obtain ⟨cells', hf, hc⟩ := fill_sound (E := E) (ok := ok) (w := w) ρ a.eval parts.toList _ _ z.cells hl (cellsRep_zero E ok w _ hone) (fun p hp => hq.opr _ (by simp [Op.operands]; exact ⟨_, by simpa using hp⟩))
        refine does_v (s := Instr.build t (parts.map fun (i, x) => (i, a.eval x))) (v := .agg cells') (by simp only [execOp, ho]) ?_ ?_
        · have hm : (fields.mapM fun f => do pure (f.offset, ← sizeOf f.type) : Sem (Array (Nat × Nat))).run P w = .ok (fields.map fun f => (f.offset, (tyOf f.type).size)) w := by
            rw [Array.mapM_eq_mapM_toList]
            simp only [Sem.run_map, run_mapM_size hT fields.toList w hall', Result.andThen_ok]
            congr 1
            apply Array.ext'
            simp
          have hf' : Instr.fill (fun x => (fields.map fun f => (f.offset, (tyOf f.type).size))[x]?) z.cells (parts.map fun (i, x) => (i, a.eval x)).toList = some cells' := by
            rw [← hf]
            congr 1
            · funext j
              rw [look?_eq]
              simp
              cases fields[j]? <;> rfl
            · simp
          simp only [Instr.build, zeroValue, typeInfo, program, Sem.run_bind, Sem.run, hi, hz, Result.andThen_ok, run_underlying hu, hm, hf', Sem.run_pure]
        · have := RepD.agg (E := E) (ok := ok) (w := w) l cells'.toList hc.1 hc.2.1 hc.2.2
          simpa using this
      · exact h.elim
  · rename_i n e hk
    have hu := ty_arr hT hk
    split at h
    · exact h.elim
    rename_i hkn
    split at h
    · rename_i hse
      split at h
      · rename_i hn
        split at h
        · rename_i hst
          split at h
          · rename_i l hl
            split at h
            · rename_i r hr
              split at h
              · rename_i hcell
                refine ⟨_, h, fun E ok w a o ho hq => ?_⟩
                obtain ⟨i, z, hi, hz, hs, hb, hzero, _, hone, hzs⟩ := ty_info hT (t := t) (by rw [hk]; simp)
                obtain ⟨rfl, hidx⟩ := allParts_some ρ parts.toList 0 l hl
                obtain ⟨hrl, hrv⟩ := toVs_some _ _ hr
                simp only [List.length_map, Array.length_toList] at hrl
                have hrep : ∀ j (hj : j < parts.toList.length) (hj' : j < r.length), Rep ok w (r[j]'hj') (a.eval (parts.toList[j]'hj).2) := by
                  intro j hj hj'
                  have h1 := hrv j (by simpa using hj) hj'
                  simp only [List.getElem_map] at h1
                  exact toV_sound hq.obj _ _ _ h1 (hq.opr _ (by
                    simp [Op.operands]
                    exact ⟨(parts.toList[j]'hj).1, by have h9 : parts[j]'(by simpa using hj) ∈ parts := Array.getElem_mem _; exact h9⟩))
                have hcl : ∀ j (hj : j < r.length), (r[j]'hj).cell = true := fun j hj => List.all_eq_true.1 hcell _ (List.getElem_mem hj)
                have hone1 : ∀ j (hj : j < parts.toList.length), (a.eval (parts.toList[j]'hj).2).cells = #[a.eval (parts.toList[j]'hj).2] := fun j hj => by
                  have hj' : j < r.length := by simp at hj; omega
                  exact ((hrep j hj hj').oneCell (hcl j hj')).1
                obtain ⟨cs, f1, f2, _, f4⟩ := fill_seq 1 (parts.toList.map fun p => (p.1, a.eval p.2)) 0 z.cells (fun j hj => by
                  simp only [List.getElem_map]; exact hidx j (by simpa using hj)) (fun p hp => by
                    obtain ⟨q, hq', rfl⟩ := List.mem_map.1 hp
                    obtain ⟨j, hj, rfl⟩ := List.getElem_of_mem hq'
                    rw [hone1 j hj]; rfl) (by simp; omega)
                have hcs : cs.size = n := by rw [f2]; omega
                refine does_v (s := Instr.build t (parts.map fun (i, x) => (i, a.eval x))) (v := .agg cs) (by simp only [execOp, ho]) ?_ (.v _ _ ?_)
                · have hp : (parts.map fun (i, x) => (i, a.eval x)).toList = parts.toList.map fun p => (p.1, a.eval p.2) := by simp
                  simp only [Instr.build, zeroValue, typeInfo, program, Sem.run_bind, Sem.run, hi, hz, Result.andThen_ok, run_underlying hu, ty_size hT (t := e) (w := w) (known_ne hkn), hse, hp, f1, Sem.run_pure]
                · have := Rep.agg (ok := ok) (w := w) r cs.toList (by simp; omega) hcl (fun j hj hj' => by
                    have hj'' : j < parts.toList.length := by simp; omega
                    have h5 := f4 j (by simpa using hj'') 0 (by omega)
                    simp only [Nat.zero_add, Nat.mul_one, Nat.add_zero, List.getElem_map, hone1 j hj''] at h5
                    have h6 : cs.toList[j]'hj' = a.eval (parts.toList[j]'hj'').2 := by
                      have := Array.getElem?_eq_getElem (xs := cs) (i := j) (by simpa using hj')
                      rw [this] at h5
                      simpa using h5
                    rw [h6]; exact hrep j hj'' hj)
                  simpa using this
              · exact h.elim
            · exact h.elim
          · exact h.elim
        · exact h.elim
      · exact h.elim
    · exact h.elim
  · exact h.elim

theorem q_makeInterface (ob : List (Nat × AObj)) (ρ : Operand → D) (t : TypeId) (x : Operand) (K : D → Prop) (h : qWp (std P R) ob ρ (.makeInterface t x) K) : ∃ d, K d ∧ Comes' P ob ρ (.makeInterface t x) d := by
  unfold qWp at h
  simp only at h
  split at h
  · exact h.elim
  · exact h.elim
  · rename_i h1 h2
    split at h
    · rename_i y hy
      refine ⟨_, h, fun E ok w a o ho hq => ?_⟩
      refine does_v (s := Instr.makeInterface t (a.eval x)) (v := .iface t (a.eval x)) (by simp only [execOp, ho]) ?_ (.v _ _ (.iface _ _ _ (toV_sound hq.obj _ _ _ hy (hq.opr x (by simp [Op.operands])))))
      have hk := ty_k hT (t := t) rfl h2
      unfold tkOf at hk
      cases hu : P.underlying t with
      | none => rw [hu] at hk; exact absurd hk.symm h2
      | some d =>
        rw [hu] at hk
        cases d <;> simp only at hk <;> first | exact absurd hk.symm h1 | exact absurd hk.symm h2 | simp [Instr.makeInterface, run_underlying hu]
    · exact h.elim

end
end Go.Proofs.Ytinckcpmkocakaa.AM
