/-
 The abstract machine, part 11: each quiet operation, V.
-/
import Derived.Test.YthioccbgjkbmdaaGreatM0463a52773
set_option linter.unusedVariables false
set_option linter.unusedSimpArgs false
namespace Go.Proofs.YthioccbgjkbmdaaGreat.AM
open Go Go.RowKit
theorem foldl_set (u : List Value) : ∀ (k off : Nat) (cells : Array Value), off + k + u.length ≤ cells.size →
  let r := (u.zipIdx k).foldl (fun (cs : Array Value) (p : Value × Nat) => cs.setIfInBounds (off + p.2) p.1) cells
  r.size = cells.size ∧ ∀ i, r[i]? = if off + k ≤ i ∧ i < off + k + u.length then u[i - (off + k)]? else cells[i]? := by
 induction u with
 | nil => intro k off cells h; exact ⟨rfl, fun i => by rw [if_neg (by intro h; simp at h; omega)]; rfl⟩
 | cons x r ih =>
  intro k off cells h
  simp only [List.length_cons] at h
  obtain ⟨h1, h2⟩ := ih (k + 1) off (cells.setIfInBounds (off + k) x) (by simp; omega)
  simp only [List.zipIdx_cons, List.foldl_cons]
  refine ⟨by rw [h1]; simp, fun i => ?_⟩
  rw [h2]
  simp only [List.length_cons]
  by_cases hi : i = off + k
  ·subst hi
   rw [if_neg (by omega), if_pos (by omega)]
   simp [Array.getElem?_setIfInBounds, show off + k < cells.size from by omega]
  ·by_cases hj : off + k + 1 ≤ i ∧ i < off + k + 1 + r.length
   ·rw [if_pos (by omega), if_pos (by omega)]
    rw [show i - (off + k) = (i - (off + (k + 1))) + 1 from by omega, List.getElem?_cons_succ]
   ·rw [if_neg (by omega), if_neg (by omega)]
    simp [Array.getElem?_setIfInBounds, show ¬ off + k = i from by omega]
theorem lay_get {α : Type} (cs l : List α) (off size : Nat) (hl : l.length = size) (ho : off + size ≤ cs.length) (i : Nat) : (cs.take off ++ l ++ cs.drop (off + size))[i]? = if off ≤ i ∧ i < off + size then l[i - off]? else cs[i]? := by
 simp only [List.getElem?_append, List.length_append, List.length_take, List.getElem?_take, List.getElem?_drop, hl]
 rw [show min off cs.length = off from by omega]
 by_cases h1 : i < off
 ·rw [if_pos (by omega), if_pos h1, if_pos h1, if_neg (by omega)]
 ·by_cases h2 : i < off + size
  ·rw [if_pos h2, if_neg h1, if_pos (by omega)]
  ·rw [if_neg h2, if_neg (by omega)]
   congr 1; omega
def CellsRep (E : Env) (ok : Oks) (w : World) (ds : List D) (us : List Value) : Prop :=
 us.length = ds.length ∧ (∀ u ∈ us, u.oneCell' = true) ∧ ∀ i (h : i < ds.length) (h' : i < us.length), RepD E ok w (ds[i]'h) (us[i]'h')
theorem cellsD_rep {E : Env} {ok : Oks} {w : World} {d : D} {l : List D} {u : Value} (h : cellsD d = some l) (r : RepD E ok w d u) : CellsRep E ok w l u.cells.toList := by
 cases r with
 | any => simp [cellsD] at h
 | ub b => simp [cellsD] at h
 | lit b => simp [cellsD] at h; subst h; exact ⟨rfl, by simp [Value.cells]; rfl, fun i h h' => by simp at h; subst h; simpa [Value.cells] using RepD.lit b⟩
 | nils => simp [cellsD] at h; subst h; exact ⟨rfl, by simp [Value.cells]; rfl, fun i h h' => by simp at h; subst h; simpa [Value.cells] using RepD.nils⟩
 | agg l' cs hl hc hr => simp [cellsD] at h; subst h; exact ⟨by simpa [Value.cells] using hl, by simpa [Value.cells] using hc, fun i h h' => hr i h h'⟩
 | tup => simp [cellsD] at h
 | ptr id off b hb => simp [cellsD] at h; subst h; exact ⟨rfl, by simp [Value.cells]; rfl, fun i h h' => by simp at h; subst h; simpa [Value.cells] using RepD.ptr id off b hb⟩
 | rptr id z i off b hb hi => simp [cellsD] at h; subst h; exact ⟨rfl, by simp [Value.cells]; rfl, fun i h h' => by simp at h; subst h; simpa [Value.cells] using RepD.rptr id z _ off b hb hi⟩
 | fn f cap cs hl hr => simp [cellsD] at h; subst h; exact ⟨rfl, by simp [Value.cells]; rfl, fun i h h' => by simp at h; subst h; simpa [Value.cells] using RepD.fn f cap cs hl hr⟩
 | own id => simp [cellsD] at h; subst h; exact ⟨rfl, by simp [Value.cells, Env.hdr]; rfl, fun i h h' => by simp at h; subst h; exact RepD.own id⟩
 | v x u hx =>
  by_cases hc : x.cell = true
  ·have h0 : cellsD (.v x) = some [.v x] := by cases x <;> simp [V.cell] at hc <;> rfl
   rw [h0] at h; simp at h; subst h
   obtain ⟨h1, h2⟩ := hx.oneCell hc
   rw [h1]
   exact ⟨rfl, by simpa using h2, fun i h h' => by simp at h; subst h; exact .v _ _ hx⟩
  ·cases hx with
   | agg l' cs hl hcell hr =>
    simp [cellsD] at h; subst h
    refine ⟨by simpa [Value.cells] using hl, fun u hu => ?_, fun i h h' => ?_⟩
    ·simp [Value.cells] at hu
     obtain ⟨j, hj, rfl⟩ := List.getElem_of_mem hu
     exact ((hr j (by omega) hj).oneCell (hcell j (by omega))).2
    ·simp [Value.cells] at h' ⊢
     exact .v _ _ (hr i (by simpa using h) h')
   | tup => simp [cellsD] at h
   | _ => simp [V.cell] at hc
theorem fill_sound {E : Env} {ok : Oks} {w : World} {place : Nat → Option (Nat × Nat)} (ρ : Operand → D) (ev : Operand → Value) : ∀ (parts : List (Nat × Operand)) (ds ds' : List D) (cells : Array Value),
  layD place ds (parts.map fun p => (p.1, ρ p.2)) = some ds' → CellsRep E ok w ds cells.toList → (∀ p ∈ parts, RepD E ok w (ρ p.2) (ev p.2)) →
  ∃ cells', Instr.fill place cells (parts.map fun p => (p.1, ev p.2)) = some cells' ∧ CellsRep E ok w ds' cells'.toList
 | [], ds, ds', cells, h, hc, hp => by
  simp [layD] at h; subst h
  exact ⟨cells, rfl, hc⟩
 | (i, x) :: r, ds, ds', cells, h, hc, hp => by
  simp only [List.map_cons] at h ⊢
  unfold layD at h
  split at h
  ·rename_i off size hpl
   split at h
   ·rename_i l hl
    split at h
    ·rename_i hsz
     split at h
     ·rename_i hle
      have hr := cellsD_rep hl (hp (i, x) (by simp))
      have hu : (ev x).cells.toList.length = size := by rw [hr.1, hsz]
      have hu' : (ev x).cells.size = size := by simpa using hu
      have hcs : cells.size = ds.length := by simpa using hc.1
      have hf := foldl_set (ev x).cells.toList 0 off cells (by rw [hu, hcs]; omega)
      simp only at hf
      obtain ⟨f1, f2⟩ := hf
      have e : ((ev x).cells.zipIdx.foldl (fun cs (c, j) => cs.setIfInBounds (off + j) c) cells) = ((ev x).cells.toList.zipIdx 0).foldl (fun (cs : Array Value) (p : Value × Nat) => cs.setIfInBounds (off + p.2) p.1) cells := by
       rw [← Array.foldl_toList]
       simp
      unfold Instr.fill
      simp only [hpl]
      rw [if_neg (by simp [hu', hcs]; omega)]
      rw [e]
      refine fill_sound ρ ev r _ ds' _ h ?_ (fun p hp' => hp p (by simp [hp']))
      have hlen : (ds.take off ++ l ++ ds.drop (off + size)).length = ds.length := by simp; omega
      have get : ∀ (j : Nat) (u : Value), (((ev x).cells.toList.zipIdx 0).foldl (fun (cs : Array Value) (p : Value × Nat) => cs.setIfInBounds (off + p.2) p.1) cells).toList[j]? = some u → u.oneCell' = true ∧ ∀ d, (ds.take off ++ l ++ ds.drop (off + size))[j]? = some d → RepD E ok w d u := by
       intro j u hj
       rw [Array.getElem?_toList, f2] at hj
       rw [lay_get ds l off size hsz hle]
       by_cases hin : off ≤ j ∧ j < off + size
       ·rw [if_pos (by rw [hu]; omega)] at hj
        rw [if_pos hin]
        obtain ⟨q1, rfl⟩ := List.getElem?_eq_some_iff.1 hj
        refine ⟨hr.2.1 _ (List.getElem_mem _), fun d hd => ?_⟩
        obtain ⟨q2, rfl⟩ := List.getElem?_eq_some_iff.1 hd
        exact hr.2.2 (j - off) q2 q1
       ·rw [if_neg (by rw [hu]; omega)] at hj
        rw [if_neg hin]
        rw [← Array.getElem?_toList] at hj
        obtain ⟨q1, rfl⟩ := List.getElem?_eq_some_iff.1 hj
        refine ⟨hc.2.1 _ (List.getElem_mem _), fun d hd => ?_⟩
        obtain ⟨q2, rfl⟩ := List.getElem?_eq_some_iff.1 hd
        exact hc.2.2 j q2 q1
      refine ⟨by rw [hlen]; simp [f1, hcs], fun u hu => ?_, fun j h1 h2 => ?_⟩
      ·obtain ⟨j, hj, rfl⟩ := List.getElem_of_mem hu
       exact (get j _ (List.getElem?_eq_getElem hj)).1
      ·exact (get j _ (List.getElem?_eq_getElem h2)).2 _ (List.getElem?_eq_getElem h1)
     ·simp at h
    ·simp at h
   ·simp at h
  ·simp at h
theorem cellsRep_zero (E : Env) (ok : Oks) (w : World) (us : List Value) (h1 : ∀ u ∈ us, u.oneCell' = true) : CellsRep E ok w (us.map constD1) us :=
 ⟨by simp, h1, fun i h h' => by simp only [List.getElem_map]; exact constD1_rep _ _ _ _⟩
open Go Go.RowKit
theorem allParts_some (ρ : Operand → D) : ∀ (parts : List (Nat × Operand)) (k : Nat) (l : List D), allParts k (parts.map fun p => (p.1, ρ p.2)) = some l →
  l = parts.map (fun p => ρ p.2) ∧ ∀ i (h : i < parts.length), (parts[i]'h).1 = k + i
 | [], k, l, h => by simp [allParts] at h; subst h; simp
 | (j, x) :: r, k, l, h => by
  simp only [List.map_cons] at h
  unfold allParts at h
  split at h
  ·rename_i hj
   split at h
   ·rename_i l' hl'
    simp at h; subst h
    obtain ⟨h1, h2⟩ := allParts_some ρ r (k + 1) l' hl'
    refine ⟨by rw [h1]; rfl, fun i hi => ?_⟩
    cases i with
    | zero => simpa using hj
    | succ i =>
     have := h2 i (by simpa using hi)
     simp only [List.getElem_cons_succ]; omega
   ·simp at h
  ·simp at h
theorem fill_seq (size : Nat) : ∀ (parts : List (Nat × Value)) (k : Nat) (cells : Array Value), (∀ i (h : i < parts.length), (parts[i]'h).1 = k + i) → (∀ p ∈ parts, p.2.cells.size = size) → (k + parts.length) * size ≤ cells.size →
  ∃ r, Instr.fill (fun i => some (i * size, size)) cells parts = some r ∧ r.size = cells.size ∧ (∀ j, j < k * size → r[j]? = cells[j]?) ∧ ∀ i (h : i < parts.length) j, j < size → r[(k + i) * size + j]? = (parts[i]'h).2.cells[j]?
 | [], k, cells, hi, hs, hc => ⟨cells, rfl, rfl, fun _ _ => rfl, fun i h => by simp at h⟩
 | (i, u) :: r, k, cells, hi, hs, hc => by
  have e0 : i = k := by have := hi 0 (by simp); simpa using this
  subst e0
  have hu : u.cells.size = size := hs (i, u) (by simp)
  have hm : (i + (r.length + 1)) * size = i * size + size + r.length * size := by rw [Nat.add_mul, Nat.add_mul]; omega
  simp only [List.length_cons] at hc
  have hf := foldl_set u.cells.toList 0 (i * size) cells (by simp [hu]; omega)
  simp only at hf
  obtain ⟨f1, f2⟩ := hf
  have e : (u.cells.zipIdx.foldl (fun cs (c, j) => cs.setIfInBounds (i * size + j) c) cells) = (u.cells.toList.zipIdx 0).foldl (fun (cs : Array Value) (p : Value × Nat) => cs.setIfInBounds (i * size + p.2) p.1) cells := by
   rw [← Array.foldl_toList]
   simp
  have hsz : (i + 1 + r.length) * size ≤ ((u.cells.toList.zipIdx 0).foldl (fun (cs : Array Value) (p : Value × Nat) => cs.setIfInBounds (i * size + p.2) p.1) cells).size := by
   rw [f1, show i + 1 + r.length = i + (r.length + 1) from by omega]; exact hc
  obtain ⟨x, h1, h2, h3, h4⟩ := fill_seq size r (i + 1) ((u.cells.toList.zipIdx 0).foldl (fun (cs : Array Value) (p : Value × Nat) => cs.setIfInBounds (i * size + p.2) p.1) cells)
   (fun j hj => by have := hi (j + 1) (by simpa using hj); simp only [List.getElem_cons_succ] at this; omega) (fun p hp => hs p (by simp [hp])) hsz
  refine ⟨x, ?_, by rw [h2, f1], fun j hj => ?_, fun j hj q hq => ?_⟩
  ·unfold Instr.fill
   simp only
   rw [if_neg (by simp [hu]; omega), e, h1]
  ·rw [h3 j (by rw [Nat.add_mul]; omega), f2, if_neg (by omega)]
  ·cases j with
   | zero =>
    rw [Nat.add_zero, h3 _ (by rw [Nat.add_mul]; omega), f2, if_pos (by simp [hu]; omega)]
    simp
   | succ j =>
    have := h4 j (by simpa using hj) q hq
    rw [show i + (j + 1) = i + 1 + j from by omega]
    simpa using this
theorem toVs_some {ob : List (Nat × AObj)} : ∀ (l : List D) (r : List V), toVs ob l = some r → r.length = l.length ∧ ∀ i (h : i < l.length) (h' : i < r.length), toV ob (l[i]'h) = some (r[i]'h')
 | [], r, h => by simp [toVs] at h; subst h; simp
 | d :: l, r, h => by
  unfold toVs at h
  split at h
  ·rename_i x hx
   split at h
   ·rename_i y hy
    simp at h; subst h
    obtain ⟨h1, h2⟩ := toVs_some l y hy
    refine ⟨by simp [h1], fun i hi hi' => ?_⟩
    cases i with
    | zero => exact hx
    | succ i => exact h2 i (by simpa using hi) (by simpa using hi')
   ·simp at h
  ·simp at h
theorem rep_cells {ok : Oks} {w : World} {x : V} {u : Value} (h : Rep ok w x u) (ht : ∀ l, x ≠ .tup l) : u.cells.size = x.flat.length ∧ ∀ j (hj : j < x.flat.length), (x.flat[j]'hj).cell = true ∧ ∃ v, u.cells[j]? = some v ∧ Rep ok w (x.flat[j]'hj) v := by
 by_cases hc : x.cell = true
 ·obtain ⟨h1, h2⟩ := h.oneCell hc
  rw [h1, cell_flat hc]
  refine ⟨rfl, fun j hj => ?_⟩
  simp at hj; subst hj
  exact ⟨hc, u, rfl, h⟩
 ·cases h with
  | agg l cs hl hcell hr =>
   refine ⟨by simpa [Value.cells, V.flat] using hl, fun j hj => ?_⟩
   simp only [V.flat] at hj ⊢
   exact ⟨hcell j hj, cs[j]'(by omega), by simp [Value.cells], hr j hj (by omega)⟩
  | tup l => exact absurd rfl (ht l)
  | _ => simp [V.cell] at hc
theorem row_alloc {ok : Oks} {w : World} {z n : Nat} {l : List V} {cs : Array Value} {e : TypeId} (hz : ∀ i (h : i < l.length), (l[i]'h).flat.length = z)
  (hr : ∀ i (h : i < l.length) j (hj : j < (l[i]'h).flat.length), ((l[i]'h).flat[j]'hj).cell = true ∧ ∃ v, cs[i * z + j]? = some v ∧ Rep ok w ((l[i]'h).flat[j]'hj) v) (hb : ∀ b o, ok b o → b < w.heap.size) :
  RowAt (okAdd ok w.heap.size n) (w.alloc (.cells cs e)) w.heap.size 0 z l := by
 have hs := (Grow.alloc w ok (.cells cs e) n).same hb
 refine ⟨hz, fun i hi j hj => (hr i hi j hj).1, fun i hi j hj => ?_⟩
 obtain ⟨_, v, hv, hx⟩ := hr i hi j hj
 refine ⟨v, ?_, hx.mono hs⟩
 rw [cell_of_heap (heap_alloc_new w _), Nat.zero_add]
 exact hv
section
variable {P : Program} {R : List (Nat × AObj) → List D → Prop} (hT : tableOf P = T)
include hT
theorem run_mapM_size (l : List Field) (w : World) (h : ∀ f ∈ l, known (tyOf f.type).k = true) : (l.mapM fun f => do pure (f.offset, ← sizeOf f.type) : Sem (List (Nat × Nat))).run P w = .ok (l.map fun f => (f.offset, (tyOf f.type).size)) w := by
 induction l with
 | nil => rfl
 | cons f r ih =>
  have h1 := ih fun g hg => h g (by simp [hg])
  simp only [List.mapM_cons, Sem.run_bind, ty_size hT (known_ne' (h f (by simp))), Result.andThen_ok, Sem.run_pure, h1, List.map_cons]
theorem q_build (ob : List (Nat × AObj)) (ρ : Operand → D) (t : TypeId) (parts : Array (Nat × Operand)) (K : D → Prop) (h : qWp (std P R) ob ρ (.build t parts) K) : ∃ d, K d ∧ Comes' P ob ρ (.build t parts) d := by
 unfold qWp at h
 simp only at h
 split at h
 ·rename_i fs hk
  obtain ⟨fields, hu, rfl⟩ := ty_struct hT hk
  split at h
  ·exact h.elim
  ·rename_i hall
   have hall' : ∀ f ∈ fields.toList, known (tyOf f.type).k = true := by
    simp only [Bool.not_eq_false, List.all_eq_true] at hall
    exact fun f hf => hall (f.offset, f.type) (List.mem_map.2 ⟨f, hf, rfl⟩)
   split at h
   ·rename_i l hl
    refine ⟨_, h, fun E ok w a o ho hq => ?_⟩
    obtain ⟨i, z, hi, hz, hs, hb, hzero, _, hone, hzs⟩ := ty_info hT (t := t) (by rw [hk]; simp)
    rw [hzero] at hl
    obtain ⟨cells', hf, hc⟩ := fill_sound (E := E) (ok := ok) (w := w) ρ a.eval parts.toList _ _ z.cells hl (cellsRep_zero E ok w _ hone) (fun p hp => hq.opr _ (by simp [Op.operands]; exact ⟨_, by simpa using hp⟩))
    refine does_v (s := Instr.build t (parts.map fun (i, x) => (i, a.eval x))) (v := .agg cells') (by simp only [execOp, ho]) ?_ ?_
    ·have hm : (fields.mapM fun f => do pure (f.offset, ← sizeOf f.type) : Sem (Array (Nat × Nat))).run P w = .ok (fields.map fun f => (f.offset, (tyOf f.type).size)) w := by
      rw [Array.mapM_eq_mapM_toList]
      simp only [Sem.run_map, run_mapM_size hT fields.toList w hall', Result.andThen_ok]
      congr 1
      apply Array.ext'
      simp
     have hf' : Instr.fill (fun x => (fields.map fun f => (f.offset, (tyOf f.type).size))[x]?) z.cells (parts.map fun (i, x) => (i, a.eval x)).toList = some cells' := by
      rw [← hf]
      congr 1
      ·funext j
       rw [look?_eq]
       simp
       cases fields[j]? <;> rfl
      ·simp
     simp only [Instr.build, zeroValue, typeInfo, program, Sem.run_bind, Sem.run, hi, hz, Result.andThen_ok, run_underlying hu, hm, hf', Sem.run_pure]
    ·have := RepD.agg (E := E) (ok := ok) (w := w) l cells'.toList hc.1 hc.2.1 hc.2.2
     simpa using this
   ·exact h.elim
 ·rename_i n e hk
  have hu := ty_arr hT hk
  split at h
  ·exact h.elim
  rename_i hkn
  split at h
  ·rename_i hse
   split at h
   ·rename_i hn
    split at h
    ·rename_i hst
     split at h
     ·rename_i l hl
      split at h
      ·rename_i r hr
       split at h
       ·rename_i hcell
        refine ⟨_, h, fun E ok w a o ho hq => ?_⟩
        obtain ⟨i, z, hi, hz, hs, hb, hzero, _, hone, hzs⟩ := ty_info hT (t := t) (by rw [hk]; simp)
        obtain ⟨rfl, hidx⟩ := allParts_some ρ parts.toList 0 l hl
        obtain ⟨hrl, hrv⟩ := toVs_some _ _ hr
        simp only [List.length_map, Array.length_toList] at hrl
        have hrep : ∀ j (hj : j < parts.toList.length) (hj' : j < r.length), Rep ok w (r[j]'hj') (a.eval (parts.toList[j]'hj).2) := by
         intro j hj hj'
         have h1 := hrv j (by simpa using hj) hj'
         simp only [List.getElem_map] at h1
         exact toV_sound hq.obj _ _ _ h1 (hq.opr _ (by
          simp [Op.operands]
          exact ⟨(parts.toList[j]'hj).1, by have h9 : parts[j]'(by simpa using hj) ∈ parts := Array.getElem_mem _; exact h9⟩))
        have hcl : ∀ j (hj : j < r.length), (r[j]'hj).cell = true := fun j hj => List.all_eq_true.1 hcell _ (List.getElem_mem hj)
        have hone1 : ∀ j (hj : j < parts.toList.length), (a.eval (parts.toList[j]'hj).2).cells = #[a.eval (parts.toList[j]'hj).2] := fun j hj => by
         have hj' : j < r.length := by simp at hj; omega
         exact ((hrep j hj hj').oneCell (hcl j hj')).1
        obtain ⟨cs, f1, f2, _, f4⟩ := fill_seq 1 (parts.toList.map fun p => (p.1, a.eval p.2)) 0 z.cells (fun j hj => by
         simp only [List.getElem_map]; exact hidx j (by simpa using hj)) (fun p hp => by
          obtain ⟨q, hq', rfl⟩ := List.mem_map.1 hp
          obtain ⟨j, hj, rfl⟩ := List.getElem_of_mem hq'
          rw [hone1 j hj]; rfl) (by simp; omega)
        have hcs : cs.size = n := by rw [f2]; omega
        refine does_v (s := Instr.build t (parts.map fun (i, x) => (i, a.eval x))) (v := .agg cs) (by simp only [execOp, ho]) ?_ (.v _ _ ?_)
        ·have hp : (parts.map fun (i, x) => (i, a.eval x)).toList = parts.toList.map fun p => (p.1, a.eval p.2) := by simp
         simp only [Instr.build, zeroValue, typeInfo, program, Sem.run_bind, Sem.run, hi, hz, Result.andThen_ok, run_underlying hu, ty_size hT (t := e) (w := w) (known_ne hkn), hse, hp, f1, Sem.run_pure]
        ·have := Rep.agg (ok := ok) (w := w) r cs.toList (by simp; omega) hcl (fun j hj hj' => by
          have hj'' : j < parts.toList.length := by simp; omega
          have h5 := f4 j (by simpa using hj'') 0 (by omega)
          simp only [Nat.zero_add, Nat.mul_one, Nat.add_zero, List.getElem_map, hone1 j hj''] at h5
          have h6 : cs.toList[j]'hj' = a.eval (parts.toList[j]'hj'').2 := by
           have := Array.getElem?_eq_getElem (xs := cs) (i := j) (by simpa using hj')
           rw [this] at h5
           simpa using h5
          rw [h6]; exact hrep j hj'' hj)
         simpa using this
       ·exact h.elim
      ·exact h.elim
     ·exact h.elim
    ·exact h.elim
   ·exact h.elim
  ·exact h.elim
 ·exact h.elim
theorem q_makeInterface (ob : List (Nat × AObj)) (ρ : Operand → D) (t : TypeId) (x : Operand) (K : D → Prop) (h : qWp (std P R) ob ρ (.makeInterface t x) K) : ∃ d, K d ∧ Comes' P ob ρ (.makeInterface t x) d := by
 unfold qWp at h
 simp only at h
 split at h
 ·exact h.elim
 ·exact h.elim
 ·rename_i h1 h2
  split at h
  ·rename_i y hy
   refine ⟨_, h, fun E ok w a o ho hq => ?_⟩
   refine does_v (s := Instr.makeInterface t (a.eval x)) (v := .iface t (a.eval x)) (by simp only [execOp, ho]) ?_ (.v _ _ (.iface _ _ _ (toV_sound hq.obj _ _ _ hy (hq.opr x (by simp [Op.operands])))))
   have hk := ty_k hT (t := t) rfl h2
   unfold tkOf at hk
   cases hu : P.underlying t with
   | none => rw [hu] at hk; exact absurd hk.symm h2
   | some d =>
    rw [hu] at hk
    cases d <;> simp only at hk <;> first | exact absurd hk.symm h1 | exact absurd hk.symm h2 | simp [Instr.makeInterface, run_underlying hu]
  ·exact h.elim
end
open Go Go.RowKit
theorem rep_alloc_row {ok : Oks} {w : World} {z cap : Nat} {l : List V} {cs : Array Value} {e : TypeId} (hz : ∀ i (h : i < l.length), (l[i]'h).flat.length = z)
  (hr : ∀ i (h : i < l.length) j (hj : j < (l[i]'h).flat.length), ((l[i]'h).flat[j]'hj).cell = true ∧ ∃ v, cs[i * z + j]? = some v ∧ Rep ok w ((l[i]'h).flat[j]'hj) v) (hb : ∀ b o, ok b o → b < w.heap.size) (hc : l.length ≤ cap) (hm : cap ≤ maxLen) :
  Rep (okAdd ok w.heap.size (l.length * z)) (w.alloc (.cells cs e)) (.slice l) (.slice (some ⟨w.heap.size, 0, none⟩) l.length cap) :=
 rep_row (row_alloc hz hr hb) (fun j hj => .inr ⟨rfl, by omega⟩) hc hm
section
variable {P : Program} {R : List (Nat × AObj) → List D → Prop}
theorem q_len (hT : tableOf P = T) (ob : List (Nat × AObj)) (ρ : Operand → D) (c : Call) (x : Operand) (t : TypeId) (hc : c.callee = .builtin .len) (ha : c.args.toList = [x]) (ht : c.argTypes.toList = [t]) (K : D → Prop) (h : lenD (std P R) t ob (ρ x) K) : ∃ d, K d ∧ Comes' P ob ρ (.call c) d := by
 have ea : c.args = #[x] := by apply Array.ext'; simpa using ha
 have et : c.argTypes = #[t] := by apply Array.ext'; simpa using ht
 have ex : ∀ (a : Act) (o : Oper), o.op = .call c → ∀ w v, (Builtin.len_ #[t] o.type #[a.eval x]).run P w = .ok v w → (execOp a.eval o).run P w = .ok (.value v) w := by
  intro a o ho w v hv
  simp [execOp, ho, resolve, hc, ea, et, invoke, builtin, hv]
 have hmem : x ∈ (Op.call c).operands.toList := by simp [Op.operands, Call.operands, hc, ea]
 unfold lenD at h
 split at h
 ·rename_i hk
  have hu := ty_str hT hk
  split at h
  ·rename_i s hx
   refine ⟨_, h, fun E ok w a o ho hq => does_run (ex a o ho w _ ?_) (.v _ _ (.int _ _))⟩
   rw [show a.eval x = .string ⟨s.toArray⟩ from repD_str (hx ▸ hq.opr x hmem)]
   simp [Builtin.len_, run_underlying hu, goInt, size_mk, std]
  ·exact h.elim
 ·rename_i e hk
  have hu := ty_slice hT hk
  have run : ∀ (ad : Option Addr) (n c : Nat) (w : World), (Builtin.len_ #[t] 0 #[.slice ad n c]).run P w = .ok (.int .i64 n) w := by
   intro ad n c w; simp [Builtin.len_, run_underlying hu, goInt]
  split at h
  ·rename_i l hx
   refine ⟨_, h, fun E ok w a o ho hq => does_run (ex a o ho w _ ?_) (.v _ _ (.int _ _))⟩
   obtain ⟨ad, c', he, _⟩ := slice_row (repD_v (hx ▸ hq.opr x hmem))
   rw [he]; exact run _ _ _ _
  ·rename_i hx
   refine ⟨_, h, fun E ok w a o ho hq => does_run (ex a o ho w _ ?_) (.v _ _ (.int _ _))⟩
   rw [show a.eval x = .slice none 0 0 from rep_nils (repD_v (hx ▸ hq.opr x hmem))]; exact run _ _ _ _
  ·rename_i hx
   refine ⟨_, h, fun E ok w a o ho hq => does_run (ex a o ho w _ ?_) (.v _ _ (.int _ _))⟩
   rw [show a.eval x = .slice none 0 0 from repD_nils (hx ▸ hq.opr x hmem)]; exact run _ _ _ _
  ·rename_i id hx
   split at h
   ·rename_i z l e' hrow
    refine ⟨_, h, fun E ok w a o ho hq => does_run (ex a o ho w _ ?_) (.v _ _ (.int _ _))⟩
    obtain ⟨ad, c', he, _⟩ := own_slice (hq.obj _ _ (rowOf_some hrow))
    rw [show a.eval x = E.hdr id from repD_own (hx ▸ hq.opr x hmem), he]; exact run _ _ _ _
   ·exact h.elim
  ·exact h.elim
 ·rename_i n e hk
  have hu := ty_arr hT hk
  refine ⟨_, h, fun E ok w a o ho hq => does_run (ex a o ho w (.int .i64 n) ?_) (.v _ _ (.int _ _))⟩
  simp [Builtin.len_, run_underlying hu, goInt]
 ·exact h.elim
theorem min_go (mx : Bool) (ρ : Operand → D) : ∀ (xs : List Operand) (d : D) (K : D → Prop), minD.go (std P R) mx d (xs.map ρ) K →
  ∃ d', K d' ∧ ∀ (ev : Operand → Value), (∀ x ∈ xs, ∀ k n, ρ x = .v (.int k n) → ev x = .int k n) → ∀ (u : Value) (rp : D → Value → Prop), rp d u → (∀ k n v, rp (.v (.int k n)) v → v = .int k n) → (∀ k n, rp (.v (.int k n)) (.int k n)) → ∀ w, ∃ v, ((xs.map ev).foldlM (if mx then Builtin.max2 else Builtin.min2) u : Sem Value).run P w = .ok v w ∧ rp d' v
 | [], d, K, h => by
  simp only [List.map_nil, minD.go] at h
  exact ⟨d, h, fun ev _ u rp h0 h1 h2 w => ⟨u, rfl, h0⟩⟩
 | x :: r, d, K, h => by
  simp only [List.map_cons] at h
  cases hx : ρ x with
  | v y =>
   cases y with
   | int k' b =>
    rw [hx] at h
    cases d with
    | v d0 =>
     cases d0 with
     | int k a =>
      simp only [minD.go] at h
      split at h
      ·rename_i hk
       have hk := keq_eq hk
       subst hk
       obtain ⟨d', hK, hrun⟩ := min_go mx ρ r _ K h
       refine ⟨d', hK, fun ev hrep u rp h0 h1 h2 w => ?_⟩
       have hrep' := fun y (hy : y ∈ r) => hrep y (List.mem_cons_of_mem _ hy)
       have hu := h1 _ _ _ h0
       subst hu
       cases mx
       ·obtain ⟨v, g1, g2⟩ := hrun ev hrep' (.int k (if b < a then b else a)) rp (h2 _ _) h1 h2 w
        refine ⟨v, ?_, g2⟩
        simp only [Bool.false_eq_true, if_false] at g1 ⊢
        rw [List.map_cons, List.foldlM_cons, hrep x (by simp) k b hx]
        simp only [Sem.run_bind, Builtin.min2, Sem.run_pure, Result.andThen_ok]
        exact g1
       ·obtain ⟨v, g1, g2⟩ := hrun ev hrep' (.int k (if b > a then b else a)) rp (h2 _ _) h1 h2 w
        refine ⟨v, ?_, g2⟩
        simp only [if_true] at g1 ⊢
        rw [List.map_cons, List.foldlM_cons, hrep x (by simp) k b hx]
        simp only [Sem.run_bind, Builtin.max2, Sem.run_pure, Result.andThen_ok]
        exact g1
      ·exact h.elim
     | _ => simp [minD.go] at h
    | _ => simp [minD.go] at h
   | _ => rw [hx] at h; cases d <;> (try (rename_i d0; cases d0)) <;> simp [minD.go] at h
  | _ => rw [hx] at h; cases d <;> (try (rename_i d0; cases d0)) <;> simp [minD.go] at h
theorem q_min (mx : Bool) (ob : List (Nat × AObj)) (ρ : Operand → D) (c : Call) (hc : c.callee = .builtin (if mx then .max else .min)) (K : D → Prop) (h : minD (std P R) mx (c.args.toList.map ρ) K) : ∃ d, K d ∧ Comes' P ob ρ (.call c) d := by
 cases hargs : c.args.toList with
 | nil => rw [hargs] at h; exact h.elim
 | cons x r =>
  rw [hargs] at h
  simp only [List.map_cons, minD] at h
  have ea : c.args = (x :: r).toArray := by apply Array.ext'; simpa using hargs
  have hmem : ∀ y ∈ x :: r, y ∈ (Op.call c).operands.toList := fun y hy => by
   rw [← hargs] at hy
   simp only [Op.operands, Call.operands, Array.toList_append, List.mem_append]
   exact .inr hy
  obtain ⟨d', hK, hrun⟩ := min_go (P := P) (R := R) mx ρ r (ρ x) K h
  refine ⟨d', hK, fun E ok w a o ho hq => ?_⟩
  obtain ⟨v, h1, h2⟩ := hrun a.eval (fun y hy k n q => repD_int (q ▸ hq.opr y (hmem y (by simp [hy])))) (a.eval x) (RepD E ok w) (hq.opr x (hmem x (by simp))) (fun k n v q => repD_int q) (fun k n => .v _ _ (.int _ _)) w
  refine does_run (v := v) ?_ h2
  have em : (c.args.map a.eval).toList = a.eval x :: r.map a.eval := by rw [ea]; simp
  cases mx
  ·simp only [Bool.false_eq_true, if_false] at hc h1
   simp only [execOp, ho, resolve, hc, Sem.run_bind, Sem.run_pure, Result.andThen_ok, invoke, builtin, Builtin.min_, em, h1]
  ·simp only [if_true] at hc h1
   simp only [execOp, ho, resolve, hc, Sem.run_bind, Sem.run_pure, Result.andThen_ok, invoke, builtin, Builtin.max_, em, h1]
theorem sliceVals {z : Nat} {l : List V} (h : l.all (fun x => x.flat.length == z && x.flat.all V.cell) = true) : (∀ i (h : i < l.length), (l[i]'h).flat.length = z) ∧ ∀ i (h : i < l.length) j (hj : j < (l[i]'h).flat.length), ((l[i]'h).flat[j]'hj).cell = true := by
 rw [List.all_eq_true] at h
 refine ⟨fun i hi => ?_, fun i hi j hj => ?_⟩
 ·have := h _ (List.getElem_mem hi)
  simp only [Bool.and_eq_true, beq_iff_eq] at this
  exact this.1
 ·have := h _ (List.getElem_mem hi)
  simp only [Bool.and_eq_true] at this
  exact List.all_eq_true.1 this.2 _ (List.getElem_mem hj)
theorem run_buildSlice (hT : tableOf P = T) {ob : List (Nat × AObj)} {ρ : Operand → D} {t e n : Nat} {parts : Array (Nat × Operand)} {ld : List D} {l : List V} (hk : (tyOf t).k = .slice e) (hkn : known (tyOf e).k = true) (hn : parts.size = n) (hsz : n * (tyOf e).size ≤ 16777216)
  (hp : allParts 0 (parts.toList.map fun p => (p.1, ρ p.2)) = some ld) (hv : toVs ob ld = some l) (hl : l.all (fun x => x.flat.length == (tyOf e).size && x.flat.all V.cell) = true)
  {E : Env} {ok : Oks} {w : World} {a : Act} (hq : QH E ok w a ob ρ (.buildSlice t n parts)) :
  ∃ cs : Array Value, (Instr.buildSlice t n (parts.map fun (i, x) => (i, a.eval x))).run P w = .ok (.slice (some ⟨w.heap.size, 0, none⟩) n n) (w.alloc (.cells cs e)) ∧ l.length = n ∧ cs.size = n * (tyOf e).size ∧
   ∀ i (h : i < l.length) j (hj : j < (l[i]'h).flat.length), ((l[i]'h).flat[j]'hj).cell = true ∧ ∃ v, cs[i * (tyOf e).size + j]? = some v ∧ Rep ok w ((l[i]'h).flat[j]'hj) v := by
 have hu := ty_slice hT hk
 obtain ⟨i0, z0, hi, hz, hs, hb, hzero, _, hone, hzs⟩ := ty_info hT (t := e) (known_ne' hkn)
 obtain ⟨rfl, hidx⟩ := allParts_some ρ parts.toList 0 ld hp
 obtain ⟨hrl, hrv⟩ := toVs_some _ _ hv
 simp only [List.length_map, Array.length_toList] at hrl
 obtain ⟨hz1, hz2⟩ := sliceVals hl
 have hnt : ∀ x ∈ l, ∀ y, x ≠ .tup y := by
  intro x hx y he
  have := List.all_eq_true.1 hl x hx
  subst he
  simp [V.flat, V.cell] at this
 have hrep : ∀ j (hj : j < parts.toList.length) (hj' : j < l.length), Rep ok w (l[j]'hj') (a.eval (parts.toList[j]'hj).2) := by
  intro j hj hj'
  have h1 := hrv j (by simpa using hj) hj'
  simp only [List.getElem_map] at h1
  exact toV_sound hq.obj _ _ _ h1 (hq.opr _ (by
   simp [Op.operands]
   exact ⟨(parts.toList[j]'hj).1, by have h9 : parts[j]'(by simpa using hj) ∈ parts := Array.getElem_mem _; exact h9⟩))
 have hcells : ∀ j (hj : j < parts.toList.length), (a.eval (parts.toList[j]'hj).2).cells.size = (tyOf e).size := fun j hj => by
  have hj' : j < l.length := by simp at hj; omega
  rw [(rep_cells (hrep j hj hj') (hnt _ (List.getElem_mem hj'))).1]
  exact hz1 j hj'
 have hzc : ((if n * (tyOf e).size = 0 then pure #[] else do pure (← zeroValue e).cells) : Sem (Array Value)).run P w = .ok (if n * (tyOf e).size = 0 then #[] else z0.cells) w := by
  split
  ·rfl
  ·simp [zeroValue, typeInfo, program, Sem.run, hi, hz]
 obtain ⟨cs, f1, f2, _, f4⟩ := fill_seq (tyOf e).size (parts.toList.map fun p => (p.1, a.eval p.2)) 0 ((Array.range (n * (tyOf e).size)).map ((if n * (tyOf e).size = 0 then #[] else z0.cells)[· % (if n * (tyOf e).size = 0 then #[] else z0.cells).size]!)) (fun j hj => by
   simp only [List.getElem_map]; exact hidx j (by simpa using hj)) (fun p hp => by
    obtain ⟨q, hq', rfl⟩ := List.mem_map.1 hp
    obtain ⟨j, hj, rfl⟩ := List.getElem_of_mem hq'
    exact hcells j hj) (by simp [hn])
 refine ⟨cs, ?_, by omega, by rw [f2]; simp, fun i hi' j hj => ?_⟩
 ·have hpp : (parts.map fun (i, x) => (i, a.eval x)).toList = parts.toList.map fun p => (p.1, a.eval p.2) := by simp
  have hng : ¬ n * (tyOf e).size > 2 ^ 24 := by omega
  by_cases h0 : n * (tyOf e).size = 0
  ·rw [if_pos h0] at f1
   simp only [Instr.buildSlice, Sem.run_bind, run_underlying hu, Result.andThen_ok, ty_size hT (known_ne' hkn), hng, if_false, if_pos h0, hpp, f1, newRow, Sem.run_pure, Sem.run_map]
   simp [newObj, Sem.run]
  ·rw [if_neg h0] at f1
   have hzr : (zeroValue e).run P w = .ok z0 w := by simp [zeroValue, typeInfo, program, Sem.run, hi, hz]
   simp only [Instr.buildSlice, Sem.run_bind, run_underlying hu, Result.andThen_ok, ty_size hT (known_ne' hkn), hng, if_false, if_neg h0, hpp, f1, newRow, Sem.run_pure, Sem.run_map, hzr]
   simp [newObj, Sem.run]
 ·have hi2 : i < parts.toList.length := by simp; omega
  obtain ⟨_, g2⟩ := rep_cells (hrep i hi2 hi') (hnt _ (List.getElem_mem hi'))
  obtain ⟨g3, v, g4, g5⟩ := g2 j hj
  refine ⟨g3, v, ?_, g5⟩
  have h5 := f4 i (by simpa using hi2) j (by rw [← hz1 i hi']; exact hj)
  simp only [Nat.zero_add, List.getElem_map] at h5
  rw [h5]; exact g4
theorem q_buildSlice (hT : tableOf P = T) (ob : List (Nat × AObj)) (ρ : Operand → D) (t n : Nat) (parts : Array (Nat × Operand)) (K : D → Prop) (h : qWp (std P R) ob ρ (.buildSlice t n parts) K) :
  ∃ l : List V, K (.v (.slice l)) ∧ ∃ e, (tyOf t).k = .slice e ∧ known (tyOf e).k = true ∧ (∀ (E : Env) (ok : Oks) (w : World) (a : Act), QH E ok w a ob ρ (.buildSlice t n parts) →
   ∃ cs : Array Value, (Instr.buildSlice t n (parts.map fun (i, x) => (i, a.eval x))).run P w = .ok (.slice (some ⟨w.heap.size, 0, none⟩) n n) (w.alloc (.cells cs e)) ∧ l.length = n ∧ n ≤ maxLen ∧ cs.size = n * (tyOf e).size ∧ (∀ i (h : i < l.length), (l[i]'h).flat.length = (tyOf e).size) ∧
    ∀ i (h : i < l.length) j (hj : j < (l[i]'h).flat.length), ((l[i]'h).flat[j]'hj).cell = true ∧ ∃ v, cs[i * (tyOf e).size + j]? = some v ∧ Rep ok w ((l[i]'h).flat[j]'hj) v) := by
 unfold qWp at h
 simp only at h
 split at h
 ·rename_i e hk
  split at h
  ·exact h.elim
  ·rename_i hkn
   split at h
   ·rename_i hsz
    split at h
    rotate_left
    ·exact h.elim
    rename_i hnb
    split at h
    ·rename_i hn
     split at h
     ·rename_i ld hp
      split at h
      ·rename_i l hv
       split at h
       ·rename_i hl
        refine ⟨l, h, e, hk, by simpa using hkn, fun E ok w a hq => ?_⟩
        obtain ⟨cs, h1, h2, h3, h4⟩ := run_buildSlice hT hk (by simpa using hkn) hn hsz hp hv hl hq
        exact ⟨cs, h1, h2, by simp [maxLen]; omega, h3, (sliceVals hl).1, h4⟩
       ·exact h.elim
      ·exact h.elim
     ·exact h.elim
    ·exact h.elim
   ·exact h.elim
 ·exact h.elim
theorem zeroV_some {zs : List Value} {x : V} (h : zeroV (zs.map constD1) = some x) (ok : Oks) (w : World) (hone : ∀ u ∈ zs, u.oneCell' = true) : x.flat.length = zs.length ∧ ∀ j (hj : j < x.flat.length), (x.flat[j]'hj).cell = true ∧ ∃ v, zs[j]? = some v ∧ Rep ok w (x.flat[j]'hj) v := by
 have base : ∀ r, toVs [] (zs.map constD1) = some r → r.length = zs.length ∧ ∀ i (h : i < r.length) (h' : i < zs.length), Rep ok w (r[i]'h) (zs[i]'h') := by
  intro r hr
  have := toVs_sound (E := ⟨fun _ => none, fun _ => none, fun _ => 0, fun _ => 0⟩) (ok := ok) (w := w) (ob := []) (by simp [look]) (zs.map constD1) r zs hr (by simp) (fun i h h' => by simp only [List.getElem_map]; exact constD1_rep _ _ _ _)
  exact ⟨by simpa using this.1, this.2⟩
 unfold zeroV at h
 split at h
 ·rename_i y hy
  split at h
  ·rename_i hc
   simp at h; subst h
   obtain ⟨h1, h2⟩ := base _ hy
   rw [cell_flat hc]
   refine ⟨by simpa using h1, fun j hj => ?_⟩
   simp at hj; subst hj
   have := h2 0 (by simp) (by simp at h1; omega)
   exact ⟨hc, zs[0]'(by simp at h1; omega), List.getElem?_eq_getElem _, this⟩
  ·simp at h
 ·rename_i l hl
  split at h
  ·rename_i hc
   simp at h; subst h
   obtain ⟨h1, h2⟩ := base _ hl
   refine ⟨h1, fun j hj => ?_⟩
   simp only [V.flat] at hj ⊢
   exact ⟨List.all_eq_true.1 hc _ (List.getElem_mem hj), zs[j]'(by omega), List.getElem?_eq_getElem _, h2 j hj (by omega)⟩
  ·simp at h
 ·simp at h
theorem q_makeSlice (hT : tableOf P = T) (ob : List (Nat × AObj)) (ρ : Operand → D) (t : Nat) (l c : Operand) (K : D → Prop) (h : qWp (std P R) ob ρ (.makeSlice t l c) K) :
  ∃ r : List V, K (.v (.slice r)) ∧ ∃ e m, (tyOf t).k = .slice e ∧ known (tyOf e).k = true ∧ r.length ≤ m ∧ m ≤ maxLen ∧ (∀ (E : Env) (ok : Oks) (w : World) (a : Act), QH E ok w a ob ρ (.makeSlice t l c) →
   ∃ cs : Array Value, (Instr.makeSlice t (a.eval l) (a.eval c)).run P w = .ok (.slice (some ⟨w.heap.size, 0, none⟩) r.length m) (w.alloc (.cells cs e)) ∧ cs.size = m * (tyOf e).size ∧ (∀ i (h : i < r.length), (r[i]'h).flat.length = (tyOf e).size) ∧
    ∀ i (h : i < r.length) j (hj : j < (r[i]'h).flat.length), ((r[i]'h).flat[j]'hj).cell = true ∧ ∃ v, cs[i * (tyOf e).size + j]? = some v ∧ Rep ok w ((r[i]'h).flat[j]'hj) v) := by
 unfold qWp at h
 simp only at h
 split at h
 ·rename_i e hk
  split at h
  ·exact h.elim
  ·rename_i hkn
   split at h
   ·rename_i n m x h1 h2 hzv
    obtain ⟨⟨g0, g1, g2, g3⟩, h⟩ := h
    have hlen : (List.replicate n.toNat x).length = n.toNat := by simp
    refine ⟨_, h, e, m.toNat, hk, by simpa using hkn, by simp only [std, List.length_replicate]; omega, by simp [maxLen]; omega, fun E ok w a hq => ?_⟩
    have hu := ty_slice hT hk
    obtain ⟨i0, z0, hi, hz, hs, hb, hzero, _, hone, hzs⟩ := ty_info hT (t := e) (known_ne hkn)
    have e1 : a.eval l = .int .i64 n := repD_int (h1 ▸ hq.opr l (by simp [Op.operands]))
    have e2 : a.eval c = .int .i64 m := repD_int (h2 ▸ hq.opr c (by simp [Op.operands]))
    have hrun := run_make (P := P) w t e i0 z0 hu hi hz .i64 .i64 n m g0 g1 (by rw [hb, Int.mul_comm]; omega) (by omega)
    refine ⟨madeCells z0.cells (m.toNat * i0.size), ?_, by rw [size_madeCells, hs], ?_, ?_⟩
    ·rw [e1, e2, hrun]; simp [std]
    ·intro i hi'
     simp only [std, List.getElem_replicate]
     rw [hzero] at hzv
     rw [(zeroV_some hzv ok w hone).1]; simp; omega
    ·intro i hi' j hj
     simp only [std, List.getElem_replicate] at hj ⊢
     rw [hzero] at hzv
     obtain ⟨q1, q2⟩ := zeroV_some hzv ok w hone
     obtain ⟨q3, v, q4, q5⟩ := q2 j hj
     refine ⟨q3, v, ?_, q5⟩
     have hsz : z0.cells.size = (tyOf e).size := by omega
     have hj' : j < z0.cells.size := by rw [q1] at hj; simpa using hj
     simp only [std, List.length_replicate] at hi'
     have hle : i * (tyOf e).size + (tyOf e).size ≤ m.toNat * (tyOf e).size := by rw [← Nat.succ_mul]; exact Nat.mul_le_mul_right _ (by omega)
     have hmod : (i * (tyOf e).size + j) % z0.cells.size = j := by rw [hsz, Nat.add_comm, Nat.add_mul_mod_self_right, Nat.mod_eq_of_lt (by omega)]
     unfold madeCells
     rw [Array.getElem?_map, Array.getElem?_range, if_pos (by rw [hs]; omega)]
     simp only [Option.map_some, hmod]
     rw [← q4, getElem!_pos z0.cells j hj']
     simp [hj']
   ·exact h.elim
 ·exact h.elim
end
end Go.Proofs.YthioccbgjkbmdaaGreat.AM
