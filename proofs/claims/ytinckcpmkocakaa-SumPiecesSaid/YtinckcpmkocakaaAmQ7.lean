/-
  The abstract machine, part 11: each quiet operation, V.
-/
import Derived.Test.YtinckcpmkocakaaAmQ6
set_option linter.unusedVariables false
set_option linter.unusedSimpArgs false
namespace Go.Proofs.Ytinckcpmkocakaa.AM
open Go Go.RowKit

/-! ### Parts laid into cells -/
theorem foldl_set (u : List Value) : ∀ (k off : Nat) (cells : Array Value), off + k + u.length ≤ cells.size →
    let r := (u.zipIdx k).foldl (fun (cs : Array Value) (p : Value × Nat) => cs.setIfInBounds (off + p.2) p.1) cells
    r.size = cells.size ∧ ∀ i, r[i]? = if off + k ≤ i ∧ i < off + k + u.length then u[i - (off + k)]? else cells[i]? := by
  induction u with
  | nil => intro k off cells h; exact ⟨rfl, fun i => by rw [if_neg (by intro h; simp at h; omega)]; rfl⟩
  | cons x r ih =>
    intro k off cells h
    simp only [List.length_cons] at h
    obtain ⟨h1, h2⟩ := ih (k + 1) off (cells.setIfInBounds (off + k) x) (by simp; omega)
    simp only [List.zipIdx_cons, List.foldl_cons]
    refine ⟨by rw [h1]; simp, fun i => ?_⟩
    rw [h2]
    simp only [List.length_cons]
    by_cases hi : i = off + k
    · subst hi
      rw [if_neg (by omega), if_pos (by omega)]
      simp [Array.getElem?_setIfInBounds, show off + k < cells.size from by omega]
    · by_cases hj : off + k + 1 ≤ i ∧ i < off + k + 1 + r.length
      · rw [if_pos (by omega), if_pos (by omega)]
        rw [show i - (off + k) = (i - (off + (k + 1))) + 1 from by omega, List.getElem?_cons_succ]
      · rw [if_neg (by omega), if_neg (by omega)]
        simp [Array.getElem?_setIfInBounds, show ¬ off + k = i from by omega]
theorem lay_get {α : Type} (cs l : List α) (off size : Nat) (hl : l.length = size) (ho : off + size ≤ cs.length) (i : Nat) : (cs.take off ++ l ++ cs.drop (off + size))[i]? = if off ≤ i ∧ i < off + size then l[i - off]? else cs[i]? := by
  simp only [List.getElem?_append, List.length_append, List.length_take, List.getElem?_take, List.getElem?_drop, hl]
  rw [show min off cs.length = off from by omega]
  by_cases h1 : i < off
  · rw [if_pos (by omega), if_pos h1, if_pos h1, if_neg (by omega)]
  · by_cases h2 : i < off + size
    · rw [if_pos h2, if_neg h1, if_pos (by omega)]
    · rw [if_neg h2, if_neg (by omega)]
      congr 1; omega

/-- Cells that tell, one by one. -/
def CellsRep (E : Env) (ok : Oks) (w : World) (ds : List D) (us : List Value) : Prop :=
  us.length = ds.length ∧ (∀ u ∈ us, u.oneCell' = true) ∧ ∀ i (h : i < ds.length) (h' : i < us.length), RepD E ok w (ds[i]'h) (us[i]'h')
theorem cellsD_rep {E : Env} {ok : Oks} {w : World} {d : D} {l : List D} {u : Value} (h : cellsD d = some l) (r : RepD E ok w d u) : CellsRep E ok w l u.cells.toList := by
  cases r with
  | any => simp [cellsD] at h
  | lit b => simp [cellsD] at h; subst h; exact ⟨rfl, by simp [Value.cells]; rfl, fun i h h' => by simp at h; subst h; simpa [Value.cells] using RepD.lit b⟩
  | nils => simp [cellsD] at h; subst h; exact ⟨rfl, by simp [Value.cells]; rfl, fun i h h' => by simp at h; subst h; simpa [Value.cells] using RepD.nils⟩
  | agg l' cs hl hc hr => simp [cellsD] at h; subst h; exact ⟨by simpa [Value.cells] using hl, by simpa [Value.cells] using hc, fun i h h' => hr i h h'⟩
  | tup => simp [cellsD] at h
  | ptr id off b hb => simp [cellsD] at h; subst h; exact ⟨rfl, by simp [Value.cells]; rfl, fun i h h' => by simp at h; subst h; simpa [Value.cells] using RepD.ptr id off b hb⟩
  | rptr id z i off b hb hi => simp [cellsD] at h; subst h; exact ⟨rfl, by simp [Value.cells]; rfl, fun i h h' => by simp at h; subst h; simpa [Value.cells] using RepD.rptr id z _ off b hb hi⟩
  | fn f cap cs hl hr => simp [cellsD] at h; subst h; exact ⟨rfl, by simp [Value.cells]; rfl, fun i h h' => by simp at h; subst h; simpa [Value.cells] using RepD.fn f cap cs hl hr⟩
  | own id => simp [cellsD] at h; subst h; exact ⟨rfl, by simp [Value.cells, Env.hdr]; rfl, fun i h h' => by simp at h; subst h; exact RepD.own id⟩
  | v x u hx =>
    by_cases hc : x.cell = true
    · have h0 : cellsD (.v x) = some [.v x] := by cases x <;> simp [V.cell] at hc <;> rfl
      rw [h0] at h; simp at h; subst h
      obtain ⟨h1, h2⟩ := hx.oneCell hc
      rw [h1]
      exact ⟨rfl, by simpa using h2, fun i h h' => by simp at h; subst h; exact .v _ _ hx⟩
    · cases hx with
      | agg l' cs hl hcell hr =>
        simp [cellsD] at h; subst h
        refine ⟨by simpa [Value.cells] using hl, fun u hu => ?_, fun i h h' => ?_⟩
        · simp [Value.cells] at hu
          obtain ⟨j, hj, rfl⟩ := List.getElem_of_mem hu
          exact ((hr j (by omega) hj).oneCell (hcell j (by omega))).2
        · simp [Value.cells] at h' ⊢
          exact .v _ _ (hr i (by simpa using h) h')
      | tup => simp [cellsD] at h
      | _ => simp [V.cell] at hc

theorem fill_sound {E : Env} {ok : Oks} {w : World} {place : Nat → Option (Nat × Nat)} (ρ : Operand → D) (ev : Operand → Value) : ∀ (parts : List (Nat × Operand)) (ds ds' : List D) (cells : Array Value),
    layD place ds (parts.map fun p => (p.1, ρ p.2)) = some ds' → CellsRep E ok w ds cells.toList → (∀ p ∈ parts, RepD E ok w (ρ p.2) (ev p.2)) →
    ∃ cells', Instr.fill place cells (parts.map fun p => (p.1, ev p.2)) = some cells' ∧ CellsRep E ok w ds' cells'.toList
  | [], ds, ds', cells, h, hc, hp => by
    simp [layD] at h; subst h
    exact ⟨cells, rfl, hc⟩
  | (i, x) :: r, ds, ds', cells, h, hc, hp => by
    simp only [List.map_cons] at h ⊢
    unfold layD at h
    split at h
    · rename_i off size hpl
      split at h
      · rename_i l hl
        split at h
        · rename_i hsz
          split at h
          · rename_i hle
            have hr := cellsD_rep hl (hp (i, x) (by simp))
            have hu : (ev x).cells.toList.length = size := by rw [hr.1, hsz]
            have hu' : (ev x).cells.size = size := by simpa using hu
            have hcs : cells.size = ds.length := by simpa using hc.1
            have hf := foldl_set (ev x).cells.toList 0 off cells (by rw [hu, hcs]; omega)
            simp only at hf
            obtain ⟨f1, f2⟩ := hf
            have e : ((ev x).cells.zipIdx.foldl (fun cs (c, j) => cs.setIfInBounds (off + j) c) cells) = ((ev x).cells.toList.zipIdx 0).foldl (fun (cs : Array Value) (p : Value × Nat) => cs.setIfInBounds (off + p.2) p.1) cells := by
              rw [← Array.foldl_toList]
              simp
            unfold Instr.fill
            simp only [hpl]
            rw [if_neg (by simp [hu', hcs]; omega)]
            rw [e]
            refine fill_sound ρ ev r _ ds' _ h ?_ (fun p hp' => hp p (by simp [hp']))
            have hlen : (ds.take off ++ l ++ ds.drop (off + size)).length = ds.length := by simp; omega
            have get : ∀ (j : Nat) (u : Value), (((ev x).cells.toList.zipIdx 0).foldl (fun (cs : Array Value) (p : Value × Nat) => cs.setIfInBounds (off + p.2) p.1) cells).toList[j]? = some u → u.oneCell' = true ∧ ∀ d, (ds.take off ++ l ++ ds.drop (off + size))[j]? = some d → RepD E ok w d u := by
              intro j u hj
              rw [Array.getElem?_toList, f2] at hj
              rw [lay_get ds l off size hsz hle]
              by_cases hin : off ≤ j ∧ j < off + size
              · rw [if_pos (by rw [hu]; omega)] at hj
                rw [if_pos hin]
                obtain ⟨q1, rfl⟩ := List.getElem?_eq_some_iff.1 hj
                refine ⟨hr.2.1 _ (List.getElem_mem _), fun d hd => ?_⟩
                obtain ⟨q2, rfl⟩ := List.getElem?_eq_some_iff.1 hd
                exact hr.2.2 (j - off) q2 q1
              · rw [if_neg (by rw [hu]; omega)] at hj
                rw [if_neg hin]
                rw [← Array.getElem?_toList] at hj
                obtain ⟨q1, rfl⟩ := List.getElem?_eq_some_iff.1 hj
                refine ⟨hc.2.1 _ (List.getElem_mem _), fun d hd => ?_⟩
                obtain ⟨q2, rfl⟩ := List.getElem?_eq_some_iff.1 hd
                exact hc.2.2 j q2 q1
            refine ⟨by rw [hlen]; simp [f1, hcs], fun u hu => ?_, fun j h1 h2 => ?_⟩
            · obtain ⟨j, hj, rfl⟩ := List.getElem_of_mem hu
              exact (get j _ (List.getElem?_eq_getElem hj)).1
            · exact (get j _ (List.getElem?_eq_getElem h2)).2 _ (List.getElem?_eq_getElem h1)
          · simp at h
        · simp at h
      · simp at h
    · simp at h
theorem cellsRep_zero (E : Env) (ok : Oks) (w : World) (us : List Value) (h1 : ∀ u ∈ us, u.oneCell' = true) : CellsRep E ok w (us.map constD1) us :=
  ⟨by simp, h1, fun i h h' => by simp only [List.getElem_map]; exact constD1_rep _ _ _ _⟩
end Go.Proofs.Ytinckcpmkocakaa.AM
