/-
  The abstract machine, part 19: stores, boxes, rows, calls; all operations.
-/
import Derived.Test.YtinckcpmkocakaaAmE4
set_option linter.unusedVariables false
set_option linter.unusedSimpArgs false
namespace Go.Proofs.Ytinckcpmkocakaa.AM
open Go Go.RowKit

/-- Cells of an object are written. -/
theorem Conc.write {G : Gh} {E : Env} {ok : Oks} {S : St} {a : Act} {w : World} (c : Conc G E ok S a w) {id b off : Nat} {o o' : AObj} (hl : look S.ob id = some o) (hb : E.blk id = some b) {cs : Array Value} {e : TypeId} (hh : w.heap[b]? = some (.cells cs e)) (hno : ∀ o, ¬ ok b o) {vs : List Value} (hle : off + vs.length ≤ cs.size)
    (ho : ∀ cs' : Array Value, (w.setCells b off vs).heap[b]? = some (.cells cs' e) → cs'.size = cs.size → (∀ j, cs'[j]? = if off ≤ j ∧ j < off + vs.length then vs[j - off]? else cs[j]?) → Same ok ok w (w.setCells b off vs) → ObjRep E ok (w.setCells b off vs) id o') :
    Conc G E ok (S.setOb id o') a (w.setCells b off vs) := by
  obtain ⟨cs', g1, g2, g3, g4, g5, g6, g7, g8⟩ := setCells_row vs off w cs hh hle
  have hs : Same ok ok w (w.setCells b off vs) := ⟨fun _ _ h => h, fun b' o' h => by
    have hbb : b' ≠ b := fun q => by subst q; exact hno _ h
    simp only [World.cell?, g4 b' hbb]⟩
  have c1 := (c.rem id).step (w' := w.setCells b off vs) (ok' := ok) {
    same := hs
    blocks := fun j p b' hj hb' => ⟨g4 b' (fun q => by
      subst q
      simp only [look_remOb] at hj
      split at hj
      · cases hj
      · rename_i hne
        exact c.apart j id p _ _ hj hl hne hb' hb), fun _ q => q⟩
    okb := fun b' o' q => by rw [g8]; exact c.okb _ _ q
    newk := fun _ _ q => .inl q
    os := g5, tape := g6, output := g7, size := by rw [g8]; exact Nat.le_refl _
    old := fun k h1 h2 => g4 k (fun q => by
      subst q
      rcases c.reg id _ _ hl hb with h3 | h3
      · omega
      · exact h2 h3) }
  exact c1.back (S := S) o' (ho cs' g1 g2 g3 hs) (fun b' hb' => by
    rw [hb] at hb'; cases hb'
    exact ⟨fun j p hne hj hb' => c.apart j id p _ _ hj hl hne hb' hb, c.reg id _ _ hl hb⟩)

/-- An element of a row is changed. -/
theorem RowAt.set {ok : Oks} {w w' : World} {b z i : Nat} {l : List V} {x : V} (hs : Same ok ok w w') (r : RowAt ok w b 0 z l) (hi : i < l.length) (hx : x.flat.length = z) (hc : ∀ j (hj : j < x.flat.length), (x.flat[j]'hj).cell = true)
    (hout : ∀ k, (k < i * z ∨ i * z + z ≤ k) → w'.cell? ⟨b, k, none⟩ = w.cell? ⟨b, k, none⟩) (hin : ∀ j (hj : j < x.flat.length), ∃ u, w'.cell? ⟨b, i * z + j, none⟩ = some u ∧ Rep ok w' (x.flat[j]'hj) u) : RowAt ok w' b 0 z (l.set i x) := by
  refine ⟨fun k hk => ?_, fun k hk j hj => ?_, fun k hk j hj => ?_⟩
  · by_cases e : i = k
    · subst e; simpa using hx
    · simp only [List.getElem_set_ne e]; exact r.hz _ _
  · by_cases e : i = k
    · subst e
      have e2 : (l.set i x)[i]'hk = x := by simp
      simp only [e2]; exact hc _ _
    · simp only [List.getElem_set_ne e]; exact r.hcell _ _ _ _
  · by_cases e : i = k
    · subst e
      have e2 : (l.set i x)[i]'hk = x := by simp
      simp only [e2]
      rw [Nat.zero_add]
      exact hin j (by simpa [e2] using hj)
    · have hk' : k < l.length := by simpa using hk
      have e2 : (l.set i x)[k]'hk = l[k]'hk' := List.getElem_set_ne e hk
      have hj' : j < (l[k]'hk').flat.length := by simpa [e2] using hj
      obtain ⟨u, h1, h2⟩ := r.hr k hk' j hj'
      simp only [e2]
      refine ⟨u, ?_, h2.mono hs⟩
      rw [Nat.zero_add] at h1 ⊢
      rw [hout _ ?_]
      · exact h1
      · have h3 := r.hz k hk'
        rcases Nat.lt_or_gt_of_ne e with q | q
        · have : i * z + z ≤ k * z := by rw [← Nat.succ_mul]; exact Nat.mul_le_mul_right _ q
          right; omega
        · have : k * z + z ≤ i * z := by rw [← Nat.succ_mul]; exact Nat.mul_le_mul_right _ q
          left; omega

theorem run_store_at {P : Program} (hT : tableOf P = T) {t b off : Nat} {w : World} {v : Value} (hk : known (tyOf t).k = true) (hsz : v.cells.size = (tyOf t).size) {cs : Array Value} {e : TypeId} (hh : w.heap[b]? = some (.cells cs e)) (hle : off + v.cells.size ≤ cs.size) (hone : ∀ u ∈ v.cells.toList, u.oneCell' = true) :
    (Instr.storeAt t (.pointer (some ⟨b, off, none⟩)) v).run P w = .ok () (w.setCells b off v.cells.toList) := by
  have h := run_storeCells_cells (P := P) b off v.cells.toList 0 w (fun j hj => by
    rw [cell_of_heap hh]
    simp at hj ⊢; omega) (fun j hj => by simp [World.frozen?, hh]) hone
  simp only [Instr.storeAt, Instr.sureAddr, storeVar, Sem.run_bind, Sem.run_pure, Result.andThen_ok, ty_size hT (known_ne' hk)]
  rw [if_neg (by omega)]
  simpa using h

section
variable {P : Program} {R : List (Nat × AObj) → List D → Prop} (hT : tableOf P = T)
include hT

/-- Cells of an element of a row are written. -/
theorem e_rowStore {G : Gh} {E : Env} {ok : Oks} {S : St} {a : Act} {w : World} (c : Conc G E ok S a w) {t id z off b i : Nat} {l : List V} {x : V} {v : Value} (hk : known (tyOf t).k = true) (hl : look S.ob id = some (.row z l true)) (hb : E.blk id = some b) (hi : i < l.length)
    (hvs : v.cells.size = (tyOf t).size) (hone : ∀ u ∈ v.cells.toList, u.oneCell' = true) (hoff : off + (tyOf t).size ≤ z) (hx : x.flat.length = z) (hc : ∀ j (hj : j < x.flat.length), (x.flat[j]'hj).cell = true)
    (hin : ∀ j (hj : j < x.flat.length), (off ≤ j ∧ j < off + (tyOf t).size → ∃ u, v.cells[j - off]? = some u ∧ Rep ok w (x.flat[j]'hj) u) ∧ (¬ (off ≤ j ∧ j < off + (tyOf t).size) → ∃ hj' : j < (l[i]'hi).flat.length, x.flat[j]'hj = (l[i]'hi).flat[j]'hj')) :
    (Instr.storeAt t (.pointer (some ⟨b, i * z + off, none⟩)) v).run P w = .ok () (w.setCells b (i * z + off) v.cells.toList) ∧
    Conc G E ok (S.setOb id (.row z (l.set i x) true)) a (w.setCells b (i * z + off) v.cells.toList) := by
  rcases c.obj _ _ hl with ⟨_, h1, _⟩ | ⟨b', cap, cells, e', h1, h2, h3, h4, h5, h6, h7, h8⟩
  · rw [h1] at hb; cases hb
  rw [h1] at hb; cases hb
  have hno : ∀ o', ¬ ok b o' := fun o' q => by have := (h8 o').1 q; simp at this
  have hmul : i * z + z ≤ cap * z := by rw [← Nat.succ_mul]; exact Nat.mul_le_mul_right _ (by omega)
  refine ⟨run_store_at hT hk hvs h3 (by omega) hone, c.write hl h1 h3 hno (by simp; omega) (fun cs' g1 g2 g3 hs => ?_)⟩
  refine .inr ⟨b, cap, cs', e', h1, by simpa using h2, g1, by omega, by simpa using h5, h6, ?_, fun o' => ⟨fun q => absurd q (hno o'), fun q => by simp at q⟩⟩
  refine h7.set hs hi hx hc (fun k hk => ?_) (fun j hj => ?_)
  · rw [cell_of_heap g1, cell_of_heap h3, g3, if_neg (by simp; omega)]
  · rw [cell_of_heap g1, g3]
    have hz' := h7.hz i hi
    by_cases hq : off ≤ j ∧ j < off + (tyOf t).size
    · obtain ⟨u, k1, k2⟩ := (hin j hj).1 hq
      rw [if_pos (by simp; omega), show i * z + j - (i * z + off) = j - off from by omega]
      exact ⟨u, by simpa using k1, k2.mono hs⟩
    · obtain ⟨hj', e⟩ := (hin j hj).2 hq
      obtain ⟨u, k1, k2⟩ := h7.hr i hi j hj'
      rw [if_neg (by simp; omega), e]
      rw [cell_of_heap h3] at k1
      exact ⟨u, by rw [← k1]; congr 1; omega, k2.mono hs⟩

theorem e_store {G : Gh} {E : Env} {ok : Oks} {S : St} {a : Act} {w : World} (c : Conc G E ok S a w) {o : Oper} {t : Nat} {x y : Operand} (ho : o.op = .store t x y) (hk : known (tyOf t).k = true) {K : St → Prop} (h : storeW (std P R) (tyOf t) S (S.ev x) (S.ev y) fun S' => K (S'.put o.dst (.v (.tup [])))) (Q : Exit → Act → World → Prop) :
    o.wp P a w (fun a' w' => After G K a' w') Q := by
  have hx := ev_rep c x
  have hy := ev_rep c y
  have fin : ∀ {S' : St} {w' : World} {ok' : Oks}, (Instr.storeAt t (a.eval x) (a.eval y)).run P w = .ok () w' → Conc G E ok' S' a w' → K (S'.put o.dst (.v (.tup []))) → o.wp P a w (fun a' w' => After G K a' w') Q := by
    intro S' w' ok' hrun hc hK
    refine wp_skip' (w' := w') (by simp only [execOp, ho, Sem.run_bind, hrun, Result.andThen_ok, Sem.run_pure]) ⟨E, ok', _, hK, hc.put o.dst (.v _ _ ?_)⟩
    exact Rep.tup (ok := ok') (w := w') [] [] rfl (by simp)
  unfold storeW at h
  split at h
  · rename_i id off hax
    rw [hax] at hx
    obtain ⟨b, hb, he⟩ := repD_ptr hx
    split at h
    · rename_i l hl
      split at h
      · rename_i cs hcs
        split at h
        · rename_i hsz
          split at h
          · rename_i hle
            obtain ⟨q1, q2, q3⟩ := cellsD_rep hcs hy
            obtain ⟨b', e, cells, h1, h2, h3, h4, h5⟩ := c.obj _ _ hl
            rw [hb] at h1; cases h1
            have hvs : (a.eval y).cells.size = (tyOf t).size := by
              have : (a.eval y).cells.toList.length = cs.length := q1
              simp at this; omega
            refine fin (by rw [he]; exact run_store_at hT hk hvs h2 (by omega) q2) (c.write hl hb h2 h4 (by simp; omega) (fun cs' g1 g2 g3 hs => ?_)) h
            have hlen : (setCells l off cs).length = l.length := by simp [setCells]; omega
            refine ⟨b, e, cs', hb, g1, by rw [hlen]; omega, h4, fun j hj => ?_⟩
            have hlay : (setCells l off cs)[j]? = if off ≤ j ∧ j < off + cs.length then cs[j - off]? else l[j]? := lay_get l cs off cs.length rfl (by omega) j
            rw [g3]
            have hq1 : (a.eval y).cells.toList.length = cs.length := q1
            by_cases hin : off ≤ j ∧ j < off + cs.length
            · rw [if_pos (by omega)]
              rw [if_pos hin] at hlay
              have hj1 : j - off < cs.length := by omega
              have hj2 : j - off < (a.eval y).cells.toList.length := by omega
              rw [List.getElem?_eq_getElem hj, List.getElem?_eq_getElem hj1] at hlay
              simp only [Option.some.injEq] at hlay
              rw [hlay]
              exact ⟨_, List.getElem?_eq_getElem hj2, q2 _ (List.getElem_mem hj2), (q3 (j - off) hj1 hj2).mono hs⟩
            · rw [if_neg (by omega)]
              rw [if_neg hin] at hlay
              have hj1 : j < l.length := by omega
              rw [List.getElem?_eq_getElem hj, List.getElem?_eq_getElem hj1] at hlay
              simp only [Option.some.injEq] at hlay
              rw [hlay]
              obtain ⟨u, k1, k2, k3⟩ := h5 j hj1
              exact ⟨u, k1, k2, k3.mono hs⟩
          · exact h.elim
        · exact h.elim
      · exact h.elim
    · rename_i l hl
      split at h
      · rename_i n e l' hk' hy'
        split at h
        · rename_i hl1
          split at h
          · rename_i hl2
            split at h
            · rename_i hsn
              split at h
              · rename_i hcl
                have hcl' : ∀ j (hj : j < l'.length), (l'[j]'hj).cell = true := fun j hj => List.all_eq_true.1 hcl _ (List.getElem_mem hj)
                rw [hy'] at hy
                obtain ⟨cs, hev, hlen, _, hrep⟩ := rep_agg (repD_v hy)
                have hcells : (a.eval y).cells.toList = cs := by rw [hev]; rfl
                have hcsz : (a.eval y).cells.size = cs.length := by rw [hev]; simp [Value.cells]
                have hone : ∀ u ∈ cs, u.oneCell' = true := by
                  intro u hu
                  obtain ⟨j, hj, rfl⟩ := List.getElem_of_mem hu
                  exact ((hrep j (by omega) hj).oneCell (hcl' j (by omega))).2
                rcases c.obj _ _ hl with ⟨_, h1, _⟩ | ⟨b', cap, cells, e', h1, h2, h3, h4, h5, h6, h7, h8⟩
                · rw [h1] at hb; cases hb
                rw [h1] at hb; cases hb
                have hno : ∀ o', ¬ ok b o' := fun o' q => by have := (h8 o').1 q; simp at this
                refine fin (by rw [he]; exact run_store_at hT hk (by omega) h3 (by omega) (by rw [hcells]; exact hone)) (c.write hl h1 h3 hno (by rw [hcells]; omega) (fun cs' g1 g2 g3 hs => ?_)) h
                refine .inr ⟨b, cap, cs', e', h1, by rw [h2, hl1, hl2], g1, by omega, by omega, h6, ?_, fun o' => ⟨fun q => absurd q (hno o'), fun q => by simp at q⟩⟩
                refine ⟨fun i hi => by rw [cell_flat (hcl' i hi)]; rfl, fun i hi j hj => ?_, fun i hi j hj => ?_⟩
                · have hf := cell_flat (hcl' i hi)
                  have hj0 : j = 0 := by rw [hf] at hj; simpa using hj
                  subst hj0
                  simpa [hf] using hcl' i hi
                · have hf := cell_flat (hcl' i hi)
                  have hj0 : j = 0 := by rw [hf] at hj; simpa using hj
                  subst hj0
                  have hi' : i < cs.length := by omega
                  refine ⟨cs[i]'hi', ?_, by simpa [hf] using (hrep i hi hi').mono hs⟩
                  rw [cell_of_heap g1, g3, hcells, if_pos (by omega)]
                  rw [show 0 + (i * 1 + 0) - 0 = i from by omega]
                  exact List.getElem?_eq_getElem hi'
              · exact h.elim
            · exact h.elim
          · exact h.elim
        · exact h.elim
      · exact h.elim
    · exact h.elim
  · rename_i id z i off hax
    rw [hax] at hx
    obtain ⟨b, hb, hi0, he⟩ := repD_rptr hx
    split at h
    · rename_i z' l hl
      split at h
      · rename_i hzz
        subst hzz
        split at h
        · split at h
          · rename_i hoff
            subst hoff
            split at h
            · rename_i hsz
              split at h
              · rename_i cs hcs
                split at h
                · rename_i hlen
                  split at h
                  · rename_i hcl
                    obtain ⟨⟨_, hi⟩, h⟩ := h
                    have hi' : i.toNat < l.length := by omega
                    obtain ⟨us, hev, hul, _, hrep⟩ := rep_agg (toV_sound c.obj _ _ _ hcs hy)
                    have hcl' : ∀ j (hj : j < cs.length), (cs[j]'hj).cell = true := fun j hj => List.all_eq_true.1 hcl _ (List.getElem_mem hj)
                    have hcells : (a.eval y).cells = us.toArray := by rw [hev]; rfl
                    obtain ⟨q1, q2⟩ := e_rowStore hT c (t := t) (off := 0) (x := .agg cs) (v := a.eval y) hk hl hb hi' (by rw [hcells]; simp; omega) (by
                      rw [hcells]
                      intro u hu
                      obtain ⟨j, hj, rfl⟩ := List.getElem_of_mem hu
                      have hj' : j < us.length := by simpa using hj
                      exact ((hrep j (by omega) hj').oneCell (hcl' j (by omega))).2) (by omega) hlen hcl' (fun j hj => ⟨fun _ => by
                        have hj' : j < cs.length := hj
                        refine ⟨us[j]'(by omega), ?_, hrep j hj' (by omega)⟩
                        rw [hcells]
                        simp, fun q => by
                        have hj' : j < cs.length := hj
                        omega⟩)
                    exact fin (by rw [he]; exact q1) q2 h
                  · exact h.elim
                · exact h.elim
              · exact h.elim
            · exact h.elim
          · exact h.elim
        · split at h
          · rename_i y' hy'
            split at h
            · rename_i hcell
              have hry := toV_sound c.obj _ _ _ hy' hy
              obtain ⟨hcv, hcv1⟩ := hry.oneCell hcell
              split at h
              · rename_i hz1
                subst hz1
                split at h
                · rename_i hoff
                  subst hoff
                  split at h
                  · rename_i hsz
                    obtain ⟨⟨_, hi⟩, h⟩ := h
                    have hi' : i.toNat < l.length := by omega
                    have hf := cell_flat hcell
                    obtain ⟨q1, q2⟩ := e_rowStore hT c (t := t) (off := 0) (x := y') (v := a.eval y) hk hl hb hi' (by rw [hcv]; simp; omega) (by rw [hcv]; simpa using hcv1) (by omega) (by rw [hf]; rfl) (fun j hj => by
                      have hj0 : j = 0 := by rw [hf] at hj; simpa using hj
                      subst hj0; simpa [hf] using hcell) (fun j hj => by
                      have hj0 : j = 0 := by rw [hf] at hj; simpa using hj
                      subst hj0
                      exact ⟨fun _ => ⟨a.eval y, by rw [hcv]; rfl, by simpa [hf] using hry⟩, fun q => by omega⟩)
                    exact fin (by rw [he]; exact q1) q2 h
                  · exact h.elim
                · exact h.elim
              · split at h
                · rename_i hsz
                  obtain ⟨cs, ⟨_, hcs, hlen⟩, h⟩ := h
                  split at h
                  · rename_i hoff
                    obtain ⟨hi', hli⟩ := List.getElem?_eq_some_iff.1 hcs
                    have hrow : ∀ j (hj : j < cs.length), (cs[j]'hj).cell = true := by
                      rcases c.obj _ _ hl with ⟨_, h1, _⟩ | ⟨b', cap, cells, e', h1, h2, h3, h4, h5, h6, h7, h8⟩
                      · rw [h1] at hb; cases hb
                      · intro j hj
                        have := h7.hcell _ hi' j (by rw [hli]; exact hj)
                        simpa [hli, V.flat] using this
                    have hlay : ∀ j, (cs.take off ++ [y'] ++ cs.drop (off + 1))[j]? = if off ≤ j ∧ j < off + 1 then [y'][j - off]? else cs[j]? := fun j => lay_get cs [y'] off 1 rfl (by omega) j
                    have hnl : (cs.take off ++ [y'] ++ cs.drop (off + 1)).length = cs.length := by simp; omega
                    have hget : ∀ j (hj : j < (cs.take off ++ [y'] ++ cs.drop (off + 1)).length), (j = off ∧ (cs.take off ++ [y'] ++ cs.drop (off + 1))[j]'hj = y') ∨ (j ≠ off ∧ ∃ hj' : j < cs.length, (cs.take off ++ [y'] ++ cs.drop (off + 1))[j]'hj = cs[j]'hj') := by
                      intro j hj
                      have h1 := hlay j
                      rw [List.getElem?_eq_getElem hj] at h1
                      by_cases e : j = off
                      · subst e
                        rw [if_pos (by omega)] at h1
                        simp only [Nat.sub_self, List.getElem?_cons_zero, Option.some.injEq] at h1
                        exact .inl ⟨rfl, h1⟩
                      · have hj' : j < cs.length := by omega
                        rw [if_neg (by omega), List.getElem?_eq_getElem hj'] at h1
                        simp only [Option.some.injEq] at h1
                        exact .inr ⟨e, hj', h1⟩
                    obtain ⟨q1, q2⟩ := e_rowStore hT c (t := t) (off := off) (x := .agg (cs.take off ++ [y'] ++ cs.drop (off + 1))) (v := a.eval y) hk hl hb hi' (by rw [hcv]; simp; omega) (by rw [hcv]; simpa using hcv1) (by omega) (by simp only [V.flat]; omega) (fun j hj => by
                      rcases hget j hj with ⟨_, e⟩ | ⟨_, hj', e⟩
                      · exact (congrArg V.cell e).trans hcell
                      · exact (congrArg V.cell e).trans (hrow _ _)) (fun j hj => by
                      rcases hget j hj with ⟨e0, e⟩ | ⟨e0, hj', e⟩
                      · subst e0
                        exact ⟨fun _ => ⟨a.eval y, by rw [hcv]; simp, (congrArg (fun q => Rep ok w q (a.eval y)) e).mpr hry⟩, fun q => by omega⟩
                      · exact ⟨fun q => by omega, fun _ => ⟨by rw [hli]; exact hj', e.trans (by simp only [hli, V.flat])⟩⟩)
                    exact fin (by rw [he]; exact q1) q2 h
                  · exact h.elim
                · exact h.elim
            · exact h.elim
          · exact h.elim
      · exact h.elim
    · exact h.elim
  · exact h.elim
end
end Go.Proofs.Ytinckcpmkocakaa.AM
