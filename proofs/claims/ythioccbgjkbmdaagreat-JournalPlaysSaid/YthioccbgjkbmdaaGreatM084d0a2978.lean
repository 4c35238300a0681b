/-
 The abstract machine, part 19: stores, boxes, rows, calls; all operations.
-/
import Derived.Test.YthioccbgjkbmdaaGreatM07e05290e6
set_option linter.unusedVariables false
set_option linter.unusedSimpArgs false
set_option linter.unusedSectionVars false
namespace Go.Proofs.YthioccbgjkbmdaaGreat.AM
open Go Go.RowKit
theorem Conc.write {G : Gh} {E : Env} {ok : Oks} {S : St} {a : Act} {w : World} (c : Conc G E ok S a w) {id b off : Nat} {o o' : AObj} (hl : look S.ob id = some o) (hb : E.blk id = some b) {cs : Array Value} {e : TypeId} (hh : w.heap[b]? = some (.cells cs e)) (hno : ∀ o, ¬ ok b o) {vs : List Value} (hle : off + vs.length ≤ cs.size)
  (ho : ∀ cs' : Array Value, (w.setCells b off vs).heap[b]? = some (.cells cs' e) → cs'.size = cs.size → (∀ j, cs'[j]? = if off ≤ j ∧ j < off + vs.length then vs[j - off]? else cs[j]?) → Same ok ok w (w.setCells b off vs) → ObjRep E ok (w.setCells b off vs) id o') (hb1 : occ E ok id o b := by assumption) (hb2 : ∀ b', occ E ok id o' b' → E.blk id = some b' := by exact fun _ h => h) (hno : ∀ gh pub, o' ≠ .heap gh pub := by intro _ _ h; cases h) (hno1 : ¬ o.isHeap := by exact fun h => h) :
  Conc G E ok (S.setOb id o') a (w.setCells b off vs) := by
 obtain ⟨cs', g1, g2, g3, g4, g5, g6, g7, g8⟩ := setCells_row vs off w cs hh hle
 have hs : Same ok ok w (w.setCells b off vs) := ⟨fun _ _ h => h, fun b' o' h => by
  have hbb : b' ≠ b := fun q => by subst q; exact hno _ h
  simp only [World.cell?, g4 b' hbb], .refl _⟩
 have c1 := (c.rem id).step (w' := w.setCells b off vs) (ok' := ok) {
  same := hs
  env := ⟨rfl, rfl, rfl⟩
  blocks := fun j p b' hj hb' => ⟨g4 b' (fun q => by
   subst q
   simp only [look_remOb] at hj
   split at hj
   ·cases hj
   ·rename_i hne
    exact c.apart j id p _ _ hj hl hne hb' hb1), fun _ q => q⟩
  okb := fun b' o' q => by rw [g8]; exact c.okb _ _ q
  newk := fun _ _ q => .inl q
  os := g5, tape := g6, output := g7, size := by rw [g8]; exact Nat.le_refl _
  old := fun k h1 h2 => g4 k (fun q => by
   subst q
   rcases c.reg id _ _ hl hb1 with h3 | h3
   ·omega
   ·exact h2 h3.2) }
 exact c1.back (S := S) o' (ho cs' g1 g2 g3 hs) (fun b' hb' => by
  rw [hb] at hb'; cases hb'
  exact ⟨fun j p hne hj hb' => c.apart j id p _ _ hj hl hne hb' hb1, c.regL hl hno1 hb1⟩) hb2 hno
theorem RowAt.set {ok : Oks} {w w' : World} {b z i : Nat} {l : List V} {x : V} (hs : Same ok ok w w') (r : RowAt ok w b 0 z l) (hi : i < l.length) (hx : x.flat.length = z) (hc : ∀ j (hj : j < x.flat.length), (x.flat[j]'hj).cell = true)
  (hout : ∀ k, (k < i * z ∨ i * z + z ≤ k) → w'.cell? ⟨b, k, none⟩ = w.cell? ⟨b, k, none⟩) (hin : ∀ j (hj : j < x.flat.length), ∃ u, w'.cell? ⟨b, i * z + j, none⟩ = some u ∧ Rep ok w' (x.flat[j]'hj) u) : RowAt ok w' b 0 z (l.set i x) := by
 refine ⟨fun k hk => ?_, fun k hk j hj => ?_, fun k hk j hj => ?_⟩
 ·by_cases e : i = k
  ·subst e; simpa using hx
  ·simp only [List.getElem_set_ne e]; exact r.hz _ _
 ·by_cases e : i = k
  ·subst e
   have e2 : (l.set i x)[i]'hk = x := by simp
   simp only [e2]; exact hc _ _
  ·simp only [List.getElem_set_ne e]; exact r.hcell _ _ _ _
 ·by_cases e : i = k
  ·subst e
   have e2 : (l.set i x)[i]'hk = x := by simp
   simp only [e2]
   rw [Nat.zero_add]
   exact hin j (by simpa [e2] using hj)
  ·have hk' : k < l.length := by simpa using hk
   have e2 : (l.set i x)[k]'hk = l[k]'hk' := List.getElem_set_ne e hk
   have hj' : j < (l[k]'hk').flat.length := by simpa [e2] using hj
   obtain ⟨u, h1, h2⟩ := r.hr k hk' j hj'
   simp only [e2]
   refine ⟨u, ?_, h2.mono hs⟩
   rw [Nat.zero_add] at h1 ⊢
   rw [hout _ ?_]
   ·exact h1
   ·have h3 := r.hz k hk'
    rcases Nat.lt_or_gt_of_ne e with q | q
    ·have : i * z + z ≤ k * z := by rw [← Nat.succ_mul]; exact Nat.mul_le_mul_right _ q
     right; omega
    ·have : k * z + z ≤ i * z := by rw [← Nat.succ_mul]; exact Nat.mul_le_mul_right _ q
     left; omega
theorem run_store_at {P : Program} (hT : tableOf P = T) {t b off : Nat} {w : World} {v : Value} (hk : known (tyOf t).k = true) (hsz : v.cells.size = (tyOf t).size) {cs : Array Value} {e : TypeId} (hh : w.heap[b]? = some (.cells cs e)) (hle : off + v.cells.size ≤ cs.size) (hone : ∀ u ∈ v.cells.toList, u.oneCell' = true) :
  (Instr.storeAt t (.pointer (some ⟨b, off, none⟩)) v).run P w = .ok () (w.setCells b off v.cells.toList) := by
 have h := run_storeCells_cells (P := P) b off v.cells.toList 0 w (fun j hj => by
  rw [cell_of_heap hh]
  simp at hj ⊢; omega) (fun j hj => by simp [World.frozen?, hh]) hone
 simp only [Instr.storeAt, Instr.sureAddr, storeVar, Sem.run_bind, Sem.run_pure, Result.andThen_ok, ty_size hT (known_ne' hk)]
 rw [if_neg (by omega)]
 simpa using h
section
variable {P : Program} {R : List (Nat × AObj) → List D → Prop} (hT : tableOf P = T)
include hT
theorem e_rowStore {G : Gh} {E : Env} {ok : Oks} {S : St} {a : Act} {w : World} (c : Conc G E ok S a w) {t id z off b i : Nat} {l : List V} {x : V} {v : Value} (hk : known (tyOf t).k = true) (hl : look S.ob id = some (.row z l true)) (hb : E.blk id = some b) (hi : i < l.length)
  (hvs : v.cells.size = (tyOf t).size) (hone : ∀ u ∈ v.cells.toList, u.oneCell' = true) (hoff : off + (tyOf t).size ≤ z) (hx : x.flat.length = z) (hc : ∀ j (hj : j < x.flat.length), (x.flat[j]'hj).cell = true)
  (hin : ∀ j (hj : j < x.flat.length), (off ≤ j ∧ j < off + (tyOf t).size → ∃ u, v.cells[j - off]? = some u ∧ Rep ok w (x.flat[j]'hj) u) ∧ (¬ (off ≤ j ∧ j < off + (tyOf t).size) → ∃ hj' : j < (l[i]'hi).flat.length, x.flat[j]'hj = (l[i]'hi).flat[j]'hj')) :
  (Instr.storeAt t (.pointer (some ⟨b, i * z + off, none⟩)) v).run P w = .ok () (w.setCells b (i * z + off) v.cells.toList) ∧
  Conc G E ok (S.setOb id (.row z (l.set i x) true)) a (w.setCells b (i * z + off) v.cells.toList) := by
 rcases c.obj _ _ hl with ⟨_, h1, _⟩ | ⟨b', cap, cells, e', h1, h2, h3, h4, h5, h6, h7, h8⟩
 ·rw [h1] at hb; cases hb
 rw [h1] at hb; cases hb
 have hno : ∀ o', ¬ ok b o' := fun o' q => by have := (h8 o').1 q; simp at this
 have hmul : i * z + z ≤ cap * z := by rw [← Nat.succ_mul]; exact Nat.mul_le_mul_right _ (by omega)
 refine ⟨run_store_at hT hk hvs h3 (by omega) hone, c.write hl h1 h3 hno (by simp; omega) (fun cs' g1 g2 g3 hs => ?_)⟩
 refine .inr ⟨b, cap, cs', e', h1, by simpa using h2, g1, by omega, by simpa using h5, h6, ?_, fun o' => ⟨fun q => absurd q (hno o'), fun q => by simp at q⟩⟩
 refine h7.set hs hi hx hc (fun k hk => ?_) (fun j hj => ?_)
 ·rw [cell_of_heap g1, cell_of_heap h3, g3, if_neg (by simp; omega)]
 ·rw [cell_of_heap g1, g3]
  have hz' := h7.hz i hi
  by_cases hq : off ≤ j ∧ j < off + (tyOf t).size
  ·obtain ⟨u, k1, k2⟩ := (hin j hj).1 hq
   rw [if_pos (by simp; omega), show i * z + j - (i * z + off) = j - off from by omega]
   exact ⟨u, by simpa using k1, k2.mono hs⟩
  ·obtain ⟨hj', e⟩ := (hin j hj).2 hq
   obtain ⟨u, k1, k2⟩ := h7.hr i hi j hj'
   rw [if_neg (by simp; omega), e]
   rw [cell_of_heap h3] at k1
   exact ⟨u, by rw [← k1]; congr 1; omega, k2.mono hs⟩
theorem e_store {G : Gh} {E : Env} {ok : Oks} {S : St} {a : Act} {w : World} (c : Conc G E ok S a w) {o : Oper} {t : Nat} {x y : Operand} (ho : o.op = .store t x y) (hk : known (tyOf t).k = true) {K : St → Prop} (h : storeW (std P R) (tyOf t) S (S.ev x) (S.ev y) fun S' => K (S'.put o.dst (.v (.tup [])))) (Q : Exit → Act → World → Prop) :
  o.wp P a w (fun a' w' => After G K a' w') Q := by
 have hx := ev_rep c x
 have hy := ev_rep c y
 have fin : ∀ {S' : St} {w' : World} {ok' : Oks}, (Instr.storeAt t (a.eval x) (a.eval y)).run P w = .ok () w' → Conc G E ok' S' a w' → K (S'.put o.dst (.v (.tup []))) → o.wp P a w (fun a' w' => After G K a' w') Q := by
  intro S' w' ok' hrun hc hK
  refine wp_skip' (w' := w') (by simp only [execOp, ho, Sem.run_bind, hrun, Result.andThen_ok, Sem.run_pure]) ⟨E, ok', _, hK, hc.put o.dst (.v _ _ ?_)⟩
  exact Rep.tup (ok := ok') (w := w') [] [] rfl (by simp)
 unfold storeW at h
 split at h
 ·rename_i id off hax
  rw [hax] at hx
  obtain ⟨b, hb, he⟩ := repD_ptr hx
  split at h
  ·rename_i l hl
   split at h
   ·rename_i cs hcs
    split at h
    ·rename_i hsz
     split at h
     ·rename_i hle
      obtain ⟨q1, q2, q3⟩ := cellsD_rep hcs hy
      obtain ⟨b', e, cells, h1, h2, h3, h4, h5⟩ := c.obj _ _ hl
      rw [hb] at h1; cases h1
      have hvs : (a.eval y).cells.size = (tyOf t).size := by
       have : (a.eval y).cells.toList.length = cs.length := q1
       simp at this; omega
      refine fin (by rw [he]; exact run_store_at hT hk hvs h2 (by omega) q2) (c.write hl hb h2 h4 (by simp; omega) (fun cs' g1 g2 g3 hs => ?_)) h
      have hlen : (setCells l off cs).length = l.length := by simp [setCells]; omega
      refine ⟨b, e, cs', hb, g1, by rw [hlen]; omega, h4, fun j hj => ?_⟩
      have hlay : (setCells l off cs)[j]? = if off ≤ j ∧ j < off + cs.length then cs[j - off]? else l[j]? := lay_get l cs off cs.length rfl (by omega) j
      rw [g3]
      have hq1 : (a.eval y).cells.toList.length = cs.length := q1
      by_cases hin : off ≤ j ∧ j < off + cs.length
      ·rw [if_pos (by omega)]
       rw [if_pos hin] at hlay
       have hj1 : j - off < cs.length := by omega
       have hj2 : j - off < (a.eval y).cells.toList.length := by omega
       rw [List.getElem?_eq_getElem hj, List.getElem?_eq_getElem hj1] at hlay
       simp only [Option.some.injEq] at hlay
       rw [hlay]
       exact ⟨_, List.getElem?_eq_getElem hj2, q2 _ (List.getElem_mem hj2), (q3 (j - off) hj1 hj2).mono hs⟩
      ·rw [if_neg (by omega)]
       rw [if_neg hin] at hlay
       have hj1 : j < l.length := by omega
       rw [List.getElem?_eq_getElem hj, List.getElem?_eq_getElem hj1] at hlay
       simp only [Option.some.injEq] at hlay
       rw [hlay]
       obtain ⟨u, k1, k2, k3⟩ := h5 j hj1
       exact ⟨u, k1, k2, k3.mono hs⟩
     ·exact h.elim
    ·exact h.elim
   ·exact h.elim
  ·rename_i l hl
   split at h
   ·rename_i n e l' hk' hy'
    split at h
    ·rename_i hl1
     split at h
     ·rename_i hl2
      split at h
      ·rename_i hsn
       split at h
       ·rename_i hcl
        have hcl' : ∀ j (hj : j < l'.length), (l'[j]'hj).cell = true := fun j hj => List.all_eq_true.1 hcl _ (List.getElem_mem hj)
        rw [hy'] at hy
        obtain ⟨cs, hev, hlen, _, hrep⟩ := rep_agg (repD_v hy)
        have hcells : (a.eval y).cells.toList = cs := by rw [hev]; rfl
        have hcsz : (a.eval y).cells.size = cs.length := by rw [hev]; simp [Value.cells]
        have hone : ∀ u ∈ cs, u.oneCell' = true := by
         intro u hu
         obtain ⟨j, hj, rfl⟩ := List.getElem_of_mem hu
         exact ((hrep j (by omega) hj).oneCell (hcl' j (by omega))).2
        rcases c.obj _ _ hl with ⟨_, h1, _⟩ | ⟨b', cap, cells, e', h1, h2, h3, h4, h5, h6, h7, h8⟩
        ·rw [h1] at hb; cases hb
        rw [h1] at hb; cases hb
        have hno : ∀ o', ¬ ok b o' := fun o' q => by have := (h8 o').1 q; simp at this
        refine fin (by rw [he]; exact run_store_at hT hk (by omega) h3 (by omega) (by rw [hcells]; exact hone)) (c.write hl h1 h3 hno (by rw [hcells]; omega) (fun cs' g1 g2 g3 hs => ?_)) h
        refine .inr ⟨b, cap, cs', e', h1, by rw [h2, hl1, hl2], g1, by omega, by omega, h6, ?_, fun o' => ⟨fun q => absurd q (hno o'), fun q => by simp at q⟩⟩
        refine ⟨fun i hi => by rw [cell_flat (hcl' i hi)]; rfl, fun i hi j hj => ?_, fun i hi j hj => ?_⟩
        ·have hf := cell_flat (hcl' i hi)
         have hj0 : j = 0 := by rw [hf] at hj; simpa using hj
         subst hj0
         simpa [hf] using hcl' i hi
        ·have hf := cell_flat (hcl' i hi)
         have hj0 : j = 0 := by rw [hf] at hj; simpa using hj
         subst hj0
         have hi' : i < cs.length := by omega
         refine ⟨cs[i]'hi', ?_, by simpa [hf] using (hrep i hi hi').mono hs⟩
         rw [cell_of_heap g1, g3, hcells, if_pos (by omega)]
         rw [show 0 + (i * 1 + 0) - 0 = i from by omega]
         exact List.getElem?_eq_getElem hi'
       ·exact h.elim
      ·exact h.elim
     ·exact h.elim
    ·exact h.elim
   ·exact h.elim
  ·exact h.elim
 ·rename_i id z i off hax
  rw [hax] at hx
  obtain ⟨b, hb, hi0, he⟩ := repD_rptr hx
  split at h
  ·rename_i z' l hl
   split at h
   ·rename_i hzz
    subst hzz
    split at h
    ·split at h
     ·rename_i hoff
      subst hoff
      split at h
      ·rename_i hsz
       split at h
       ·rename_i cs hcs
        split at h
        ·rename_i hlen
         split at h
         ·rename_i hcl
          obtain ⟨⟨_, hi⟩, h⟩ := h
          have hi' : i.toNat < l.length := by omega
          obtain ⟨us, hev, hul, _, hrep⟩ := rep_agg (toV_sound c.obj _ _ _ hcs hy)
          have hcl' : ∀ j (hj : j < cs.length), (cs[j]'hj).cell = true := fun j hj => List.all_eq_true.1 hcl _ (List.getElem_mem hj)
          have hcells : (a.eval y).cells = us.toArray := by rw [hev]; rfl
          obtain ⟨q1, q2⟩ := e_rowStore hT c (t := t) (off := 0) (x := .agg cs) (v := a.eval y) hk hl hb hi' (by rw [hcells]; simp; omega) (by
           rw [hcells]
           intro u hu
           obtain ⟨j, hj, rfl⟩ := List.getElem_of_mem hu
           have hj' : j < us.length := by simpa using hj
           exact ((hrep j (by omega) hj').oneCell (hcl' j (by omega))).2) (by omega) hlen hcl' (fun j hj => ⟨fun _ => by
            have hj' : j < cs.length := hj
            refine ⟨us[j]'(by omega), ?_, hrep j hj' (by omega)⟩
            rw [hcells]
            simp, fun q => by
            have hj' : j < cs.length := hj
            omega⟩)
          exact fin (by rw [he]; exact q1) q2 h
         ·exact h.elim
        ·exact h.elim
       ·exact h.elim
      ·exact h.elim
     ·exact h.elim
    ·split at h
     ·rename_i y' hy'
      split at h
      ·rename_i hcell
       have hry := toV_sound c.obj _ _ _ hy' hy
       obtain ⟨hcv, hcv1⟩ := hry.oneCell hcell
       split at h
       ·rename_i hz1
        subst hz1
        split at h
        ·rename_i hoff
         subst hoff
         split at h
         ·rename_i hsz
          obtain ⟨⟨_, hi⟩, h⟩ := h
          have hi' : i.toNat < l.length := by omega
          have hf := cell_flat hcell
          obtain ⟨q1, q2⟩ := e_rowStore hT c (t := t) (off := 0) (x := y') (v := a.eval y) hk hl hb hi' (by rw [hcv]; simp; omega) (by rw [hcv]; simpa using hcv1) (by omega) (by rw [hf]; rfl) (fun j hj => by
           have hj0 : j = 0 := by rw [hf] at hj; simpa using hj
           subst hj0; simpa [hf] using hcell) (fun j hj => by
           have hj0 : j = 0 := by rw [hf] at hj; simpa using hj
           subst hj0
           exact ⟨fun _ => ⟨a.eval y, by rw [hcv]; rfl, by simpa [hf] using hry⟩, fun q => by omega⟩)
          exact fin (by rw [he]; exact q1) q2 h
         ·exact h.elim
        ·exact h.elim
       ·split at h
        ·rename_i hsz
         obtain ⟨cs, ⟨_, hcs, hlen⟩, h⟩ := h
         split at h
         ·rename_i hoff
          obtain ⟨hi', hli⟩ := List.getElem?_eq_some_iff.1 hcs
          have hrow : ∀ j (hj : j < cs.length), (cs[j]'hj).cell = true := by
           rcases c.obj _ _ hl with ⟨_, h1, _⟩ | ⟨b', cap, cells, e', h1, h2, h3, h4, h5, h6, h7, h8⟩
           ·rw [h1] at hb; cases hb
           ·intro j hj
            have := h7.hcell _ hi' j (by rw [hli]; exact hj)
            simpa [hli, V.flat] using this
          have hlay : ∀ j, (cs.take off ++ [y'] ++ cs.drop (off + 1))[j]? = if off ≤ j ∧ j < off + 1 then [y'][j - off]? else cs[j]? := fun j => lay_get cs [y'] off 1 rfl (by omega) j
          have hnl : (cs.take off ++ [y'] ++ cs.drop (off + 1)).length = cs.length := by simp; omega
          have hget : ∀ j (hj : j < (cs.take off ++ [y'] ++ cs.drop (off + 1)).length), (j = off ∧ (cs.take off ++ [y'] ++ cs.drop (off + 1))[j]'hj = y') ∨ (j ≠ off ∧ ∃ hj' : j < cs.length, (cs.take off ++ [y'] ++ cs.drop (off + 1))[j]'hj = cs[j]'hj') := by
           intro j hj
           have h1 := hlay j
           rw [List.getElem?_eq_getElem hj] at h1
           by_cases e : j = off
           ·subst e
            rw [if_pos (by omega)] at h1
            simp only [Nat.sub_self, List.getElem?_cons_zero, Option.some.injEq] at h1
            exact .inl ⟨rfl, h1⟩
           ·have hj' : j < cs.length := by omega
            rw [if_neg (by omega), List.getElem?_eq_getElem hj'] at h1
            simp only [Option.some.injEq] at h1
            exact .inr ⟨e, hj', h1⟩
          obtain ⟨q1, q2⟩ := e_rowStore hT c (t := t) (off := off) (x := .agg (cs.take off ++ [y'] ++ cs.drop (off + 1))) (v := a.eval y) hk hl hb hi' (by rw [hcv]; simp; omega) (by rw [hcv]; simpa using hcv1) (by omega) (by simp only [V.flat]; omega) (fun j hj => by
           rcases hget j hj with ⟨_, e⟩ | ⟨_, hj', e⟩
           ·exact (congrArg V.cell e).trans hcell
           ·exact (congrArg V.cell e).trans (hrow _ _)) (fun j hj => by
           rcases hget j hj with ⟨e0, e⟩ | ⟨e0, hj', e⟩
           ·subst e0
            exact ⟨fun _ => ⟨a.eval y, by rw [hcv]; simp, (congrArg (fun q => Rep ok w q (a.eval y)) e).mpr hry⟩, fun q => by omega⟩
           ·exact ⟨fun q => by omega, fun _ => ⟨by rw [hli]; exact hj', e.trans (by simp only [hli, V.flat])⟩⟩)
          exact fin (by rw [he]; exact q1) q2 h
         ·exact h.elim
        ·exact h.elim
      ·exact h.elim
     ·exact h.elim
   ·exact h.elim
  ·exact h.elim
 ·exact h.elim
end
open Go Go.RowKit
theorem rowNews {ok : Oks} {w : World} {z : Nat} {l : List V} {cs : Array Value} (hz : ∀ i (h : i < l.length), (l[i]'h).flat.length = z)
  (hr : ∀ i (h : i < l.length) j (hj : j < (l[i]'h).flat.length), ((l[i]'h).flat[j]'hj).cell = true ∧ ∃ v, cs[i * z + j]? = some v ∧ Rep ok w ((l[i]'h).flat[j]'hj) v)
  {w' : World} {ok' : Oks} {b : Nat} {e : TypeId} (hs : Same ok ok' w w') (hh : w'.heap[b]? = some (.cells cs e)) : RowAt ok' w' b 0 z l :=
 ⟨hz, fun i hi j hj => (hr i hi j hj).1, fun i hi j hj => by
  obtain ⟨_, v, h1, h2⟩ := hr i hi j hj
  exact ⟨v, by rw [cell_of_heap hh, Nat.zero_add]; exact h1, h2.mono hs⟩⟩
theorem not_ok_new {ok : Oks} {w : World} (hb : ∀ b o, ok b o → b < w.heap.size) (o : Nat) : ¬ ok w.heap.size o := fun q => by have := hb _ _ q; omega
theorem add_res {G : Gh} {ok : Oks} {a : Act} {w : World} {B : Nat} (d : Nat) (hB : G.w0.heap.size ≤ B) : ∀ (rs : List Rs) (us : List Value) (gs : List (Option Nat)) (j : Nat) {S : St} {E : Env}, Conc G E ok S a w → us.length = rs.length → gs.length = rs.length →
  (∀ i (h : i < rs.length) (h' : i < us.length) (h'' : i < gs.length), RsRep B ok w (rs[i]'h) (us[i]'h') (gs[i]'h'')) → (∀ (i j b : Nat), gs[i]? = some (some b) → gs[j]? = some (some b) → i = j) → (∀ id o b, look S.ob id = some o → occ E ok id o b → ∀ i : Nat, gs[i]? ≠ some (some b)) →
  ∃ E', Conc G E' ok (addObs S (resObs d j rs)) a w ∧ (resDs d j rs).length = rs.length ∧ (∀ i (h : i < (resDs d j rs).length) (h' : i < us.length), RepD E' ok w ((resDs d j rs)[i]'h) (us[i]'h') ∧ ∀ k, k < 1000 + 8 * d + j → mentions k ((resDs d j rs)[i]'h) = false) ∧
   ∀ id o b, look (addObs S (resObs d j rs)).ob id = some o → occ E' ok id o b → (∃ id' o', look S.ob id' = some o' ∧ occ E ok id' o' b) ∨ ∃ i : Nat, gs[i]? = some (some b)
 | [], us, gs, j, S, E, c, hu, hg, hr, hd, hlt => ⟨E, c, rfl, fun i h => by simp [resDs] at h, fun id o b h1 h2 => .inl ⟨id, o, h1, h2⟩⟩
 | r :: rs, [], gs, j, S, E, c, hu, hg, hr, hd, hlt => by simp at hu
 | r :: rs, u :: us, [], j, S, E, c, hu, hg, hr, hd, hlt => by simp at hg
 | r :: rs, u :: us, g :: gs, j, S, E, c, hu, hg, hr, hd, hlt => by
  obtain ⟨E1, c1, l1, r1, o1⟩ := add_res d hB rs us gs (j + 1) c (by simpa using hu) (by simpa using hg) (fun i h h' h'' => by
   have := hr (i + 1) (by simpa using h) (by simpa using h') (by simpa using h''); simpa using this) (fun i k b h1 h2 => by
   have := hd (i + 1) (k + 1) b (by simpa using h1) (by simpa using h2); omega) (fun id o b h1 h2 i => by simpa using hlt id o b h1 h2 (i + 1))
  have h0 := hr 0 (by simp) (by simp) (by simp)
  simp only [List.getElem_cons_zero] at h0
  cases r with
  | v x =>
   obtain ⟨_, h0⟩ := h0
   refine ⟨E1, c1, by simp [resDs, l1], fun i h h' => ?_, fun id o b h1 h2 => ?_⟩
   ·cases i with
    | zero => exact ⟨.v _ _ h0, fun k _ => rfl⟩
    | succ i =>
     simp only [resDs, List.getElem_cons_succ]
     obtain ⟨q1, q2⟩ := r1 i (by simpa [resDs] using h) (by simpa using h')
     exact ⟨q1, fun k hk => q2 k (by omega)⟩
   ·rcases o1 id o b h1 h2 with q | ⟨i, q⟩
    ·exact .inl q
    ·exact .inr ⟨i + 1, by simpa using q⟩
  | o z l =>
   have key : ∀ (E2 : Env), (∀ k, k ≠ 1000 + 8 * d + j → E2.blk k = E1.blk k ∧ E2.hdr k = E1.hdr k) → E2.hdr (1000 + 8 * d + j) = u → E2.blk (1000 + 8 * d + j) = g → RowRep E2 ok w (1000 + 8 * d + j) z l true → (∀ b, g = some b → B ≤ b) →
     ∃ E', Conc G E' ok (addObs S (resObs d j (.o z l :: rs))) a w ∧ (resDs d j (.o z l :: rs)).length = (Rs.o z l :: rs).length ∧ (∀ i (h : i < (resDs d j (.o z l :: rs)).length) (h' : i < (u :: us).length), RepD E' ok w ((resDs d j (.o z l :: rs))[i]'h) ((u :: us)[i]'h') ∧ ∀ k, k < 1000 + 8 * d + j → mentions k ((resDs d j (.o z l :: rs))[i]'h) = false) ∧
      ∀ id o b, look (addObs S (resObs d j (.o z l :: rs))).ob id = some o → occ E' ok id o b → (∃ id' o', look S.ob id' = some o' ∧ occ E ok id' o' b) ∨ ∃ i : Nat, (g :: gs)[i]? = some (some b) := by
    intro E2 he hh hb hrow hge
    have c2 := c1.add (E' := E2) (1000 + 8 * d + j) (.row z l true) he hrow (fun b hb' => by
     rw [hb] at hb'
     have hge' := hge b hb'
     refine ⟨fun k p hk hp hkb => ?_, by omega⟩
     rcases o1 k p b hp hkb with ⟨id', o', q1, q2⟩ | ⟨i, q⟩
     ·exact hlt id' o' b q1 q2 0 (by simp [hb'])
     ·have := hd 0 (i + 1) b (by simp [hb']) (by simpa using q); omega)
    refine ⟨E2, c2, by simp [resDs, l1], fun i h h' => ?_, fun id o b h1 h2 => ?_⟩
    ·cases i with
     | zero =>
      simp only [resDs, List.getElem_cons_zero]
      have := RepD.own (E := E2) (ok := ok) (w := w) (1000 + 8 * d + j)
      rw [hh] at this
      exact ⟨this, fun k hk => by simp [mentions]; omega⟩
     | succ i =>
      simp only [resDs, List.getElem_cons_succ]
      obtain ⟨q1, q2⟩ := r1 i (by simpa [resDs] using h) (by simpa using h')
      exact ⟨q1.env he (q2 _ (by omega)), fun k hk => q2 k (by omega)⟩
    ·have h4 : look (St.new (addObs S (resObs d (j + 1) rs)) (1000 + 8 * d + j) (.row z l true)).ob id = some o := h1
     by_cases hid : id = 1000 + 8 * d + j
     ·subst hid
      simp only [St.new, look, if_true] at h4
      simp only [unOb, Option.some.injEq] at h4
      subst h4
      have h2 : E2.blk (1000 + 8 * d + j) = some b := h2
      rw [hb] at h2
      exact .inr ⟨0, by simp [h2]⟩
     ·rw [occ_E he ok hid] at h2
      simp only [St.new, look] at h4
      rw [if_neg (Ne.symm hid), look_kill, if_neg hid] at h4
      simp only [Option.map_eq_some_iff] at h4
      obtain ⟨o', h5, rfl⟩ := h4
      rw [occ_unOb] at h2
      rcases o1 id o' b h5 h2 with q | ⟨i, q⟩
      ·exact .inl q
      ·exact .inr ⟨i + 1, by simpa using q⟩
   rcases h0 with ⟨rfl, rfl, rfl⟩ | ⟨b, cap, cs, e, rfl, h2, rfl, h4, h5, h6, h7, h8, h9⟩
   ·exact key (E1.set (1000 + 8 * d + j) none 0 0) (E1.set_ne _ _ _ _) (E1.set_hdr _ _ _ _) (E1.set_blk _ _ _ _) (.inl ⟨rfl, E1.set_blk _ _ _ _, E1.set_hdr _ _ _ _⟩) (fun b h => by cases h)
   ·exact key (E1.set (1000 + 8 * d + j) (some b) l.length cap) (E1.set_ne _ _ _ _) (E1.set_hdr _ _ _ _) (E1.set_blk _ _ _ _) (.inr ⟨b, cap, cs, e, E1.set_blk _ _ _ _, E1.set_hdr _ _ _ _, h4, h5, h6, h7, h8, fun o => ⟨fun q => absurd q (h9 o), fun q => by simp at q⟩⟩) (fun b' h => by cases h; exact h2)
theorem resD_rep {E : Env} {ok : Oks} {w : World} {d : Nat} {rs : List Rs} {us : List Value} (hu : us.length = rs.length) (hl : (resDs d 0 rs).length = rs.length) (h : ∀ i (h : i < (resDs d 0 rs).length) (h' : i < us.length), RepD E ok w ((resDs d 0 rs)[i]'h) (us[i]'h')) : RepD E ok w (resD d rs) (retVal us) := by
 unfold resD
 generalize resDs d 0 rs = l at *
 match l, us, (by omega : us.length = l.length), h with
 | [r], [u], hu, h => exact h 0 (by simp) (by simp)
 | [], [], hu, h => exact RepD.tup (E := E) (ok := ok) (w := w) [] [] rfl (by simp)
 | r :: s :: t, u :: v :: x, hu, h => exact RepD.tup (E := E) (ok := ok) (w := w) (r :: s :: t) (u :: v :: x) (by simpa using hu) (fun i h1 h2 => h i h1 h2)
 | [], _ :: _, hu, _ => simp at hu
 | [_], [], hu, _ => simp at hu
 | [_], _ :: _ :: _, hu, _ => simp at hu
 | _ :: _ :: _, [], hu, _ => simp at hu
 | _ :: _ :: _, [_], hu, _ => simp at hu
section
variable {P : Program} {R : List (Nat × AObj) → List D → Prop} (hT : tableOf P = T)
theorem e_newSlice {G : Gh} {E : Env} {ok : Oks} {S : St} {a : Act} {w : World} (c : Conc G E ok S a w) {o : Oper} {d : Nat} (hd : o.dst = some d) {z n m : Nat} {l : List V} {cs : Array Value} {e : TypeId} (hrun : (execOp a.eval o).run P w = .ok (.value (.slice (some ⟨w.heap.size, 0, none⟩) n m)) (w.alloc (.cells cs e)))
  (hn : l.length = n) (hnm : n ≤ m) (hm : m ≤ maxLen) (hcs : cs.size = m * z) (hz : ∀ i (h : i < l.length), (l[i]'h).flat.length = z)
  (hr : ∀ i (h : i < l.length) j (hj : j < (l[i]'h).flat.length), ((l[i]'h).flat[j]'hj).cell = true ∧ ∃ v, cs[i * z + j]? = some v ∧ Rep ok w ((l[i]'h).flat[j]'hj) v)
  {K : St → Prop} (hK : K ((S.new d (.row z l true)).put (some d) (.own d))) (Q : Exit → Act → World → Prop) : o.wp P a w (fun a' w' => After G K a' w') Q := by
 have g := Grow.alloc w ok (.cells cs e) 0
 refine wp_value hrun ?_
 have := (c.newRow d o.dst hd (z := z) (n := n) (cap := m) (l := l) (ex := true) g (fun o' => by
  have hno := not_ok_new c.okb o'
  simp [okAdd, hno]) (heap_alloc_new w _) hn hcs hnm hm (rowNews hz hr (g.same c.okb) (heap_alloc_new w _))).1
 rw [hd] at this ⊢
 exact ⟨_, _, _, hK, this⟩
theorem e_box {G : Gh} {E : Env} {ok : Oks} {S : St} {a : Act} {w : World} (c : Conc G E ok S a w) {o : Oper} {t : Nat} {x : Operand} (ho : o.op = .box t x) {d : Nat} (hd : o.dst = some d) {K : St → Prop} (Q : Exit → Act → World → Prop)
  (h : (∃ l, S.ev x = .v (.agg l) ∧ l.length ≤ 1000000 ∧ K ((S.new d (.row 1 l true)).put (some d) (.ptr d 0))) ∨ ∃ l, cellsD (S.ev x) = some l ∧ K ((S.new d (.box l)).put (some d) (.ptr d 0))) : o.wp P a w (fun a' w' => After G K a' w') Q := by
 have hx := ev_rep c x
 refine wp_value (v := .pointer (some ⟨w.heap.size, 0, none⟩)) (w' := w.alloc (.cells (a.eval x).cells t)) (by simp [execOp, ho, Instr.box, newVar, newRow, newObj, Sem.run]) ?_
 rcases h with ⟨l, h1, h2, h⟩ | ⟨l, h1, h⟩
 ·have g := Grow.alloc w ok (.cells (a.eval x).cells t) 0
  rw [h1] at hx
  obtain ⟨cs, hev, hlen, hcell, hrep⟩ := rep_agg (repD_v hx)
  have hsz : (a.eval x).cells.size = l.length := by rw [hev]; simpa [Value.cells] using hlen
  have hrow : ∀ i (h : i < l.length) j (hj : j < (l[i]'h).flat.length), ((l[i]'h).flat[j]'hj).cell = true ∧ ∃ v, (a.eval x).cells[i * 1 + j]? = some v ∧ Rep ok w ((l[i]'h).flat[j]'hj) v := by
   intro i hi j hj
   have hf := cell_flat (hcell i hi)
   have hj0 : j = 0 := by rw [hf] at hj; simpa using hj
   subst hj0
   have hi' : i < cs.length := by omega
   refine ⟨by simpa [hf] using hcell i hi, cs[i]'hi', ?_, by simpa [hf] using hrep i hi hi'⟩
   rw [hev, show i * 1 + 0 = i from by omega]
   simp [Value.cells, hi']
  have := (c.newRow d o.dst hd (z := 1) (n := l.length) (cap := l.length) (l := l) (ex := true) g (fun o' => by
   have hno := not_ok_new c.okb o'
   simp [okAdd, hno]) (heap_alloc_new w _) rfl (by omega) (Nat.le_refl _) (by simp [maxLen]; omega) (rowNews (fun i hi => by rw [cell_flat (hcell i hi)]; rfl) hrow (g.same c.okb) (heap_alloc_new w _))).2
  rw [hd] at this ⊢
  exact ⟨_, _, _, h, this⟩
 ·obtain ⟨q1, q2, q3⟩ := cellsD_rep h1 hx
  have q1' : (a.eval x).cells.size = l.length := by simpa using q1
  obtain ⟨E', hc⟩ := c.newBox d o.dst l (a.eval x).cells t q1' (fun j hj => by
   have hj' : j < (a.eval x).cells.toList.length := by omega
   refine ⟨(a.eval x).cells[j]'(by simpa using hj'), Array.getElem?_eq_getElem _, q2 _ (by simp), ?_⟩
   have := q3 j hj hj'
   simpa using this)
  rw [hd] at hc ⊢
  exact ⟨_, _, _, h, hc⟩
theorem run_markStringish (w : World) (b : Nat) {cs : Array Value} {e : TypeId} (h : w.heap[b]? = some (.cells cs e)) : ∃ w', (markStringish ⟨b, 0, none⟩).run P w = .ok () w' ∧ (∃ fr, w'.heap[b]? = some (.cells cs e fr)) ∧ (∀ k, k ≠ b → w'.heap[k]? = w.heap[k]?) ∧
  w'.os = w.os ∧ w'.tape = w.tape ∧ w'.output = w.output ∧ w'.heap.size = w.heap.size := by
 refine ⟨w.freeze ⟨b, cs.size, none⟩ 1, ?_, ?_, fun k hk => ?_, ?_, ?_, ?_, ?_⟩
 ·simp [markStringish, World.shape?, h]
 ·simp [World.freeze, Array.getElem?_modify, h]
 ·simp only [World.freeze, Nat.one_ne_zero, if_false, Array.getElem?_modify]
  rw [if_neg (Ne.symm hk)]
 all_goals simp [World.freeze]
include hT
theorem e_conv {G : Gh} {E : Env} {ok : Oks} {S : St} {a : Act} {w : World} (c : Conc G E ok S a w) {o : Oper} {s d e : Nat} {x : Operand} (ho : o.op = .convert s d x) (hsd : s = d) (hk : (tyOf s).k = .slice e) (he : (tyOf e).k = .int .u8) {id : Nat} (hx : S.ev x = .own id) {y : V} {l : List V} {ex : Bool} (hob : look S.ob id = some (.row 1 (y :: l) ex))
  {K : St → Prop} (hK : K (({ S with ob := remOb id S.ob } : St).put o.dst (.v (.slice (y :: l))))) (Q : Exit → Act → World → Prop) : o.wp P a w (fun a' w' => After G K a' w') Q := by
 subst hsd
 have hev := ev_rep c x
 rw [hx] at hev
 have hev := repD_own hev
 rcases c.obj _ _ hob with ⟨h1, _, _⟩ | ⟨b, cap, cs, e', h1, h2, h3, h4, h5, h6, h7, h8⟩
 ·cases h1
 rw [h2] at hev
 obtain ⟨w', g1, ⟨fr, g2⟩, g3, g4, g5, g6, g7⟩ := run_markStringish (P := P) w b h3
 have hcell : ∀ b' o', w'.cell? ⟨b', o', none⟩ = w.cell? ⟨b', o', none⟩ := by
  intro b' o'
  by_cases hb : b' = b
  ·subst hb; rw [cell_of_heap g2, cell_of_heap h3]
  ·simp only [World.cell?, g3 b' hb]
 have hs : Same ok (okAdd ok b ((y :: l).length * 1)) w w' := ⟨fun _ _ q => .inl q, fun b' o' _ => hcell b' o', ⟨Nat.le_refl _, fun _ _ => rfl, fun _ _ => rfl⟩⟩
 refine wp_value (v := a.eval x) (w' := w') ?_ ?_
 ·simp only [execOp, ho, hev, convert, Sem.run_bind, run_underlying (ty_slice hT hk), run_underlying (ty_int hT he), Result.andThen_ok, beq_self_eq_true, g1, Sem.run_pure]
 ·have c1 := (c.rem id).step (w' := w') (ok' := okAdd ok b ((y :: l).length * 1)) {
   same := hs
   env := ⟨rfl, rfl, rfl⟩
   blocks := fun j p b' hj hb' => by
    have hne : b' ≠ b := fun q => by
     subst q
     simp only [look_remOb] at hj
     split at hj
     ·cases hj
     ·rename_i hne
      exact c.apart j id p _ b' hj hob hne hb' h1
    exact ⟨g3 b' hne, fun o' q => by
     rcases q with q | ⟨q, _⟩
     ·exact q
     ·exact absurd q hne⟩
   okb := fun b' o' q => by
    rw [g7]
    rcases q with q | ⟨rfl, _⟩
    ·exact c.okb _ _ q
    ·exact heap_lt h3
   newk := fun b' o' q => q.imp (fun h => h) fun ⟨hb', _⟩ => by subst hb'; exact .inl (c.regL hob (fun h => h) h1)
   os := g4, tape := g5, output := g6, size := by rw [g7]; exact Nat.le_refl _
   old := fun k q1 q2 => g3 k (fun q => by
    subst q
    rcases c.reg id _ _ hob h1 with q3 | q3
    ·omega
    ·exact q2 q3.2) }
  refine ⟨E, _, _, hK, c1.put o.dst (.v _ _ ?_)⟩
  rw [hev]
  exact rep_row (h7.mono hs fun i _ => hcell _ _) (fun j hj => .inr ⟨rfl, by omega⟩) h5 h6
theorem e_append_nil {G : Gh} {E : Env} {ok : Oks} {S : St} {a : Act} {w : World} (c : Conc G E ok S a w) {o : Oper} {cl : Call} (ho : o.op = .call cl) (hcb : cl.callee = .builtin .append) {t t2 e d : Nat} (hat : cl.argTypes = #[t, t2]) {s x : Operand} (has : cl.args = #[s, x]) (hd : o.dst = some d) (hk : (tyOf t).k = .slice e) (hkn : known (tyOf e).k = true) (hz0 : 0 < (tyOf e).size)
  (hs : a.eval s = .slice none 0 0) {l2 : List V} {news : List Value} (hsrc : Src P (tyOf e).size t2 (a.eval x) l2.length news w) (hnews : News ok w (tyOf e).size l2 news) (hroom : l2.length * (tyOf e).bytes ≤ 140737488355328) (hb0 : 0 < (tyOf e).bytes) {K : St → Prop} {ex : Bool}
  (hK : K ((S.new d (.row (tyOf e).size l2 ex)).put (some d) (.own d))) (Q : Exit → Act → World → Prop) : o.wp P a w (fun a' w' => After G K a' w') Q := by
 have hexec : ∀ {v w'}, (Builtin.append_ #[t, t2] o.type #[.slice none 0 0, a.eval x]).run P w = .ok v w' → (execOp a.eval o).run P w = .ok (.value v) w' := by
  intro v w' hr
  simp only [execOp, ho, resolve, hcb, Sem.run_bind, Sem.run_pure, Result.andThen_ok, invoke, builtin, has, hat]
  simp [hs, hr]
 by_cases h0 : l2 = []
 ·subst h0
  have hn0 : news = [] := List.eq_nil_of_length_eq_zero (by simpa using hnews.1)
  subst hn0
  obtain ⟨i, zv, hi, hz, hsz, _⟩ := ty_info hT (t := e) (known_ne' hkn)
  have hrun := run_append_nothing (P := P) w t t2 o.type e i (ty_slice hT hk) hi none 0 0 (Nat.le_refl _) (a.eval x) (by rw [hsz]; exact hsrc)
  refine wp_value (hexec hrun) ?_
  have c2 := c.add (E' := E.set d none 0 0) d (.row (tyOf e).size [] ex) (E.set_ne _ _ _ _) (.inl ⟨rfl, E.set_blk _ _ _ _, E.set_hdr _ _ _ _⟩) (fun b hb => by rw [E.set_blk] at hb; cases hb)
  have c3 := c2.put (v := .slice none 0 0) (d := .own d) o.dst ?_
  ·rw [hd] at c3 ⊢
   exact ⟨_, _, _, hK, c3⟩
  have h1 := RepD.own (E := E.set d none 0 0) (ok := ok) (w := w) d
  rw [E.set_hdr] at h1
  exact h1
 ·have hpos : 0 < l2.length := List.length_pos_iff.2 h0
  obtain ⟨v, w', hrun, E', ok', hc⟩ := append_grow hT c hd hk hkn hz0 (base := none) (n := 0) (cap := 0) (l := []) (ex := ex) (olds := []) rfl rfl hsrc hnews (News.nil _ _ _) (run_firstCells_none _ _ _ _ _) (by omega) (by simpa using hroom) hb0
  refine wp_value (hexec hrun) ⟨E', ok', _, hK, ?_⟩
  rw [hd] at hc ⊢
  exact hc
theorem e_append_own {G : Gh} {E : Env} {ok : Oks} {S : St} {a : Act} {w : World} (c : Conc G E ok S a w) {o : Oper} {cl : Call} (ho : o.op = .call cl) (hcb : cl.callee = .builtin .append) {t t2 e d : Nat} (hat : cl.argTypes = #[t, t2]) {s x : Operand} (has : cl.args = #[s, x]) (hd : o.dst = some d) (hk : (tyOf t).k = .slice e) (hkn : known (tyOf e).k = true) (hz0 : 0 < (tyOf e).size)
  {id : Nat} {l : List V} {ex : Bool} (hs : S.ev s = .own id) (hob : look S.ob id = some (.row (tyOf e).size l ex)) {l2 : List V} {news : List Value} (hsrc : Src P (tyOf e).size t2 (a.eval x) l2.length news w) (hnews : News ok w (tyOf e).size l2 news) (hroom : (l.length + l2.length) * (tyOf e).bytes ≤ 140737488355328) (hb0 : 0 < (tyOf e).bytes) {K : St → Prop}
  (hK : K ((({ S with ob := remOb id S.ob } : St).new d (.row (tyOf e).size (l ++ l2) ex)).put (some d) (.own d))) (Q : Exit → Act → World → Prop) : o.wp P a w (fun a' w' => After G K a' w') Q := by
 have hev := ev_rep c s
 rw [hs] at hev
 have hev := repD_own hev
 rcases c.obj _ _ hob with ⟨h1, h2, h3⟩ | ⟨b, cap, cs, e', h1, h2, h3, h4, h5, h6, h7, h8⟩
 ·subst h1
  exact e_append_nil hT (c.rem id) ho hcb hat has hd hk hkn hz0 (by rw [hev, h3]) hsrc hnews (by simpa using hroom) hb0 hK Q
 ·rw [h2] at hev
  have hexec : ∀ {v w'}, (Builtin.append_ #[t, t2] o.type #[.slice (some ⟨b, 0, none⟩) l.length cap, a.eval x]).run P w = .ok v w' → (execOp a.eval o).run P w = .ok (.value v) w' := by
   intro v w' hr
   simp only [execOp, ho, resolve, hcb, Sem.run_bind, Sem.run_pure, Result.andThen_ok, invoke, builtin, has, hat]
   simp [hev, hr]
  by_cases hfit : l.length + l2.length ≤ cap
  ·obtain ⟨v, w', hrun, E', ok', hc⟩ := append_room hT c hd hk hkn hz0 hob h1 h2 h3 h4 h6 h7 h8 rfl rfl hsrc hnews hfit
   refine wp_value (hexec hrun) ⟨E', ok', _, hK, ?_⟩
   rw [hd] at hc ⊢
   exact hc
  ·obtain ⟨olds, n1, n2, n3⟩ := h7.news
   obtain ⟨v, w', hrun, E', ok', hc⟩ := append_grow hT (c.rem id) hd hk hkn hz0 (base := some ⟨b, 0, none⟩) (n := l.length) (cap := cap) (l := l) (ex := ex) (olds := olds) rfl rfl hsrc hnews n1 (run_firstCells_some _ _ _ _ _ _ _ n1.1 (fun j u hu => by rw [add_plain]; exact n2 j u hu)) (by omega) hroom hb0
   refine wp_value (hexec hrun) ⟨E', ok', _, hK, ?_⟩
   rw [hd] at hc ⊢
   exact hc
end
open Go Go.RowKit
section
variable {P : Program} {R : List (Nat × AObj) → List D → Prop} (hT : tableOf P = T)
include hT
theorem gs_ge {B : Nat} {ok : Oks} {w : World} {rs : List Rs} {us : List Value} {gs : List (Option Nat)} (hu : us.length = rs.length) (hg : gs.length = rs.length) (h : ∀ i (h : i < rs.length) (h' : i < us.length) (h'' : i < gs.length), RsRep B ok w (rs[i]'h) (us[i]'h') (gs[i]'h'')) {i b : Nat} (hi : gs[i]? = some (some b)) : B ≤ b := by
 obtain ⟨q1, q2⟩ := List.getElem?_eq_some_iff.1 hi
 have h0 := h i (by omega) (by omega) q1
 rw [q2] at h0
 cases hr : rs[i]'(by omega) with
 | v x => rw [hr] at h0; cases h0.1
 | o z l =>
  rw [hr] at h0
  rcases h0 with ⟨_, q, _⟩ | ⟨b', _, _, _, q, q', _⟩
  ·cases q
  ·cases q; exact q'
theorem e_call {G : Gh} {E : Env} {ok : Oks} {S : St} {a : Act} {w : World} (c : Conc G E ok S a w) {o : Oper} {cl : Call} (ho : o.op = .call cl) {f : Operand} (hc : cl.callee = .value f) {d : Nat} (hd : o.dst = some d) {g : Nat} {fst cap : List D} (hcal : calleeD (S.ev f) = some (g, fst, cap)) {ys xs : List V} (hx : toVas S.ob (fst ++ cl.args.toList.map S.ev ++ cap) = some ys) (hsub : Subs ys xs) {rs : List Rs} (hf : FnR P g xs rs)
  {K : St → Prop} (hK : K ((addObs S (resObs d 0 rs)).put (some d) (resD d rs))) (Q : Exit → Act → World → Prop) : o.wp P a w (fun a' w' => After G K a' w') Q := by
 have hq : QH E ok w a S.ob S.ev (.call cl) := c.qh _
 obtain ⟨fs, cs, h1, h2, h3⟩ := call_args hc hcal hx hsub hq
 refine call_does hf ho hc h1 h3 h2 hq.okb _ Q fun us gs w' ok' hg hu hgs hr hdis => ?_
 have c1 := c.step (Step.of_grow c hg)
 obtain ⟨E', c2, l2, r2, _⟩ := add_res d c.size rs us gs 0 c1 hu hgs hr hdis (fun id o b q1 q2 i hi => by
  rw [occ_env hg.env] at q2
  have := obj_lt c q1 q2
  have := gs_ge hT hu hgs hr hi
  omega)
 have c3 := c2.put o.dst (resD_rep hu l2 fun i h h' => (r2 i h h').1)
 rw [hd] at c3 ⊢
 exact ⟨E', ok', _, hK, c3⟩
theorem e_callG {G : Gh} {E : Env} {ok : Oks} {S : St} {a : Act} {w : World} (c : Conc G E ok S a w) {o : Oper} {cl : Call} (ho : o.op = .call cl) {f : Operand} (hc : cl.callee = .value f) {d : Nat} (hd : o.dst = some d) {g : Nat} {fst cap : List D} (hcal : calleeD (S.ev f) = some (g, fst, cap)) {ys xs : List V} (hx : toVas S.ob (fst ++ cl.args.toList.map S.ev ++ cap) = some ys) (hsub : Subs ys xs) {post : List Rs → GH → Prop} {gh : GH} (hh : gheap S.ob = some gh) (hf : FnG P g xs gh post)
  {K : St → Prop} (hK : ∀ rs gh', post rs gh' → K ((addObs (S.setHeap (some gh')) (resObs d 0 rs)).put (some d) (resD d rs))) (Q : Exit → Act → World → Prop) : o.wp P a w (fun a' w' => After G K a' w') Q := by
 have hq : QH E ok w a S.ob S.ev (.call cl) := c.qh _
 obtain ⟨fs, cs, hfv, hlen, hrep⟩ := call_args hc hcal hx hsub hq
 obtain ⟨⟨fn, h1, h2, h3⟩, hf⟩ := hf
 unfold gheap at hh
 split at hh
 ·rename_i gh0 pub hp
  cases hh
  have hl := heapOf_some hp
  have hargs : fs.toArray ++ cl.args.map a.eval ++ cs.toArray = (fs ++ cl.args.toList.map a.eval ++ cs).toArray := by apply Array.ext'; simp
  have hrun : (execOp a.eval o).run P w = .ok (.enter g (fs ++ cl.args.toList.map a.eval ++ cs).toArray) w := by
   simp only [execOp, ho, resolve, hc, hfv, Deferred.ofValue, Sem.run_bind, Sem.run_pure, Result.andThen_ok, invoke, callFunc, program, Sem.run, h1, hargs]
   cases hb : fn.body with
   | none => rw [hb] at h2; simp at h2
   | some b => simp [h3]
  unfold Oper.wp
  rw [hrun, Oper.upon_enter]
  refine (hf w ok _ c.okb (c.obj _ _ hl).2 hlen hrep).mono fun e w' ⟨us, gs, ok', rs, gh', hpost, he, fr, q1, q3, hu, hgs, hr, hdis, gl, hgb⟩ => ?_
  subst he
  replace hK := hK rs gh' hpost
  have c1 := c.swap (pub' := pub) hl fr q1 q3 gl (fun b hb => (hgb b hb).1)
  have hS : S.setHeap (some gh') = S.setOb hk (.heap gh' pub) := by simp only [St.setHeap, hp]
  rw [hS] at hK
  obtain ⟨E', c2, l2, r2, _⟩ := add_res d c.size rs us gs 0 c1 hu hgs hr hdis (fun id o b k1 k2 i hi => by
   have hge := gs_ge hT hu hgs hr hi
   simp only [St.setOb, look] at k1
   split at k1
   ·simp only [Option.some.injEq] at k1
    subst k1
    exact (hgb b k2).2 i hi
   ·rename_i hne
    rw [look_remOb, if_neg (Ne.symm hne)] at k1
    have k3 : occ E ok id o b := by
     cases o with
     | heap gh2 pub2 => exact absurd (c.obj _ _ k1).1 (Ne.symm hne)
     | _ => exact k2
    have := obj_lt c k1 k3
    omega)
  have c3 := c2.put o.dst (resD_rep hu l2 fun i h h' => (r2 i h h').1)
  rw [hd] at c3 ⊢
  exact ⟨E', ok', _, hK, c3⟩
 ·cases hh
theorem e_append {G : Gh} {E : Env} {ok : Oks} {S : St} {a : Act} {w : World} (c : Conc G E ok S a w) {o : Oper} {cl : Call} (ho : o.op = .call cl) (hcb : cl.callee = .builtin .append) {t t2 e d : Nat} (hat : cl.argTypes = #[t, t2]) {s x : Operand} (has : cl.args = #[s, x]) (hd : o.dst = some d) (hk : (tyOf t).k = .slice e) (hkn : known (tyOf e).k = true) (hz0 : 0 < (tyOf e).size) (hst : isSrcT (tyOf t2).k (S.ev x) = true)
  {K : St → Prop} (h : srcW (std P R) (tyOf e).size S.ob (S.ev x) fun l2 => match S.ev s with
      | .nils => (std P R).room [] l2 (tyOf e).bytes fun _ => K ((S.new d (.row (tyOf e).size ((std P R).app [] l2) true)).put (some d) (.own d))
      | .own id => match rowOf S.ob id with
       | some (z, l, ex) => if z = (tyOf e).size then
         (std P R).room l l2 (tyOf e).bytes fun _ => K ((({ S with ob := remOb id S.ob } : St).new d (.row z ((std P R).app l l2) ex)).put (some d) (.own d))
        else False
       | none => False
      | _ => False) (Q : Exit → Act → World → Prop) : o.wp P a w (fun a' w' => After G K a' w') Q := by
 obtain ⟨l2, h, hsrc⟩ := src_sound hT hst hz0 h
 obtain ⟨news, n1, n2⟩ := hsrc E ok w _ c.obj (ev_rep c x)
 split at h
 ·rename_i hs
  obtain ⟨⟨q1, q2⟩, h⟩ := h
  have hev := ev_rep c s
  rw [hs] at hev
  exact e_append_nil hT c ho hcb hat has hd hk hkn hz0 (repD_nils hev) n1 n2 (by simpa using q1) q2 h Q
 ·rename_i id hs
  split at h
  ·rename_i z l ex hrow
   split at h
   ·rename_i hz
    subst hz
    obtain ⟨⟨q1, q2⟩, h⟩ := h
    exact e_append_own hT c ho hcb hat has hd hk hkn hz0 hs (rowOf_some hrow) n1 n2 q1 q2 h Q
   ·exact h.elim
  ·exact h.elim
 ·exact h.elim
theorem toList2 {α : Type} {l : Array α} {x y : α} (h : l.toList = [x, y]) : l = #[x, y] := by
 apply Array.ext'; simpa using h
theorem e_sound {G : Gh} {E : Env} {ok : Oks} {S0 : St} {a : Act} {w : World} (c0 : Conc G E ok S0 a w) {o : Oper} {K : St → Prop} (h : eWp (std P R) o S0 K) (Q : Exit → Act → World → Prop) : o.wp P a w (fun a' w' => After G K a' w') Q := by
 obtain ⟨ok', c⟩ := c0.softOb (handsOn S0 o.op)
 change Conc G E ok' (S0.soft (handsOn S0 o.op)) a w at c
 unfold eWp at h
 simp only at h
 generalize S0.soft (handsOn S0 o.op) = S at *
 split at h
 ·rename_i t ho
  split at h
  ·rename_i d hd
   split at h
   ·exact h.elim
   ·rename_i hkn
    have hkn' : known (tyOf t).k = true := by simpa using hkn
    split at h
    ·rename_i n e hk
     split at h
     ·split at h
      ·rename_i l hl
       split at h
       ·rename_i hln
        split at h
        ·rename_i hn
         refine e_alloc hT c ho hd hkn' Q (.inl ⟨n, e, l, hk, hl, hln, hn, fun E' ok' w' hc => ⟨_, _, _, h, hc⟩⟩)
        ·exact h.elim
       ·exact h.elim
      ·exact h.elim
     ·exact h.elim
    ·exact e_alloc hT c ho hd hkn' Q (.inr fun E' ok' w' hc => ⟨_, _, _, h, hc⟩)
  ·exact h.elim
 ·rename_i t x ho
  split at h
  ·rename_i d n e hd hk
   split at h
   ·rename_i l hl
    split at h
    ·rename_i hln
     split at h
     ·rename_i hn
      exact e_box c ho hd Q (.inl ⟨l, hl, by omega, h⟩)
     ·exact h.elim
    ·exact h.elim
   ·exact h.elim
  ·rename_i d hd hna
   split at h
   ·rename_i l hl
    exact e_box c ho hd Q (.inr ⟨l, hl, h⟩)
   ·exact h.elim
  ·exact h.elim
 ·rename_i t x y ho
  split at h
  ·rename_i hk
   exact e_store hT c ho hk h Q
  ·exact h.elim
 ·rename_i t n parts ho
  split at h
  ·rename_i d e hd hk
   obtain ⟨l, h, e', he', hkn, hrun⟩ := q_buildSlice hT _ _ _ _ _ _ h
   rw [hk] at he'; cases he'
   obtain ⟨cs, r1, r2, r3, r4, r5, r6⟩ := hrun E ok' w a (ho ▸ c.qh _)
   exact e_newSlice (e := e) c hd (by simp only [execOp, ho, Sem.run_bind, r1, Result.andThen_ok, Sem.run_pure]) r2 (Nat.le_refl _) r3 r4 r5 r6 h Q
  ·exact h.elim
 ·rename_i t l m ho
  split at h
  ·rename_i d e hd hk
   obtain ⟨r, h, e', m', he', hkn, q1, q2, hrun⟩ := q_makeSlice hT _ _ _ _ _ _ h
   rw [hk] at he'; cases he'
   obtain ⟨cs, r1, r2, r3, r4⟩ := hrun E ok' w a (ho ▸ c.qh _)
   exact e_newSlice (e := e) c hd (by simp only [execOp, ho, Sem.run_bind, r1, Result.andThen_ok, Sem.run_pure]) rfl q1 q2 r2 r3 r4 h Q
  ·exact h.elim
 ·rename_i s d x ho
  split at h
  ·rename_i e e' hk1 hk2
   split at h
   ·rename_i hsd
    split at h
    ·rename_i he
     split at h
     ·rename_i id hx
      split at h
      ·rename_i y l ex hrow
       exact e_conv hT c ho (by simpa using hsd) hk1 he hx (rowOf_some hrow) h Q
      ·exact h.elim
     ·exact h.elim
    ·exact h.elim
   ·exact h.elim
  ·exact after_q hT c (by rw [ho] at h ⊢; exact h) Q
 ·rename_i cl ho
  split at h
  ·rename_i hcb
   split at h
   ·rename_i d t t2 s x hd hat has
    split at h
    ·rename_i e hk
     split at h
     ·exact h.elim
     ·rename_i hkn
      split at h
      ·exact h.elim
      ·rename_i hz0
       split at h
       ·rename_i hst
        exact e_append hT c ho hcb (toList2 hT hat) (toList2 hT has) hd hk (by simpa using hkn) (by omega) hst h Q
       ·exact h.elim
    ·exact h.elim
   ·exact h.elim
  ·rename_i f hcv
   split at h
   ·rename_i d g fst cap hd hcal
    split at h
    ·rename_i xs hx
     obtain ⟨ys, hsub, h⟩ := h
     rcases h with ⟨rs, hf, h⟩ | ⟨gh, post, hh, hf, h⟩
     ·exact e_call hT c ho hcv hd hcal hx hsub hf h Q
     ·exact e_callG hT c ho hcv hd hcal hx hsub hh hf h Q
    ·exact h.elim
   ·exact h.elim
  ·exact after_q hT c (by rw [ho] at h ⊢; exact h) Q
 ·exact after_q hT c h Q
theorem h_sound {G : Gh} {E : Env} {ok : Oks} {S0 : St} {a : Act} {w : World} (c0 : Conc G E ok S0 a w) {o : Oper} {K : St → Prop} (h : hWp (std P R) o S0 K) (Q : Exit → Act → World → Prop) : o.wp P a w (fun a' w' => After G K a' w') Q := by
 unfold hWp at h
 split at h
 ·exact e_sound hT c0 h Q
 ·obtain ⟨ok', c⟩ := c0.softOb (idsDs false (o.op.operands.toList.map S0.ev))
  change Conc G E ok' (S0.soft (idsDs false (o.op.operands.toList.map S0.ev))) a w at c
  simp only at h
  generalize S0.soft (idsDs false (o.op.operands.toList.map S0.ev)) = S at *
  split at h
  ·rename_i gh pub hp
   split at h
   ·rename_i xs hx
    have hl := heapOf_some hp
    obtain ⟨h1, h2⟩ := toVgs_sound (E := E) (ok := ok') (w := w) c.obj (o.op.operands.toList.map S.ev) xs (o.op.operands.toList.map a.eval) hx (by simp) (fun i hi hi' => by
     simp only [List.getElem_map]
     exact ev_rep c _)
    have hops : OpsRep ok' w a o.op xs := ⟨by simpa using h1, fun i hi hi' => by
     have := h2 i hi' (by simpa using hi)
     simpa using this⟩
    have fin : ∀ {Rq : V → GH → Prop}, GOp P o xs gh Rq → (∀ r gh', Rq r gh' → K ((S.setOb hk (.heap gh' pub)).put o.dst (.v r))) → o.wp P a w (fun a' w' => After G K a' w') Q := fun hg hK =>
     Oper.wp_mono (fun a' w' ⟨v, ok'', r, gh', e1, e2, c', hr⟩ => by
      subst e1
      exact ⟨E, ok'', _, hK r gh' e2, c'.put o.dst (.v _ _ hr)⟩) (hg G E ok' S a w pub c hl hops Q)
    split at h
    ·obtain ⟨r, gh', hg, hK⟩ := h
     exact fin hg (fun r' h' ⟨e1, e2⟩ => by subst e1 e2; exact hK)
    ·obtain ⟨Rq, hg, hK⟩ := h
     exact fin hg hK
   ·exact h.elim
  ·exact h.elim
end
end Go.Proofs.YthioccbgjkbmdaaGreat.AM
