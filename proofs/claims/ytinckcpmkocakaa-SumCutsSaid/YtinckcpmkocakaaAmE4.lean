/-
  The abstract machine, part 18: every operation does what the machine says.
-/
import Derived.Test.YtinckcpmkocakaaAmE3
set_option linter.unusedVariables false
set_option linter.unusedSimpArgs false
namespace Go.Proofs.Ytinckcpmkocakaa.AM
open Go Go.RowKit

theorem ev_rep {G : Gh} {E : Env} {ok : Oks} {S : St} {a : Act} {w : World} (c : Conc G E ok S a w) (x : Operand) : RepD E ok w (S.ev x) (a.eval x) := by
  cases x with
  | tmp t => exact c.slot t
  | const v => exact constD_rep _ _ _ _
  | global g => exact .any _
  | func f => exact RepD.fn (E := E) (ok := ok) (w := w) f [] [] rfl (by simp)
theorem Conc.qh {G : Gh} {E : Env} {ok : Oks} {S : St} {a : Act} {w : World} (c : Conc G E ok S a w) (op : Op) : QH E ok w a S.ob S.ev op :=
  ⟨fun x _ => ev_rep c x, c.obj, c.okb⟩

/-! What nobody writes any more -/
theorem Conc.softOb' {G : Gh} {E : Env} {a : Act} {w : World} (ids : List Nat) : ∀ {ok : Oks} {S : St}, Conc G E ok S a w → ∃ ok' : Oks, (∀ b o, ok b o → ok' b o) ∧ Conc G E ok' { S with ob := softOb S.ob ids } a w := by
  induction ids with
  | nil => exact fun {ok S} c => ⟨ok, fun _ _ h => h, c⟩
  | cons id r ih =>
    intro ok S c
    unfold AM.softOb
    split
    · rename_i z l hl
      rcases c.obj _ _ hl with ⟨h1, h2, h3⟩ | ⟨b, cap, cs, e, h1, h2, h3, h4, h5, h6, h7, h8⟩
      · have c1 := (c.rem id).back (S := S) (.row z l false) (.inl ⟨h1, h2, h3⟩) (fun b hb => by rw [h2] at hb; cases hb)
        exact ih c1
      · have hs : Same ok (okAdd ok b (l.length * z)) w w := ⟨fun _ _ h => .inl h, fun _ _ _ => rfl⟩
        have c1 := (c.rem id).step (w' := w) (ok' := okAdd ok b (l.length * z)) {
          same := hs
          blocks := fun j p b' hj hb' => ⟨rfl, fun o' q => by
            simp only [look_remOb] at hj
            split at hj
            · cases hj
            · rename_i hne
              rcases q with q | ⟨rfl, _⟩
              · exact q
              · exact absurd h1 (c.apart j id p _ b' hj hl hne hb')⟩
          okb := fun b' o' q => by
            rcases q with q | ⟨rfl, _⟩
            · exact c.okb _ _ q
            · exact heap_lt h3
          newk := fun b' o' q => q.imp (fun h => h) fun ⟨hb', _⟩ => by subst hb'; exact c.reg id _ _ hl h1
          os := rfl, tape := rfl, output := rfl, size := Nat.le_refl _, old := fun _ _ _ => rfl }
        have c2 := c1.back (S := S) (.row z l false) (.inr ⟨b, cap, cs, e, h1, h2, h3, h4, h5, h6, h7.mono hs (fun _ _ => rfl), fun o' => by
          show (ok b o' ∨ (b = b ∧ o' < l.length * z)) ↔ _
          rw [h8 o']; simp⟩) (fun b' hb' => by
            rw [h1] at hb'; cases hb'
            exact ⟨fun j p hne hj hb' => c.apart j id p _ _ hj hl hne hb' h1, c.reg id _ _ hl h1⟩)
        obtain ⟨ok'', k1, k2⟩ := ih c2
        exact ⟨ok'', fun b' o' q => k1 _ _ (.inl q), k2⟩
    · rename_i l hl
      split
      · rename_i x hx
        have hx' : toVs S.ob l = some x ∧ x.all V.cell = true := by
          unfold cellV at hx
          split at hx
          · rename_i r hr
            split at hx
            · rename_i hc; simp at hx; subst hx; exact ⟨hr, hc⟩
            · simp at hx
          · simp at hx
        obtain ⟨b, e, cs, h1, h2, h3, h4, h5⟩ := c.obj _ _ hl
        have hs : Same ok (okAdd ok b l.length) w w := ⟨fun _ _ h => .inl h, fun _ _ _ => rfl⟩
        have hv := toVs_sound c.obj l x ((List.range l.length).map fun j => cs.getD j undef) hx'.1 (by simp) (fun i hi hi' => by
          obtain ⟨u, q1, q2, q3⟩ := h5 i hi
          simp only [List.getElem_map, List.getElem_range, Array.getD_eq_getD_getElem?, q1]
          exact q3)
        have c1 := (c.rem id).step (w' := w) (ok' := okAdd ok b l.length) {
          same := hs
          blocks := fun j p b' hj hb' => ⟨rfl, fun o' q => by
            simp only [look_remOb] at hj
            split at hj
            · cases hj
            · rename_i hne
              rcases q with q | ⟨rfl, _⟩
              · exact q
              · exact absurd h1 (c.apart j id p _ b' hj hl hne hb')⟩
          okb := fun b' o' q => by
            rcases q with q | ⟨rfl, _⟩
            · exact c.okb _ _ q
            · exact heap_lt h2
          newk := fun b' o' q => q.imp (fun h => h) fun ⟨hb', _⟩ => by subst hb'; exact c.reg id _ _ hl h1
          os := rfl, tape := rfl, output := rfl, size := Nat.le_refl _, old := fun _ _ _ => rfl }
        have c2 := c1.back (S := S) (.cbox x) ⟨b, h1, heap_lt h2, fun j hj => List.all_eq_true.1 hx'.2 _ (List.getElem_mem hj), fun j hj => by
          have hj' : j < l.length := by rw [← hv.1]; exact hj
          obtain ⟨u, q1, q2, q3⟩ := h5 j hj'
          refine ⟨.inr ⟨rfl, hj'⟩, u, by rw [cell_of_heap h2]; exact q1, ?_⟩
          have := hv.2 j hj (by simpa using hj')
          simp only [List.getElem_map, List.getElem_range, Array.getD_eq_getD_getElem?, q1] at this
          exact this.mono hs⟩ (fun b' hb' => by
            rw [h1] at hb'; cases hb'
            exact ⟨fun j p hne hj hb' => c.apart j id p _ _ hj hl hne hb' h1, c.reg id _ _ hl h1⟩)
        obtain ⟨ok'', k1, k2⟩ := ih c2
        exact ⟨ok'', fun b' o' q => k1 _ _ (.inl q), k2⟩
      · exact ih c
    · exact ih c

theorem Conc.softOb {G : Gh} {E : Env} {a : Act} {w : World} (ids : List Nat) {ok : Oks} {S : St} (c : Conc G E ok S a w) : ∃ ok', Conc G E ok' { S with ob := AM.softOb S.ob ids } a w := by
  obtain ⟨ok', _, c'⟩ := c.softOb' ids
  exact ⟨ok', c'⟩

section
variable {P : Program} {R : List (Nat × AObj) → List D → Prop} (hT : tableOf P = T)

theorem after_q (hT : tableOf P = T) {G : Gh} {E : Env} {ok : Oks} {S : St} {a : Act} {w : World} (c : Conc G E ok S a w) {o : Oper} {K : St → Prop} (h : qWp (std P R) S.ob S.ev o.op fun r => K (S.put o.dst r)) (Q : Exit → Act → World → Prop) :
    o.wp P a w (fun a' w' => After G K a' w') Q := by
  obtain ⟨d, hK, hd⟩ := q_sound hT S.ob S.ev o.op _ h
  exact hd E ok w a o rfl (c.qh _) _ Q fun v w' ok' g r => ⟨E, ok', _, hK, (c.grow g).put o.dst r⟩

theorem wp_value {o : Oper} {a : Act} {w w' : World} {v : Value} {next : Act → World → Prop} {Q : Exit → Act → World → Prop} (h : (execOp a.eval o).run P w = .ok (.value v) w') (hn : next (a.put o.dst v) w') : o.wp P a w next Q := by
  unfold Oper.wp; rw [h]; exact hn
theorem wp_skip' {o : Oper} {a : Act} {w w' : World} {next : Act → World → Prop} {Q : Exit → Act → World → Prop} (h : (execOp a.eval o).run P w = .ok .skip w') (hn : next (a.put o.dst undef) w') : o.wp P a w next Q := by
  unfold Oper.wp; rw [h]; exact hn

/-- A new variable. -/
theorem Conc.newBox {G : Gh} {E : Env} {ok : Oks} {S : St} {a : Act} {w : World} (c : Conc G E ok S a w) (d : Nat) (dst : Option Nat) (l : List D) (cs : Array Value) (e : TypeId) (hl : cs.size = l.length)
    (hr : ∀ j (h : j < l.length), ∃ u, cs[j]? = some u ∧ u.oneCell' = true ∧ RepD E ok w (l[j]'h) u) :
    ∃ E', Conc G E' (okAdd ok w.heap.size 0) ((S.new d (.box l)).put dst (.ptr d 0)) (a.put dst (.pointer (some ⟨w.heap.size, 0, none⟩))) (w.alloc (.cells cs e)) := by
  have g := Grow.alloc w ok (.cells cs e) 0
  have hs := g.same c.okb
  have c1 := c.step (Step.of_grow c g)
  refine ⟨E.set d (some w.heap.size) 0 0, ?_⟩
  have c2 := c1.add (E' := E.set d (some w.heap.size) 0 0) d (.box l) (E.set_ne _ _ _ _) ⟨w.heap.size, e, cs, E.set_blk _ _ _ _, heap_alloc_new w _, by simpa using hl, fun o q => by
      rcases q with q | ⟨_, q⟩
      · have := c.okb _ _ q; omega
      · omega, fun j hj => by
      obtain ⟨u, q1, q2, q3⟩ := hr j (by simpa using hj)
      refine ⟨u, q1, q2, ?_⟩
      simp only [List.getElem_map]
      exact ((unD_rep d q3).mono hs).env (E.set_ne _ _ _ _) (mentions_unD d _)⟩ (fun b hb => by
    rw [E.set_blk] at hb
    cases hb
    refine ⟨fun j p _ hj hb => ?_, .inl c.size⟩
    have := obj_lt c hj hb
    omega)
  exact c2.put dst (.ptr _ _ _ (E.set_blk _ _ _ _))

theorem exec_alloc (hT : tableOf P = T) {t : Nat} (hk : known (tyOf t).k = true) (w : World) : ∃ z : Value, (Instr.alloc t true (.tuple #[])).run P w = .ok (.pointer (some ⟨w.heap.size, 0, none⟩)) (w.alloc (.cells z.cells t)) ∧ (tyOf t).zero = z.cells.toList.map constD1 ∧ (∀ u ∈ z.cells.toList, u.oneCell' = true) ∧ z.cells.size = (tyOf t).size := by
  obtain ⟨i, z, hi, hz, hs, hb, hzero, _, hone, hzs⟩ := ty_info hT (known_ne' hk)
  refine ⟨z, ?_, hzero, hone, by omega⟩
  simp [Instr.alloc, zeroValue, typeInfo, program, Sem.run, hi, hz, newVar, newRow, newObj]

theorem e_alloc (hT : tableOf P = T) {G : Gh} {E : Env} {ok : Oks} {S : St} {a : Act} {w : World} (c : Conc G E ok S a w) {o : Oper} {t : Nat} (ho : o.op = .alloc t) {d : Nat} (hd : o.dst = some d) (hk : known (tyOf t).k = true) (Q : Exit → Act → World → Prop) {next : Act → World → Prop}
    (h : (∃ n e l, (tyOf t).k = .arr n e ∧ cellV [] (tyOf t).zero = some l ∧ l.length = n ∧ n ≤ 1000000 ∧ ∀ E' ok' w', Conc G E' ok' ((S.new d (.row 1 l true)).put (some d) (.ptr d 0)) (a.put o.dst (.pointer (some ⟨w.heap.size, 0, none⟩))) w' → next (a.put o.dst (.pointer (some ⟨w.heap.size, 0, none⟩))) w') ∨
      ∀ E' ok' w', Conc G E' ok' ((S.new d (.box (tyOf t).zero)).put (some d) (.ptr d 0)) (a.put o.dst (.pointer (some ⟨w.heap.size, 0, none⟩))) w' → next (a.put o.dst (.pointer (some ⟨w.heap.size, 0, none⟩))) w') : o.wp P a w next Q := by
  obtain ⟨z, hrun, hzero, hone, hsz⟩ := exec_alloc hT hk w
  refine wp_value (v := .pointer (some ⟨w.heap.size, 0, none⟩)) (w' := w.alloc (.cells z.cells t)) (by simp only [execOp, ho, Sem.run_bind, hrun, Result.andThen_ok, Sem.run_pure]) ?_
  rcases h with ⟨n, e, l, h1, h2, h3, h4, h⟩ | h
  · have g := Grow.alloc w ok (.cells z.cells t) 0
    have hs := g.same c.okb
    have h2' : toVs [] (tyOf t).zero = some l ∧ l.all V.cell = true := by
      unfold cellV at h2
      split at h2
      · rename_i r hr
        split at h2
        · rename_i hc; simp at h2; subst h2; exact ⟨hr, hc⟩
        · simp at h2
      · simp at h2
    rw [hzero] at h2'
    have hv := toVs_sound (E := E) (ok := ok) (w := w) (ob := []) (by simp [look]) _ l z.cells.toList h2'.1 (by simp) (fun i h h' => by simp only [List.getElem_map]; exact constD1_rep _ _ _ _)
    have hlen : l.length = z.cells.size := by simpa using hv.1
    have hcl : ∀ j (hj : j < l.length), (l[j]'hj).cell = true := fun j hj => List.all_eq_true.1 h2'.2 _ (List.getElem_mem hj)
    have hrow : RowAt (okAdd ok w.heap.size 0) (w.alloc (.cells z.cells t)) w.heap.size 0 1 l := row_alloc (fun i hi => by rw [cell_flat (hcl i hi)]; rfl) (fun i hi j hj => by
      have hf := cell_flat (hcl i hi)
      have hj0 : j = 0 := by rw [hf] at hj; simpa using hj
      subst hj0
      have hi' : i < z.cells.size := by omega
      have := hv.2 i hi (by simpa using hi')
      refine ⟨by simpa [hf] using hcl i hi, z.cells[i]'hi', ?_, by simpa [hf] using this⟩
      rw [show i * 1 + 0 = i from by omega]; exact Array.getElem?_eq_getElem hi') c.okb
    have := (c.newRow d (some d) rfl (z := 1) (n := l.length) (cap := l.length) (l := l) (ex := true) g (fun o' => by
      have hno : ¬ ok w.heap.size o' := fun q => by have := c.okb _ _ q; omega
      simp [okAdd, hno]) (heap_alloc_new w _) rfl (by rw [← hlen]; omega) (Nat.le_refl _) (by simp [maxLen]; omega) hrow).2
    rw [hd]
    rw [hd] at h
    exact h _ _ _ this
  · obtain ⟨E', hc⟩ := c.newBox d o.dst (tyOf t).zero z.cells t (by rw [hzero]; simp) (fun j hj => by
      have hj' : j < z.cells.toList.length := by rw [hzero] at hj; simpa using hj
      refine ⟨z.cells[j]'(by simpa using hj'), Array.getElem?_eq_getElem _, hone _ (by simp), ?_⟩
      simp only [hzero, List.getElem_map]
      have := constD1_rep E ok w (z.cells.toList[j]'hj')
      simpa using this)
    rw [hd] at hc
    rw [hd] at h ⊢
    exact h _ _ _ hc
end
end Go.Proofs.Ytinckcpmkocakaa.AM
