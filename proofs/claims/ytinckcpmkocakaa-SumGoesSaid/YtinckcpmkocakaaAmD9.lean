/-
  The abstract machine, part 21j: a region in any order: soundness.
-/
import Derived.Test.YtinckcpmkocakaaAmD8
set_option linter.unusedVariables false
set_option linter.unusedSimpArgs false
set_option linter.unusedSectionVars false
namespace Go.Proofs.Ytinckcpmkocakaa.AM
open Go Go.RowKit
def Inv (G : Gh) (L : List (Nat × Eff)) (S0 : St) (J : Nat → Bool) (a : Act) (w : World) : Prop := ∃ E ok S', Eqv S' (sel J L S0) ∧ Conc G E ok S' a w
section
variable {P : Program} {R : List (Nat × AObj) → List D → Prop} (hT : tableOf P = T) {ops : List Oper} {anc : List (Nat × Nat)} {π1 π2 : List Nat} {k : Nat} {es1 es2 : List Eff} {e : Eff} {S0 : St} {J : Nat → Bool} {o : Oper}
include hT
theorem At.step {G : Gh} {E : Env} {ok : Oks} {S' : St} {a : Act} {w : World} (h : At ops anc π1 π2 k J o) (hl : es1.length = π1.length) (tr : TrOk P R ops anc (π1 ++ k :: π2) S0 (es1 ++ e :: es2)) (hop : OpOk P R ops anc k π2 o (foldE es1 S0) e)
    (he : Eqv S' (sel J ((π1 ++ k :: π2).zip (es1 ++ e :: es2)) S0)) (c : Conc G E ok S' a w) (Q : Exit → Act → World → Prop) :
    ∃ run, GOk ops o (foldE es1 S0) run ∧ (run = true → o.wp P a w (Inv G ((π1 ++ k :: π2).zip (es1 ++ e :: es2)) S0 (addJ J k)) Q) ∧ (run = false → Inv G ((π1 ++ k :: π2).zip (es1 ++ e :: es2)) S0 (addJ J k) (a.put o.dst undef) w) := by
  have hadd := h.add hl tr hop
  have fin : ∀ {S'' : St} {E' : Env} {ok' : Oks} {a' : Act} {w' : World}, Eqv S'' (e.app S') → Conc G E' ok' S'' a' w' → Inv G ((π1 ++ k :: π2).zip (es1 ++ e :: es2)) S0 (addJ J k) a' w' := fun q c' => ⟨_, _, _, (q.trans (he.app e)).trans hadd.symm, c'⟩
  obtain ⟨run, hg, h0, h1⟩ := hop
  refine ⟨run, hg, fun hr => ?_, fun hr => ?_⟩
  · rcases h1 hr with ⟨hlo, hld⟩ | ⟨hlo, d, hd, hq⟩
    · have noLoud : ∀ i ∈ π2, J i = true → False := fun i hi hj => by
        obtain ⟨o', q1, _, q3⟩ := h.plan.pos π1 k π2 rfl
        rw [h.op] at q1; cases q1
        have := q3 hlo _ hi
        rw [(h.behind hi hj).2] at this; cases this
      have hev : ∀ x ∈ o.op.operands.toList, S'.ev x = (foldE es1 S0).ev x := fun x hx => by
        cases x with
        | tmp t => exact (he.get t).trans (h.slot hl tr (by unfold looks; exact List.mem_append_left _ (List.mem_filterMap.2 ⟨_, hx, rfl⟩)) fun i hi hj p _ _ => (noLoud i hi hj).elim)
        | _ => rfl
      have hn : S'.n = (foldE es1 S0).n := by rw [he.n, sel_n, ← sel_true π1 es1 S0 hl, sel_n]
      have hw := hld.2.2 S' hn (he.ob.trans (h.ob hl tr fun i hi hj p _ _ => noLoud i hi hj)) hev (fun S'' => S'' = e.app S') rfl
      exact Oper.wp_mono (fun a' w' ⟨E', ok', S'', q, c'⟩ => by subst q; exact fin (Eqv.refl _) c') (e_sound hT c hw Q)
    · subst hd
      have hev : (∀ x ∈ o.op.operands.toList, ∀ i ∈ π2, J i = true → ∀ p, ops[i]? = some p → loud p.op = true → noMent (killOf p) ((foldE es1 S0).ev x) = true) → ∀ x ∈ o.op.operands.toList, S'.ev x = (foldE es1 S0).ev x := fun hm x hx => by
        cases x with
        | tmp t => exact (he.get t).trans (h.slot hl tr (by unfold looks; exact List.mem_append_left _ (List.mem_filterMap.2 ⟨_, hx, rfl⟩)) (hm _ hx))
        | _ => rfl
      have go : ∀ ob, (∀ id o, look ob id = some o → ObjRep E ok w id o) → QuietOk P ob o (foldE es1 S0) d → (∀ x ∈ o.op.operands.toList, S'.ev x = (foldE es1 S0).ev x) → o.wp P a w (Inv G ((π1 ++ k :: π2).zip (es1 ++ Eff.q o.dst d :: es2)) S0 (addJ J k)) Q := by
        rintro ob hob ⟨d0, hc, hdd⟩ hx
        refine hc E ok w a o rfl ⟨fun x hxm => by rw [← hx x (by simpa using hxm)]; exact ev_rep c x, hob, c.okb⟩ _ Q fun v w' ok' g r => ?_
        refine fin (Eqv.refl _) ((c.grow g).put o.dst ?_)
        rcases hdd with rfl | ⟨b, rfl, rfl⟩
        · exact r
        · rw [repD_bool r]; exact .lit b
      rcases hq with ⟨hf, hq⟩ | ⟨ks, hf, hop', _, hq⟩
      · have none : ∀ i ∈ π2, J i = true → ∀ p, ops[i]? = some p → loud p.op = true → False := fun i hi hj p hp hlp => by
          have := freeOf_none hf i hi p hp hlp
          rw [(h.behind hi hj).2] at this; cases this
        refine go _ ?_ hq (hev fun x hx i hi hj p hp hlp => (none i hi hj p hp hlp).elim)
        rw [← h.ob hl tr none, ← he.ob]; exact c.obj
      · exact go [] (by simp [look]) hq (hev fun x hx i hi hj p hp hlp => noMent_sub (hop' x hx) (freeOf_some hf i hi p hp hlp (h.behind hi hj).2))
  · have heq := h0 hr
    subst heq
    exact fin (Eqv.refl _) (c.put o.dst (.v _ _ (Rep.tup (ok := ok) (w := w) [] [] rfl (by simp))))
end
end Go.Proofs.Ytinckcpmkocakaa.AM
