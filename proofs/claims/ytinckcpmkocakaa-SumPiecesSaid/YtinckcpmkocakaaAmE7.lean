/-
  The abstract machine, part 21: every operation in its place.
-/
import Derived.Test.YtinckcpmkocakaaAmE6
set_option linter.unusedVariables false
set_option linter.unusedSimpArgs false
set_option linter.unusedSectionVars false
namespace Go.Proofs.Ytinckcpmkocakaa.AM
open Go Go.RowKit
variable {P : Program} {R : List (Nat × AObj) → List D → Prop} (hT : tableOf P = T)
include hT

theorem e_call {G : Gh} {E : Env} {ok : Oks} {S : St} {a : Act} {w : World} (c : Conc G E ok S a w) {o : Oper} {cl : Call} (ho : o.op = .call cl) {f : Operand} (hc : cl.callee = .value f) {d : Nat} (hd : o.dst = some d) {g : Nat} {cap : List D} (hcal : calleeD (S.ev f) = some (g, cap)) {xs : List V} (hx : toVs S.ob (cl.args.toList.map S.ev ++ cap) = some xs) {rs : List Rs} (hf : FnR P g xs rs)
    {K : St → Prop} (hK : K ((addObs S (resObs d 0 rs)).put (some d) (resD d rs))) (Q : Exit → Act → World → Prop) : o.wp P a w (fun a' w' => After G K a' w') Q := by
  have hq : QH E ok w a S.ob S.ev (.call cl) := c.qh _
  obtain ⟨cs, h1, h2, h3⟩ := call_args hc hcal hx hq
  refine call_does hf ho hc h1 h3 h2 hq.okb _ Q fun us gs w' ok' hg hu hgs hr hdis => ?_
  have c1 := c.step (Step.of_grow c hg)
  obtain ⟨E', c2, l2, r2, _⟩ := add_res d c.size rs us gs 0 c1 hu hgs hr hdis (fun id o b q1 q2 => obj_lt c q1 q2)
  have c3 := c2.put o.dst (resD_rep hu l2 fun i h h' => (r2 i h h').1)
  rw [hd] at c3 ⊢
  exact ⟨E', ok', _, hK, c3⟩

theorem e_append {G : Gh} {E : Env} {ok : Oks} {S : St} {a : Act} {w : World} (c : Conc G E ok S a w) {o : Oper} {cl : Call} (ho : o.op = .call cl) (hcb : cl.callee = .builtin .append) {t t2 e d : Nat} (hat : cl.argTypes = #[t, t2]) {s x : Operand} (has : cl.args = #[s, x]) (hd : o.dst = some d) (hk : (tyOf t).k = .slice e) (hkn : known (tyOf e).k = true) (hz0 : 0 < (tyOf e).size) (hst : isSrcT (tyOf t2).k (S.ev x) = true)
    {K : St → Prop} (h : srcW (std P R) (tyOf e).size S.ob (S.ev x) fun l2 => match S.ev s with
            | .nils => (std P R).room [] l2 (tyOf e).bytes fun _ => K ((S.new d (.row (tyOf e).size ((std P R).app [] l2) true)).put (some d) (.own d))
            | .own id => match rowOf S.ob id with
              | some (z, l, ex) => if z = (tyOf e).size then
                  (std P R).room l l2 (tyOf e).bytes fun _ => K ((({ S with ob := remOb id S.ob } : St).new d (.row z ((std P R).app l l2) ex)).put (some d) (.own d))
                else False
              | none => False
            | _ => False) (Q : Exit → Act → World → Prop) : o.wp P a w (fun a' w' => After G K a' w') Q := by
  obtain ⟨l2, h, hsrc⟩ := src_sound hT hst hz0 h
  obtain ⟨news, n1, n2⟩ := hsrc E ok w _ c.obj (ev_rep c x)
  split at h
  · rename_i hs
    obtain ⟨⟨q1, q2⟩, h⟩ := h
    have hev := ev_rep c s
    rw [hs] at hev
    exact e_append_nil hT c ho hcb hat has hd hk hkn hz0 (repD_nils hev) n1 n2 (by simpa using q1) q2 h Q
  · rename_i id hs
    split at h
    · rename_i z l ex hrow
      split at h
      · rename_i hz
        subst hz
        obtain ⟨⟨q1, q2⟩, h⟩ := h
        exact e_append_own hT c ho hcb hat has hd hk hkn hz0 hs (rowOf_some hrow) n1 n2 q1 q2 h Q
      · exact h.elim
    · exact h.elim
  · exact h.elim

theorem cellV_some {ob : List (Nat × AObj)} {l : List D} {r : List V} (h : cellV ob l = some r) : toVs ob l = some r ∧ r.all V.cell = true := by
  unfold cellV at h
  split at h
  · split at h
    · rename_i h1 h2; cases h; exact ⟨h1, h2⟩
    · cases h
  · cases h

theorem toList2 {α : Type} {l : Array α} {x y : α} (h : l.toList = [x, y]) : l = #[x, y] := by
  apply Array.ext'; simpa using h

/-- **Every operation does what 'eWp' says.** -/
theorem e_sound {G : Gh} {E : Env} {ok : Oks} {S0 : St} {a : Act} {w : World} (c0 : Conc G E ok S0 a w) {o : Oper} {K : St → Prop} (h : eWp (std P R) o S0 K) (Q : Exit → Act → World → Prop) : o.wp P a w (fun a' w' => After G K a' w') Q := by
  obtain ⟨ok', c⟩ := c0.softOb (handsOn S0 o.op)
  change Conc G E ok' (S0.soft (handsOn S0 o.op)) a w at c
  unfold eWp at h
  simp only at h
  generalize S0.soft (handsOn S0 o.op) = S at *
  split at h
  · rename_i t ho
    split at h
    · rename_i d hd
      split at h
      · exact h.elim
      · rename_i hkn
        have hkn' : known (tyOf t).k = true := by simpa using hkn
        split at h
        · rename_i n e hk
          split at h
          · split at h
            · rename_i l hl
              split at h
              · rename_i hln
                split at h
                · rename_i hn
                  refine e_alloc hT c ho hd hkn' Q (.inl ⟨n, e, l, hk, hl, hln, hn, fun E' ok' w' hc => ⟨_, _, _, h, hc⟩⟩)
                · exact h.elim
              · exact h.elim
            · exact h.elim
          · exact h.elim
        · exact e_alloc hT c ho hd hkn' Q (.inr fun E' ok' w' hc => ⟨_, _, _, h, hc⟩)
    · exact h.elim
  · rename_i t x ho
    split at h
    · rename_i d n e hd hk
      split at h
      · rename_i l hl
        split at h
        · rename_i hln
          split at h
          · rename_i hn
            exact e_box c ho hd Q (.inl ⟨l, hl, by omega, h⟩)
          · exact h.elim
        · exact h.elim
      · exact h.elim
    · rename_i d hd hna
      split at h
      · rename_i l hl
        exact e_box c ho hd Q (.inr ⟨l, hl, h⟩)
      · exact h.elim
    · exact h.elim
  · rename_i t x y ho
    split at h
    · rename_i hk
      exact e_store hT c ho hk h Q
    · exact h.elim
  · rename_i t n parts ho
    split at h
    · rename_i d e hd hk
      obtain ⟨l, h, e', he', hkn, hrun⟩ := q_buildSlice hT _ _ _ _ _ _ h
      rw [hk] at he'; cases he'
      obtain ⟨cs, r1, r2, r3, r4, r5, r6⟩ := hrun E ok' w a (ho ▸ c.qh _)
      exact e_newSlice (e := e) c hd (by simp only [execOp, ho, Sem.run_bind, r1, Result.andThen_ok, Sem.run_pure]) r2 (Nat.le_refl _) r3 r4 r5 r6 h Q
    · exact h.elim
  · rename_i t l m ho
    split at h
    · rename_i d e hd hk
      obtain ⟨r, h, e', m', he', hkn, q1, q2, hrun⟩ := q_makeSlice hT _ _ _ _ _ _ h
      rw [hk] at he'; cases he'
      obtain ⟨cs, r1, r2, r3, r4⟩ := hrun E ok' w a (ho ▸ c.qh _)
      exact e_newSlice (e := e) c hd (by simp only [execOp, ho, Sem.run_bind, r1, Result.andThen_ok, Sem.run_pure]) rfl q1 q2 r2 r3 r4 h Q
    · exact h.elim
  · rename_i s d x ho
    split at h
    · rename_i e e' hk1 hk2
      split at h
      · rename_i hsd
        split at h
        · rename_i he
          split at h
          · rename_i id hx
            split at h
            · rename_i y l ex hrow
              exact e_conv hT c ho (by simpa using hsd) hk1 he hx (rowOf_some hrow) h Q
            · exact h.elim
          · exact h.elim
        · exact h.elim
      · exact h.elim
    · exact after_q hT c (by rw [ho] at h ⊢; exact h) Q
  · rename_i cl ho
    split at h
    · rename_i hcb
      split at h
      · rename_i d t t2 s x hd hat has
        split at h
        · rename_i e hk
          split at h
          · exact h.elim
          · rename_i hkn
            split at h
            · exact h.elim
            · rename_i hz0
              split at h
              · rename_i hst
                exact e_append hT c ho hcb (toList2 hT hat) (toList2 hT has) hd hk (by simpa using hkn) (by omega) hst h Q
              · exact h.elim
        · exact h.elim
      · exact h.elim
    · rename_i f hcv
      split at h
      · rename_i d g cap hd hcal
        split at h
        · rename_i xs hx
          obtain ⟨rs, hf, h⟩ := h
          exact e_call hT c ho hcv hd hcal hx hf h Q
        · exact h.elim
      · exact h.elim
    · exact after_q hT c (by rw [ho] at h ⊢; exact h) Q
  · exact after_q hT c h Q
end Go.Proofs.Ytinckcpmkocakaa.AM
