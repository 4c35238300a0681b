/-
  The abstract machine, part 21: every operation in its place.
-/
import Derived.Test.YtinckcpmkocakaaM11eea7f9d7
set_option linter.unusedVariables false
set_option linter.unusedSimpArgs false
set_option linter.unusedSectionVars false
namespace Go.Proofs.Ytinckcpmkocakaa.AM
open Go Go.RowKit
variable {P : Program} {R : List (Nat × AObj) → List D → Prop} (hT : tableOf P = T)
include hT

theorem gs_ge {B : Nat} {ok : Oks} {w : World} {rs : List Rs} {us : List Value} {gs : List (Option Nat)} (hu : us.length = rs.length) (hg : gs.length = rs.length) (h : ∀ i (h : i < rs.length) (h' : i < us.length) (h'' : i < gs.length), RsRep B ok w (rs[i]'h) (us[i]'h') (gs[i]'h'')) {i b : Nat} (hi : gs[i]? = some (some b)) : B ≤ b := by
  obtain ⟨q1, q2⟩ := List.getElem?_eq_some_iff.1 hi
  have h0 := h i (by omega) (by omega) q1
  rw [q2] at h0
  cases hr : rs[i]'(by omega) with
  | v x => rw [hr] at h0; cases h0.1
  | o z l =>
    rw [hr] at h0
    rcases h0 with ⟨_, q, _⟩ | ⟨b', _, _, _, q, q', _⟩
    · cases q
    · cases q; exact q'
theorem e_call {G : Gh} {E : Env} {ok : Oks} {S : St} {a : Act} {w : World} (c : Conc G E ok S a w) {o : Oper} {cl : Call} (ho : o.op = .call cl) {f : Operand} (hc : cl.callee = .value f) {d : Nat} (hd : o.dst = some d) {g : Nat} {fst cap : List D} (hcal : calleeD (S.ev f) = some (g, fst, cap)) {ys xs : List V} (hx : toVas S.ob (fst ++ cl.args.toList.map S.ev ++ cap) = some ys) (hsub : Subs ys xs) {rs : List Rs} (hf : FnR P g xs rs)
    {K : St → Prop} (hK : K ((addObs S (resObs d 0 rs)).put (some d) (resD d rs))) (Q : Exit → Act → World → Prop) : o.wp P a w (fun a' w' => After G K a' w') Q := by
  have hq : QH E ok w a S.ob S.ev (.call cl) := c.qh _
  obtain ⟨fs, cs, h1, h2, h3⟩ := call_args hc hcal hx hsub hq
  refine call_does hf ho hc h1 h3 h2 hq.okb _ Q fun us gs w' ok' hg hu hgs hr hdis => ?_
  have c1 := c.step (Step.of_grow c hg)
  obtain ⟨E', c2, l2, r2, _⟩ := add_res d c.size rs us gs 0 c1 hu hgs hr hdis (fun id o b q1 q2 i hi => by
    rw [occ_env hg.env] at q2
    have := obj_lt c q1 q2
    have := gs_ge hT hu hgs hr hi
    omega)
  have c3 := c2.put o.dst (resD_rep hu l2 fun i h h' => (r2 i h h').1)
  rw [hd] at c3 ⊢
  exact ⟨E', ok', _, hK, c3⟩
/-- A call that changes the common heap. -/
theorem e_callG {G : Gh} {E : Env} {ok : Oks} {S : St} {a : Act} {w : World} (c : Conc G E ok S a w) {o : Oper} {cl : Call} (ho : o.op = .call cl) {f : Operand} (hc : cl.callee = .value f) {d : Nat} (hd : o.dst = some d) {g : Nat} {fst cap : List D} (hcal : calleeD (S.ev f) = some (g, fst, cap)) {ys xs : List V} (hx : toVas S.ob (fst ++ cl.args.toList.map S.ev ++ cap) = some ys) (hsub : Subs ys xs) {post : List Rs → GH → Prop} {gh : GH} (hh : gheap S.ob = some gh) (hf : FnG P g xs gh post)
    {K : St → Prop} (hK : ∀ rs gh', post rs gh' → K ((addObs (S.setHeap (some gh')) (resObs d 0 rs)).put (some d) (resD d rs))) (Q : Exit → Act → World → Prop) : o.wp P a w (fun a' w' => After G K a' w') Q := by
  have hq : QH E ok w a S.ob S.ev (.call cl) := c.qh _
  obtain ⟨fs, cs, hfv, hlen, hrep⟩ := call_args hc hcal hx hsub hq
  obtain ⟨⟨fn, h1, h2, h3⟩, hf⟩ := hf
  unfold gheap at hh
  split at hh
  · rename_i gh0 pub hp
    cases hh
    have hl := heapOf_some hp
    have hargs : fs.toArray ++ cl.args.map a.eval ++ cs.toArray = (fs ++ cl.args.toList.map a.eval ++ cs).toArray := by apply Array.ext'; simp
    have hrun : (execOp a.eval o).run P w = .ok (.enter g (fs ++ cl.args.toList.map a.eval ++ cs).toArray) w := by
      simp only [execOp, ho, resolve, hc, hfv, Deferred.ofValue, Sem.run_bind, Sem.run_pure, Result.andThen_ok, invoke, callFunc, program, Sem.run, h1, hargs]
      cases hb : fn.body with
      | none => rw [hb] at h2; simp at h2
      | some b => simp [h3]
    unfold Oper.wp
    rw [hrun, Oper.upon_enter]
    refine (hf w ok _ c.okb (c.obj _ _ hl).2 hlen hrep).mono fun e w' ⟨us, gs, ok', rs, gh', hpost, he, fr, q1, q2, q3, hu, hgs, hr, hdis, gl, hgb⟩ => ?_
    subst he
    replace hK := hK rs gh' hpost
    have c1 := c.swap (pub' := pub) hl fr q1 q2 q3 gl (fun b hb => (hgb b hb).1)
    have hS : S.setHeap (some gh') = S.setOb hk (.heap gh' pub) := by simp only [St.setHeap, hp]
    rw [hS] at hK
    obtain ⟨E', c2, l2, r2, _⟩ := add_res d c.size rs us gs 0 c1 hu hgs hr hdis (fun id o b k1 k2 i hi => by
      have hge := gs_ge hT hu hgs hr hi
      simp only [St.setOb, look] at k1
      split at k1
      · simp only [Option.some.injEq] at k1
        subst k1
        exact (hgb b k2).2 i hi
      · rename_i hne
        rw [look_remOb, if_neg (Ne.symm hne)] at k1
        have k3 : occ E ok id o b := by
          cases o with
          | heap gh2 pub2 => exact absurd (c.obj _ _ k1).1 (Ne.symm hne)
          | _ => exact k2
        have := obj_lt c k1 k3
        omega)
    have c3 := c2.put o.dst (resD_rep hu l2 fun i h h' => (r2 i h h').1)
    rw [hd] at c3 ⊢
    exact ⟨E', ok', _, hK, c3⟩
  · cases hh

theorem e_append {G : Gh} {E : Env} {ok : Oks} {S : St} {a : Act} {w : World} (c : Conc G E ok S a w) {o : Oper} {cl : Call} (ho : o.op = .call cl) (hcb : cl.callee = .builtin .append) {t t2 e d : Nat} (hat : cl.argTypes = #[t, t2]) {s x : Operand} (has : cl.args = #[s, x]) (hd : o.dst = some d) (hk : (tyOf t).k = .slice e) (hkn : known (tyOf e).k = true) (hz0 : 0 < (tyOf e).size) (hst : isSrcT (tyOf t2).k (S.ev x) = true)
    {K : St → Prop} (h : srcW (std P R) (tyOf e).size S.ob (S.ev x) fun l2 => match S.ev s with
            | .nils => (std P R).room [] l2 (tyOf e).bytes fun _ => K ((S.new d (.row (tyOf e).size ((std P R).app [] l2) true)).put (some d) (.own d))
            | .own id => match rowOf S.ob id with
              | some (z, l, ex) => if z = (tyOf e).size then
                  (std P R).room l l2 (tyOf e).bytes fun _ => K ((({ S with ob := remOb id S.ob } : St).new d (.row z ((std P R).app l l2) ex)).put (some d) (.own d))
                else False
              | none => False
            | _ => False) (Q : Exit → Act → World → Prop) : o.wp P a w (fun a' w' => After G K a' w') Q := by
  obtain ⟨l2, h, hsrc⟩ := src_sound hT hst hz0 h
  obtain ⟨news, n1, n2⟩ := hsrc E ok w _ c.obj (ev_rep c x)
  split at h
  · rename_i hs
    obtain ⟨⟨q1, q2⟩, h⟩ := h
    have hev := ev_rep c s
    rw [hs] at hev
    exact e_append_nil hT c ho hcb hat has hd hk hkn hz0 (repD_nils hev) n1 n2 (by simpa using q1) q2 h Q
  · rename_i id hs
    split at h
    · rename_i z l ex hrow
      split at h
      · rename_i hz
        subst hz
        obtain ⟨⟨q1, q2⟩, h⟩ := h
        exact e_append_own hT c ho hcb hat has hd hk hkn hz0 hs (rowOf_some hrow) n1 n2 q1 q2 h Q
      · exact h.elim
    · exact h.elim
  · exact h.elim

theorem cellV_some {ob : List (Nat × AObj)} {l : List D} {r : List V} (h : cellV ob l = some r) : toVs ob l = some r ∧ r.all V.cell = true := by
  unfold cellV at h
  split at h
  · split at h
    · rename_i h1 h2; cases h; exact ⟨h1, h2⟩
    · cases h
  · cases h

theorem toList2 {α : Type} {l : Array α} {x y : α} (h : l.toList = [x, y]) : l = #[x, y] := by
  apply Array.ext'; simpa using h

/-- **Every operation does what 'eWp' says.** -/
theorem e_sound {G : Gh} {E : Env} {ok : Oks} {S0 : St} {a : Act} {w : World} (c0 : Conc G E ok S0 a w) {o : Oper} {K : St → Prop} (h : eWp (std P R) o S0 K) (Q : Exit → Act → World → Prop) : o.wp P a w (fun a' w' => After G K a' w') Q := by
  obtain ⟨ok', c⟩ := c0.softOb (handsOn S0 o.op)
  change Conc G E ok' (S0.soft (handsOn S0 o.op)) a w at c
  unfold eWp at h
  simp only at h
  generalize S0.soft (handsOn S0 o.op) = S at *
  split at h
  · rename_i t ho
    split at h
    · rename_i d hd
      split at h
      · exact h.elim
      · rename_i hkn
        have hkn' : known (tyOf t).k = true := by simpa using hkn
        split at h
        · rename_i n e hk
          split at h
          · split at h
            · rename_i l hl
              split at h
              · rename_i hln
                split at h
                · rename_i hn
                  refine e_alloc hT c ho hd hkn' Q (.inl ⟨n, e, l, hk, hl, hln, hn, fun E' ok' w' hc => ⟨_, _, _, h, hc⟩⟩)
                · exact h.elim
              · exact h.elim
            · exact h.elim
          · exact h.elim
        · exact e_alloc hT c ho hd hkn' Q (.inr fun E' ok' w' hc => ⟨_, _, _, h, hc⟩)
    · exact h.elim
  · rename_i t x ho
    split at h
    · rename_i d n e hd hk
      split at h
      · rename_i l hl
        split at h
        · rename_i hln
          split at h
          · rename_i hn
            exact e_box c ho hd Q (.inl ⟨l, hl, by omega, h⟩)
          · exact h.elim
        · exact h.elim
      · exact h.elim
    · rename_i d hd hna
      split at h
      · rename_i l hl
        exact e_box c ho hd Q (.inr ⟨l, hl, h⟩)
      · exact h.elim
    · exact h.elim
  · rename_i t x y ho
    split at h
    · rename_i hk
      exact e_store hT c ho hk h Q
    · exact h.elim
  · rename_i t n parts ho
    split at h
    · rename_i d e hd hk
      obtain ⟨l, h, e', he', hkn, hrun⟩ := q_buildSlice hT _ _ _ _ _ _ h
      rw [hk] at he'; cases he'
      obtain ⟨cs, r1, r2, r3, r4, r5, r6⟩ := hrun E ok' w a (ho ▸ c.qh _)
      exact e_newSlice (e := e) c hd (by simp only [execOp, ho, Sem.run_bind, r1, Result.andThen_ok, Sem.run_pure]) r2 (Nat.le_refl _) r3 r4 r5 r6 h Q
    · exact h.elim
  · rename_i t l m ho
    split at h
    · rename_i d e hd hk
      obtain ⟨r, h, e', m', he', hkn, q1, q2, hrun⟩ := q_makeSlice hT _ _ _ _ _ _ h
      rw [hk] at he'; cases he'
      obtain ⟨cs, r1, r2, r3, r4⟩ := hrun E ok' w a (ho ▸ c.qh _)
      exact e_newSlice (e := e) c hd (by simp only [execOp, ho, Sem.run_bind, r1, Result.andThen_ok, Sem.run_pure]) rfl q1 q2 r2 r3 r4 h Q
    · exact h.elim
  · rename_i s d x ho
    split at h
    · rename_i e e' hk1 hk2
      split at h
      · rename_i hsd
        split at h
        · rename_i he
          split at h
          · rename_i id hx
            split at h
            · rename_i y l ex hrow
              exact e_conv hT c ho (by simpa using hsd) hk1 he hx (rowOf_some hrow) h Q
            · exact h.elim
          · exact h.elim
        · exact h.elim
      · exact h.elim
    · exact after_q hT c (by rw [ho] at h ⊢; exact h) Q
  · rename_i cl ho
    split at h
    · rename_i hcb
      split at h
      · rename_i d t t2 s x hd hat has
        split at h
        · rename_i e hk
          split at h
          · exact h.elim
          · rename_i hkn
            split at h
            · exact h.elim
            · rename_i hz0
              split at h
              · rename_i hst
                exact e_append hT c ho hcb (toList2 hT hat) (toList2 hT has) hd hk (by simpa using hkn) (by omega) hst h Q
              · exact h.elim
        · exact h.elim
      · exact h.elim
    · rename_i f hcv
      split at h
      · rename_i d g fst cap hd hcal
        split at h
        · rename_i xs hx
          obtain ⟨ys, hsub, h⟩ := h
          rcases h with ⟨rs, hf, h⟩ | ⟨gh, post, hh, hf, h⟩
          · exact e_call hT c ho hcv hd hcal hx hsub hf h Q
          · exact e_callG hT c ho hcv hd hcal hx hsub hh hf h Q
        · exact h.elim
      · exact h.elim
    · exact after_q hT c (by rw [ho] at h ⊢; exact h) Q
  · exact after_q hT c h Q
/-- **Every operation, those on the common heap too.** -/
theorem h_sound {G : Gh} {E : Env} {ok : Oks} {S0 : St} {a : Act} {w : World} (c0 : Conc G E ok S0 a w) {o : Oper} {K : St → Prop} (h : hWp (std P R) o S0 K) (Q : Exit → Act → World → Prop) : o.wp P a w (fun a' w' => After G K a' w') Q := by
  unfold hWp at h
  split at h
  · exact e_sound hT c0 h Q
  · obtain ⟨ok', c⟩ := c0.softOb (idsDs false (o.op.operands.toList.map S0.ev))
    change Conc G E ok' (S0.soft (idsDs false (o.op.operands.toList.map S0.ev))) a w at c
    simp only at h
    generalize S0.soft (idsDs false (o.op.operands.toList.map S0.ev)) = S at *
    split at h
    · rename_i gh pub hp
      split at h
      · rename_i xs hx
        have hl := heapOf_some hp
        obtain ⟨h1, h2⟩ := toVas_sound (E := E) (ok := ok') (w := w) c.obj (o.op.operands.toList.map S.ev) xs (o.op.operands.toList.map a.eval) hx (by simp) (fun i hi hi' => by
          simp only [List.getElem_map]
          exact ev_rep c _)
        have hops : OpsRep ok' w a o.op xs := ⟨by simpa using h1, fun i hi hi' => by
          have := h2 i hi' (by simpa using hi)
          simpa using this⟩
        have fin : ∀ {Rq : V → GH → Prop}, GOp P o xs gh Rq → (∀ r gh', Rq r gh' → K ((S.setOb hk (.heap gh' pub)).put o.dst (.v r))) → o.wp P a w (fun a' w' => After G K a' w') Q := fun hg hK =>
          Oper.wp_mono (fun a' w' ⟨v, ok'', r, gh', e1, e2, c', hr⟩ => by
            subst e1
            exact ⟨E, ok'', _, hK r gh' e2, c'.put o.dst (.v _ _ hr)⟩) (hg G E ok' S a w pub c hl hops Q)
        split at h
        · obtain ⟨r, gh', hg, hK⟩ := h
          exact fin hg (fun r' h' ⟨e1, e2⟩ => by subst e1 e2; exact hK)
        · obtain ⟨Rq, hg, hK⟩ := h
          exact fin hg hK
      · exact h.elim
    · exact h.elim
end Go.Proofs.Ytinckcpmkocakaa.AM

/-
  The abstract machine, part 21b: regions whose order is left open.
-/
set_option linter.unusedVariables false
set_option linter.unusedSimpArgs false
set_option linter.unusedSectionVars false
namespace Go.Proofs.Ytinckcpmkocakaa.AM
open Go Go.RowKit

/-- What an operation does to the state. -/
inductive Eff where
  | q (dst : Option Nat) (d : D)
  | l (dst : Option Nat) (d : D) (kill : List Nat) (ob : List (Nat × AObj))
def St.kills (S : St) : List Nat → St
  | [] => S
  | k :: r => (S.kill k).kills r
def Eff.app : Eff → St → St
  | .q dst d, S => S.put dst d
  | .l dst d ks ob, S => ({ S.kills ks with ob := ob } : St).put dst d
structure Eqv (S S' : St) : Prop where
  n : S.n = S'.n
  ob : S.ob = S'.ob
  get : ∀ t, S.get t = S'.get t
theorem Eqv.refl (S : St) : Eqv S S := ⟨rfl, rfl, fun _ => rfl⟩
theorem Eqv.symm {S S' : St} (h : Eqv S S') : Eqv S' S := ⟨h.n.symm, h.ob.symm, fun t => (h.get t).symm⟩
theorem Eqv.trans {S S' S'' : St} (h : Eqv S S') (k : Eqv S' S'') : Eqv S S'' := ⟨h.n.trans k.n, h.ob.trans k.ob, fun t => (h.get t).trans (k.get t)⟩
theorem Conc.eqv {G : Gh} {E : Env} {ok : Oks} {S S' : St} {a : Act} {w : World} (c : Conc G E ok S a w) (h : Eqv S S') : Conc G E ok S' a w :=
  { c with n := by rw [← h.n]; exact c.n, slot := fun t => by rw [← h.get]; exact c.slot t, obj := by rw [← h.ob]; exact c.obj, apart := by rw [← h.ob]; exact c.apart, reg := by rw [← h.ob]; exact c.reg, hp := by rw [← h.ob]; exact c.hp }
theorem Eqv.ev {S S' : St} (h : Eqv S S') (x : Operand) : S.ev x = S'.ev x := by cases x <;> first | rfl | exact h.get _
theorem Eqv.kill {S S' : St} (h : Eqv S S') (k : Nat) : Eqv (S.kill k) (S'.kill k) :=
  ⟨h.n, by simp only [St.kill, h.ob], fun t => by rw [get_kill, get_kill, h.get]⟩
theorem Eqv.put {S S' : St} (h : Eqv S S') (dst : Option Nat) (d : D) : Eqv (S.put dst d) (S'.put dst d) :=
  ⟨by rw [put_n, put_n]; exact h.n, by rw [put_ob, put_ob]; exact h.ob, fun t => by rw [get_put, get_put, h.n, h.get]⟩
def unDs : List Nat → D → D
  | [], d => d
  | k :: r, d => unDs r (unD k d)
theorem get_kills : ∀ (ks : List Nat) (S : St) (t : Nat), (S.kills ks).get t = unDs ks (S.get t)
  | [], S, t => rfl
  | k :: r, S, t => by simp only [St.kills, unDs, get_kills r, get_kill]
theorem n_kills : ∀ (ks : List Nat) (S : St), (S.kills ks).n = S.n
  | [], S => rfl
  | k :: r, S => by simp only [St.kills, n_kills r]; rfl
theorem get_app_l (dst : Option Nat) (d : D) (ks : List Nat) (ob : List (Nat × AObj)) (S : St) (t : Nat) : ((Eff.l dst d ks ob).app S).get t = if dst = some t ∧ t < S.n then d else unDs ks (S.get t) := by
  refine (get_put _ _ _ _).trans ?_
  show (if dst = some t ∧ t < (S.kills ks).n then d else (S.kills ks).get t) = _
  rw [n_kills, get_kills]
theorem n_app (e : Eff) (S : St) : (e.app S).n = S.n := by
  cases e with
  | q dst d => exact put_n _ _ _
  | l dst d ks ob => exact (put_n _ _ _).trans (n_kills ks S)
theorem ob_app_q (dst : Option Nat) (d : D) (S : St) : ((Eff.q dst d).app S).ob = S.ob := put_ob _ _ _
theorem ob_app_l (dst : Option Nat) (d : D) (ks : List Nat) (ob : List (Nat × AObj)) (S : St) : ((Eff.l dst d ks ob).app S).ob = ob := put_ob _ _ _
/-- What stands in a slot behind an effect, and in the table of objects, depends on what stood there. -/
theorem app_get (e : Eff) {S S' : St} (hn : S.n = S'.n) {t : Nat} (h : S.get t = S'.get t) : (e.app S).get t = (e.app S').get t := by
  cases e with
  | q dst d => simp only [Eff.app, get_put, hn, h]
  | l dst d ks ob => simp only [get_app_l, hn, h]
theorem app_ob (e : Eff) {S S' : St} (h : S.ob = S'.ob) : (e.app S).ob = (e.app S').ob := by
  cases e with
  | q dst d => simp only [ob_app_q, h]
  | l dst d ks ob => simp only [ob_app_l]
theorem Eqv.app {S S' : St} (h : Eqv S S') (e : Eff) : Eqv (e.app S) (e.app S') :=
  ⟨by rw [n_app, n_app]; exact h.n, app_ob e h.ob, fun t => app_get e h.n (h.get t)⟩
def Eff.dst : Eff → Option Nat
  | .q dst _ => dst
  | .l dst _ _ _ => dst
def Eff.ks : Eff → List Nat
  | .q _ _ => []
  | .l _ _ ks _ => ks
theorem unDs_same : ∀ (ks : List Nat) (d : D), noMent ks d = true → unDs ks d = d
  | [], d, _ => rfl
  | k :: r, d, h => by
    simp only [noMent, List.all_cons, Bool.and_eq_true, Bool.not_eq_true'] at h
    have : unD k d = d := by unfold unD; rw [h.1]
    simp only [unDs, this]
    exact unDs_same r d h.2
/-- Two effects that do not meet. -/
theorem comm {dst : Option Nat} {d : D} {f : Eff} (hd : ∀ t, dst = some t → f.dst ≠ some t) (hm : noMent f.ks d = true) (S : St) : Eqv (f.app ((Eff.q dst d).app S)) ((Eff.q dst d).app (f.app S)) := by
  refine ⟨by simp only [n_app], by rw [ob_app_q]; exact app_ob f (ob_app_q _ _ _), fun t => ?_⟩
  have e1 : ((Eff.q dst d).app (f.app S)).get t = if dst = some t ∧ t < S.n then d else (f.app S).get t := by
    simp only [Eff.app.eq_1, get_put, n_app]
  rw [e1]
  by_cases ht : dst = some t ∧ t < S.n
  · rw [if_pos ht]
    have hf := hd t ht.1
    have e2 : ((Eff.q dst d).app S).get t = d := by simp only [Eff.app, get_put]; rw [if_pos ht]
    cases f with
    | q dst' d' =>
      have : ((Eff.q dst' d').app ((Eff.q dst d).app S)).get t = ((Eff.q dst d).app S).get t := by
        simp only [Eff.app, get_put]
        have : ¬ (dst' = some t ∧ t < (S.put dst d).n) := fun h => hf h.1
        rw [if_neg this]
      rw [this, e2]
    | l dst' d' ks ob =>
      rw [get_app_l, if_neg (fun h => hf h.1), e2]
      exact unDs_same ks d hm
  · rw [if_neg ht]
    refine app_get f (n_app _ _) ?_
    simp only [Eff.app, get_put]
    rw [if_neg ht]
end Go.Proofs.Ytinckcpmkocakaa.AM

/-
  The abstract machine, part 21c: loud operations, whatever else stands in the slots.
-/
set_option linter.unusedVariables false
set_option linter.unusedSimpArgs false
set_option linter.unusedSectionVars false
namespace Go.Proofs.Ytinckcpmkocakaa.AM
open Go Go.RowKit

theorem soft_nil (S : St) : S.soft [] = S := rfl
/-- What a loud operation does, is done from every state that looks alike to it. -/
def LoudOk (P : Program) (R : List (Nat × AObj) → List D → Prop) (o : Oper) (S : St) (e : Eff) : Prop :=
  e.dst = o.dst ∧ (∀ k ∈ e.ks, k ∈ killOf o) ∧ ∀ S2 : St, S2.n = S.n → S2.ob = S.ob → (∀ x ∈ o.op.operands.toList, S2.ev x = S.ev x) → ∀ K2 : St → Prop, K2 (e.app S2) → hWp (std P R) o S2 K2
def LoudOk0 (P : Program) (R : List (Nat × AObj) → List D → Prop) (o : Oper) (S : St) (e : Eff) : Prop :=
  e.dst = o.dst ∧ (∀ k ∈ e.ks, k ∈ killOf o) ∧ ∀ S2 : St, S2.n = S.n → S2.ob = S.ob → (∀ x ∈ o.op.operands.toList, S2.ev x = S.ev x) → ∀ K2 : St → Prop, K2 (e.app S2) → eWp (std P R) o S2 K2
section
variable {P : Program} {R : List (Nat × AObj) → List D → Prop}

theorem look_setOb (S : St) (id0 : Nat) (o : AObj) (id : Nat) (h : id ≠ id0) : look (S.setOb id0 o).ob id = look S.ob id := by
  simp only [St.setOb, look]
  rw [if_neg (Ne.symm h), look_remOb, if_neg h]
theorem storeW_eff {td : TD} {S : St} {a x : D} {K : St → Prop} (h : storeW (std P R) td S a x K) : ∃ ob', K ({ S with ob := ob' } : St) ∧ (∀ id0, ((∃ off, a = .ptr id0 off) ∨ ∃ z i off, a = .rptr id0 z i off) → ∀ id, id ≠ id0 → look ob' id = look S.ob id) ∧ ∀ S2 : St, S2.ob = S.ob → ∀ K2 : St → Prop, K2 ({ S2 with ob := ob' } : St) → storeW (std P R) td S2 a x K2 := by
  unfold storeW at h
  split at h
  · rename_i id off
    split at h
    · rename_i l hl
      split at h
      · rename_i cs hcs
        split at h
        · rename_i h1
          split at h
          · rename_i h2
            refine ⟨_, h, fun id0 hq id hne => by rcases hq with ⟨off', e⟩ | ⟨z', i', off', e⟩ <;> cases e; exact look_setOb S _ _ id hne, fun S2 hob K2 hK => ?_⟩
            unfold storeW
            simp only [hob, hl, hcs, if_pos h1, if_pos h2]
            unfold St.setOb
            rw [hob]
            exact hK
          · exact h.elim
        · exact h.elim
      · exact h.elim
    · rename_i l hl
      split at h
      · rename_i n e l' hk
        split at h
        · rename_i h1
          split at h
          · rename_i h2
            split at h
            · rename_i h3
              split at h
              · rename_i h4
                refine ⟨_, h, fun id0 hq id hne => by rcases hq with ⟨off', e⟩ | ⟨z', i', off', e⟩ <;> cases e; exact look_setOb S _ _ id hne, fun S2 hob K2 hK => ?_⟩
                unfold storeW
                simp only [hob, hl, hk, if_pos h1, if_pos h2, if_pos h3, if_pos h4]
                unfold St.setOb
                rw [hob]
                exact hK
              · exact h.elim
            · exact h.elim
          · exact h.elim
        · exact h.elim
      · exact h.elim
    · exact h.elim
  · rename_i id z i off
    split at h
    · rename_i z' l hl
      split at h
      · rename_i hz
        split at h
        · rename_i ha
          split at h
          · rename_i h1
            split at h
            · rename_i h2
              split at h
              · rename_i cs hcs
                split at h
                · rename_i h3
                  split at h
                  · rename_i h4
                    obtain ⟨h5, h⟩ := h
                    refine ⟨_, h, fun id0 hq id hne => by rcases hq with ⟨off', e⟩ | ⟨z', i', off', e⟩ <;> cases e; exact look_setOb S _ _ id hne, fun S2 hob K2 hK => ?_⟩
                    unfold storeW
                    simp only [hob, hl, ha, hcs, if_pos hz, if_pos h1, if_pos h2, if_pos h3, if_pos h4]
                    refine ⟨h5, ?_⟩
                    unfold St.setOb
                    rw [hob]
                    exact hK
                  · exact h.elim
                · exact h.elim
              · exact h.elim
            · exact h.elim
          · exact h.elim
        · rename_i ha
          split at h
          · rename_i y hy
            split at h
            · rename_i hc
              split at h
              · rename_i h1
                split at h
                · rename_i h2
                  split at h
                  · rename_i h3
                    obtain ⟨h5, h⟩ := h
                    refine ⟨_, h, fun id0 hq id hne => by rcases hq with ⟨off', e⟩ | ⟨z', i', off', e⟩ <;> cases e; exact look_setOb S _ _ id hne, fun S2 hob K2 hK => ?_⟩
                    unfold storeW
                    simp only [hob, hl, ha, hy, hc, if_pos hz, if_pos h1, if_pos h2, if_pos h3, if_true]
                    refine ⟨h5, ?_⟩
                    unfold St.setOb
                    rw [hob]
                    exact hK
                  · exact h.elim
                · exact h.elim
              · rename_i h1
                split at h
                · rename_i h3
                  obtain ⟨cs, hcs, h⟩ := h
                  split at h
                  · rename_i h4
                    refine ⟨_, h, fun id0 hq id hne => by rcases hq with ⟨off', e⟩ | ⟨z', i', off', e⟩ <;> cases e; exact look_setOb S _ _ id hne, fun S2 hob K2 hK => ?_⟩
                    unfold storeW
                    simp only [hob, hl, ha, hy, hc, if_pos hz, if_neg h1, if_pos h3, if_true]
                    refine ⟨cs, hcs, ?_⟩
                    simp only [if_pos h4]
                    unfold St.setOb
                    rw [hob]
                    exact hK
                  · exact h.elim
                · exact h.elim
            · exact h.elim
          · exact h.elim
      · exact h.elim
    · exact h.elim
  · exact h.elim

theorem srcW_eff {z : Nat} {ob : List (Nat × AObj)} {d : D} {K : List V → Prop} (h : srcW (std P R) z ob d K) : ∃ l, K l ∧ ∀ K2 : List V → Prop, K2 l → srcW (std P R) z ob d K2 := by
  unfold srcW at h
  split at h
  · obtain ⟨h1, h⟩ := h
    exact ⟨_, h, fun K2 hK => by unfold srcW; exact ⟨h1, hK⟩⟩
  · split at h
    · rename_i h1
      exact ⟨_, h, fun K2 hK => by unfold srcW; simp only; rw [if_pos h1]; exact hK⟩
    · exact h.elim
  · exact ⟨_, h, fun K2 hK => by unfold srcW; exact hK⟩
  · exact ⟨_, h, fun K2 hK => by unfold srcW; exact hK⟩
  · split at h
    · rename_i z' l ex hr
      split at h
      · rename_i h1
        exact ⟨_, h, fun K2 hK => by unfold srcW; simp only [hr]; rw [if_pos h1]; exact hK⟩
      · exact h.elim
    · exact h.elim
  · split at h
    · rename_i gh pub hp
      obtain ⟨l, h1, h⟩ := h
      exact ⟨_, h, fun K2 hK => by unfold srcW; simp only [hp]; exact ⟨l, h1, hK⟩⟩
    · exact h.elim
  · exact h.elim

theorem new_eff (S : St) (d : Nat) (o : AObj) (x : D) : (S.new d o).put (some d) x = (Eff.l (some d) x [d] ((d, unOb d o) :: (S.kill d).ob)).app S := rfl
theorem new_eff2 {S S2 : St} (hob : S2.ob = S.ob) (d : Nat) (o : AObj) (x : D) : (S2.new d o).put (some d) x = (Eff.l (some d) x [d] ((d, unOb d o) :: (S.kill d).ob)).app S2 := by
  rw [new_eff]; simp only [St.kill, hob]

def TouchOk (o : Oper) (S : St) (e : Eff) : Prop := ∀ Ts, touchOf S o = some Ts → ∀ id, id ∉ Ts → look (e.app S).ob id = look S.ob id
theorem softOb_other (id : Nat) : ∀ (ids : List Nat) (ob : List (Nat × AObj)), id ∉ ids → look (softOb ob ids) id = look ob id
  | [], ob, _ => rfl
  | k :: r, ob, h => by
    have h1 : id ≠ k := fun e => h (by simp [e])
    have h2 : id ∉ r := fun e => h (by simp [e])
    unfold softOb
    split
    · rw [softOb_other id r _ h2]
      simp only [look]; rw [if_neg (Ne.symm h1), look_remOb, if_neg h1]
    · split
      · rw [softOb_other id r _ h2]
        simp only [look]; rw [if_neg (Ne.symm h1), look_remOb, if_neg h1]
      · exact softOb_other id r _ h2
    · exact softOb_other id r _ h2
theorem touch_none {o : Oper} {S : St} {e : Eff} (h : ∀ t a x, o.op ≠ .store t a x) : TouchOk o S e := by
  intro Ts ht
  unfold touchOf at ht
  split at ht
  · rename_i t a x ho; exact absurd ho (h t a x)
  · cases ht
theorem loud_eff0 {o : Oper} {S : St} {K : St → Prop} (hl : loud o.op = true) (h0 : gTouch S o = 0) (h : eWp (std P R) o S K) : ∃ e : Eff, K (e.app S) ∧ LoudOk0 P R o S e ∧ TouchOk o S e := by
  unfold loud at hl
  split at hl
  · rename_i t a x ho
    unfold eWp at h
    simp only [ho, handsOn, soft_nil] at h
    split at h
    · rename_i hk
      obtain ⟨ob', h1, ht, h2⟩ := storeW_eff h
      refine ⟨.l o.dst (.v (.tup [])) [] ob', h1, ⟨rfl, by simp [Eff.ks], fun S2 hn hob hev K2 hK => ?_⟩, fun Ts hT id hid => ?_⟩
      · unfold eWp
        simp only [ho, handsOn, soft_nil, hk]
        rw [hev a (by simp [ho, Op.operands]), hev x (by simp [ho, Op.operands])]
        exact h2 S2 hob _ hK
      · rw [ob_app_l]
        have hg : isGp (S.ev a) = false := by
          unfold gTouch at h0
          simp only [ho] at h0
          cases hb : isGp (S.ev a) with
          | false => rfl
          | true => rw [hb] at h0; cases h0
        unfold touchOf at hT
        simp only [ho] at hT
        split at hT
        · rename_i id0 off he; cases hT
          exact ht id0 (.inl ⟨off, he⟩) id (by simpa using hid)
        · rename_i id0 z i off he; cases hT
          exact ht id0 (.inr ⟨z, i, off, he⟩) id (by simpa using hid)
        · rename_i he; rw [he] at hg; cases hg
        · rename_i he; rw [he] at hg; cases hg
        · cases hT
    · exact h.elim
  · rename_i t ho
    unfold eWp at h
    simp only [ho, handsOn, soft_nil] at h
    split at h
    · rename_i d hd
      split at h
      · exact h.elim
      · rename_i hkn
        split at h
        · rename_i n e hk
          split at h
          · rename_i h1
            split at h
            · rename_i l hcl
              split at h
              · rename_i h2
                split at h
                · rename_i h3
                  rw [new_eff] at h
                  refine ⟨_, h, ⟨hd.symm, by simp [Eff.ks, killOf, ho, hd], fun S2 hn hob hev K2 hK => ?_⟩, touch_none (by simp [ho])⟩
                  unfold eWp
                  simp only [ho, handsOn, soft_nil, hd, hk, hcl]
                  rw [if_neg (by rw [hk] at hkn; exact hkn), if_pos h1, if_pos h2, if_pos h3, new_eff2 hob]
                  exact hK
                · exact h.elim
              · exact h.elim
            · exact h.elim
          · exact h.elim
        · rename_i hna
          rw [new_eff] at h
          refine ⟨_, h, ⟨hd.symm, by simp [Eff.ks, killOf, ho, hd], fun S2 hn hob hev K2 hK => ?_⟩, touch_none (by simp [ho])⟩
          unfold eWp
          simp only [ho, handsOn, soft_nil, hd]
          rw [if_neg hkn, new_eff2 hob]
          exact hK
    · exact h.elim
  · rename_i t x ho
    unfold eWp at h
    simp only [ho, handsOn, soft_nil] at h
    split at h
    · rename_i d n e hd hk
      split at h
      · rename_i l hx
        split at h
        · rename_i h1
          split at h
          · rename_i h2
            rw [new_eff] at h
            refine ⟨_, h, ⟨hd.symm, by simp [Eff.ks, killOf, ho, hd], fun S2 hn hob hev K2 hK => ?_⟩, touch_none (by simp [ho])⟩
            unfold eWp
            simp only [ho, handsOn, soft_nil, hd, hk]
            rw [hev x (by simp [ho, Op.operands]), hx]
            simp only
            rw [if_pos h1, if_pos h2, new_eff2 hob]
            exact hK
          · exact h.elim
        · exact h.elim
      · exact h.elim
    · rename_i d hd hna
      split at h
      · rename_i l hx
        rw [new_eff] at h
        refine ⟨_, h, ⟨hd.symm, by simp [Eff.ks, killOf, ho, hd], fun S2 hn hob hev K2 hK => ?_⟩, touch_none (by simp [ho])⟩
        unfold eWp
        simp only [ho, handsOn, soft_nil, hd]
        rw [hev x (by simp [ho, Op.operands]), hx]
        simp only
        rw [new_eff2 hob]; exact hK
      · exact h.elim
    · exact h.elim
  · rename_i c ho
    split at hl
    · rename_i hcb
      unfold eWp at h
      simp only [ho, handsOn, hcb, soft_nil] at h
      split at h
      · rename_i d t t2 s x hd hat has
        have hs : s ∈ o.op.operands.toList := by simp [ho, Op.operands, Call.operands, hcb, has]
        have hx : x ∈ o.op.operands.toList := by simp [ho, Op.operands, Call.operands, hcb, has]
        split at h
        · rename_i e hk
          split at h
          · exact h.elim
          · rename_i hkn
            split at h
            · exact h.elim
            · rename_i hz
              split at h
              · rename_i hst
                obtain ⟨l2, h, hsrc⟩ := srcW_eff h
                split at h
                · rename_i hsv
                  obtain ⟨h1, h⟩ := h
                  rw [new_eff] at h
                  refine ⟨_, h, ⟨hd.symm, by simp [Eff.ks, killOf, ho, hd], fun S2 hn hob hev K2 hK => ?_⟩, touch_none (by simp [ho])⟩
                  unfold eWp
                  simp only [ho, handsOn, hcb, soft_nil, hd, hat, has, hk]
                  rw [if_neg hkn, if_neg hz, hev x hx, hst, hob]
                  refine hsrc _ ?_
                  rw [hev s hs, hsv]
                  exact ⟨h1, by rw [new_eff2 hob]; exact hK⟩
                · rename_i id hsv
                  split at h
                  · rename_i z l ex hr
                    split at h
                    · rename_i h2
                      obtain ⟨h1, h⟩ := h
                      rw [new_eff] at h
                      refine ⟨.l (some d) (.own d) [d] ((d, unOb d (.row z ((std P R).app l l2) ex)) :: (({ S with ob := remOb id S.ob } : St).kill d).ob), h, ⟨hd.symm, by simp [Eff.ks, killOf, ho, hd], fun S2 hn hob hev K2 hK => ?_⟩, touch_none (by simp [ho])⟩
                      unfold eWp
                      simp only [ho, handsOn, hcb, soft_nil, hd, hat, has, hk]
                      rw [if_neg hkn, if_neg hz, hev x hx, hst, hob]
                      refine hsrc _ ?_
                      rw [hev s hs, hsv]
                      simp only [hr]
                      rw [if_pos h2]
                      exact ⟨h1, hK⟩
                    · exact h.elim
                  · exact h.elim
                · exact h.elim
              · exact h.elim
        · exact h.elim
      · exact h.elim
    · cases hl
  · cases hl
theorem gTouch_eq {o : Oper} {S S2 : St} (hob : S2.ob = S.ob) (hev : ∀ x ∈ o.op.operands.toList, S2.ev x = S.ev x) : gTouch S2 o = gTouch S o := by
  unfold gTouch
  split
  · rename_i t a x ho; rw [hev a (by simp [ho, Op.operands])]
  · rw [hob]
  · rw [hob]
  · rw [hob]
  · rw [hob]
  · rename_i t x l h m ho; rw [hev x (by simp [ho, Op.operands])]
  · rfl
  · rfl
  · rfl
  · rfl
  · rfl
  · rfl
  · rename_i c ho
    split
    · rename_i x r hc ha
      rw [hev x (by simp [ho, Op.operands, Call.operands, hc, ha]), hob]
    · rfl
    · rfl
    · rfl
    · rfl
  · rfl
theorem gTouch_two {o : Oper} {S : St} (hl : loud o.op = true) : gTouch S o = 0 ∨ gTouch S o = 1 := by
  unfold loud at hl
  split at hl
  · rename_i t a x ho; unfold gTouch; simp only [ho]; split <;> simp
  · rename_i t ho
    unfold gTouch; simp only [ho]
    split
    · split <;> simp
    · simp
  · rename_i t x ho
    unfold gTouch; simp only [ho]
    split
    · split <;> simp
    · simp
  · rename_i c ho
    split at hl
    · rename_i hc
      unfold gTouch; simp only [ho, hc]
      split
      · split
        · simp
        · split
          · split <;> simp
          · simp
      all_goals simp
    · cases hl
  · cases hl
theorem loud_eff {o : Oper} {S : St} {K : St → Prop} (hl : loud o.op = true) (h : hWp (std P R) o S K) : ∃ e : Eff, K (e.app S) ∧ LoudOk P R o S e ∧ TouchOk o S e := by
  unfold hWp at h
  rcases gTouch_two (S := S) hl with h0 | h1
  · simp only [h0] at h
    obtain ⟨e, h1, ⟨h2, h3, h4⟩, ht⟩ := loud_eff0 hl h0 h
    refine ⟨e, h1, ⟨h2, h3, fun S2 hn hob hev K2 hK => ?_⟩, ht⟩
    unfold hWp
    rw [gTouch_eq hob hev, h0]
    exact h4 S2 hn hob hev K2 hK
  · simp only [h1] at h
    have soft_ob : ∀ ids, (S.soft ids).ob = softOb S.ob ids := fun _ => rfl
    split at h
    · rename_i gh pub hp
      split at h
      · rename_i xs hx
        obtain ⟨r, gh', hg, h⟩ := h
        refine ⟨.l o.dst (.v r) [] ((S.soft (idsDs false (o.op.operands.toList.map S.ev))).setOb hk (.heap gh' pub)).ob, h, ⟨rfl, by simp [Eff.ks], fun S2 hn hob hev K2 hK => ?_⟩, fun Ts hT id hid => ?_⟩
        rotate_left
        · rw [ob_app_l]
          have h9 : id ≠ hk ∧ id ∉ idsDs false (o.op.operands.toList.map S.ev) := by
            unfold touchOf at hT
            split at hT
            · rename_i t a x ho
              have hgp : isGp (S.ev a) = true := by
                unfold gTouch at h1
                simp only [ho] at h1
                cases hb : isGp (S.ev a) with
                | true => rfl
                | false => rw [hb] at h1; cases h1
              split at hT
              · rename_i he; rw [he] at hgp; cases hgp
              · rename_i he; rw [he] at hgp; cases hgp
              · cases hT; simpa using hid
              · cases hT; simpa using hid
              · cases hT
            · cases hT
          rw [look_setOb _ _ _ _ h9.1]
          exact softOb_other _ _ _ h9.2
        have hm : o.op.operands.toList.map S2.ev = o.op.operands.toList.map S.ev := List.map_congr_left hev
        have hso : (S2.soft (idsDs false (o.op.operands.toList.map S2.ev))).ob = (S.soft (idsDs false (o.op.operands.toList.map S.ev))).ob := by
          show softOb S2.ob _ = softOb S.ob _
          rw [hob, hm]
        have hsl : ∀ (T : St) ids, (T.soft ids).ev = T.ev := fun T ids => by funext x; cases x <;> rfl
        unfold hWp
        rw [gTouch_eq hob hev, h1]
        simp only
        rw [hso, hp]
        simp only
        rw [hsl] at hx ⊢
        rw [hm, hx]
        refine ⟨r, gh', hg, ?_⟩
        have e : (S2.soft (idsDs false (o.op.operands.toList.map S.ev))).setOb hk (.heap gh' pub) = ({ S2 with ob := ((S.soft (idsDs false (o.op.operands.toList.map S.ev))).setOb hk (.heap gh' pub)).ob } : St) := by
          have := hso; rw [hm] at this
          simp only [St.setOb, this]; rfl
        change K2 (St.put _ _ _)
        rw [e]
        exact hK
      · exact h.elim
    · exact h.elim
end
end Go.Proofs.Ytinckcpmkocakaa.AM
