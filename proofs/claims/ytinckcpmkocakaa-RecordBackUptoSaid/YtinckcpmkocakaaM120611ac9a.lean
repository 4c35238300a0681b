/-
  The abstract machine, part 21: every operation in its place.
-/
import Derived.Test.YtinckcpmkocakaaM11ce3f466f
set_option linter.unusedVariables false
set_option linter.unusedSimpArgs false
set_option linter.unusedSectionVars false
namespace Go.Proofs.Ytinckcpmkocakaa.AM
open Go Go.RowKit
variable {P : Program} {R : List (Nat × AObj) → List D → Prop} (hT : tableOf P = T)
include hT

theorem gs_ge {B : Nat} {ok : Oks} {w : World} {rs : List Rs} {us : List Value} {gs : List (Option Nat)} (hu : us.length = rs.length) (hg : gs.length = rs.length) (h : ∀ i (h : i < rs.length) (h' : i < us.length) (h'' : i < gs.length), RsRep B ok w (rs[i]'h) (us[i]'h') (gs[i]'h'')) {i b : Nat} (hi : gs[i]? = some (some b)) : B ≤ b := by
  obtain ⟨q1, q2⟩ := List.getElem?_eq_some_iff.1 hi
  have h0 := h i (by omega) (by omega) q1
  rw [q2] at h0
  cases hr : rs[i]'(by omega) with
  | v x => rw [hr] at h0; cases h0.1
  | o z l =>
    rw [hr] at h0
    rcases h0 with ⟨_, q, _⟩ | ⟨b', _, _, _, q, q', _⟩
    · cases q
    · cases q; exact q'
theorem e_call {G : Gh} {E : Env} {ok : Oks} {S : St} {a : Act} {w : World} (c : Conc G E ok S a w) {o : Oper} {cl : Call} (ho : o.op = .call cl) {f : Operand} (hc : cl.callee = .value f) {d : Nat} (hd : o.dst = some d) {g : Nat} {fst cap : List D} (hcal : calleeD (S.ev f) = some (g, fst, cap)) {ys xs : List V} (hx : toVas S.ob (fst ++ cl.args.toList.map S.ev ++ cap) = some ys) (hsub : Subs ys xs) {rs : List Rs} (hf : FnR P g xs rs)
    {K : St → Prop} (hK : K ((addObs S (resObs d 0 rs)).put (some d) (resD d rs))) (Q : Exit → Act → World → Prop) : o.wp P a w (fun a' w' => After G K a' w') Q := by
  have hq : QH E ok w a S.ob S.ev (.call cl) := c.qh _
  obtain ⟨fs, cs, h1, h2, h3⟩ := call_args hc hcal hx hsub hq
  refine call_does hf ho hc h1 h3 h2 hq.okb _ Q fun us gs w' ok' hg hu hgs hr hdis => ?_
  have c1 := c.step (Step.of_grow c hg)
  obtain ⟨E', c2, l2, r2, _⟩ := add_res d c.size rs us gs 0 c1 hu hgs hr hdis (fun id o b q1 q2 i hi => by
    rw [occ_env hg.env] at q2
    have := obj_lt c q1 q2
    have := gs_ge hT hu hgs hr hi
    omega)
  have c3 := c2.put o.dst (resD_rep hu l2 fun i h h' => (r2 i h h').1)
  rw [hd] at c3 ⊢
  exact ⟨E', ok', _, hK, c3⟩
/-- A call that changes the common heap. -/
theorem e_callG {G : Gh} {E : Env} {ok : Oks} {S : St} {a : Act} {w : World} (c : Conc G E ok S a w) {o : Oper} {cl : Call} (ho : o.op = .call cl) {f : Operand} (hc : cl.callee = .value f) {d : Nat} (hd : o.dst = some d) {g : Nat} {fst cap : List D} (hcal : calleeD (S.ev f) = some (g, fst, cap)) {ys xs : List V} (hx : toVas S.ob (fst ++ cl.args.toList.map S.ev ++ cap) = some ys) (hsub : Subs ys xs) {post : List Rs → GH → Prop} {gh : GH} (hh : gheap S.ob = some gh) (hf : FnG P g xs gh post)
    {K : St → Prop} (hK : ∀ rs gh', post rs gh' → K ((addObs (S.setHeap (some gh')) (resObs d 0 rs)).put (some d) (resD d rs))) (Q : Exit → Act → World → Prop) : o.wp P a w (fun a' w' => After G K a' w') Q := by
  have hq : QH E ok w a S.ob S.ev (.call cl) := c.qh _
  obtain ⟨fs, cs, hfv, hlen, hrep⟩ := call_args hc hcal hx hsub hq
  obtain ⟨⟨fn, h1, h2, h3⟩, hf⟩ := hf
  unfold gheap at hh
  split at hh
  · rename_i gh0 pub hp
    cases hh
    have hl := heapOf_some hp
    have hargs : fs.toArray ++ cl.args.map a.eval ++ cs.toArray = (fs ++ cl.args.toList.map a.eval ++ cs).toArray := by apply Array.ext'; simp
    have hrun : (execOp a.eval o).run P w = .ok (.enter g (fs ++ cl.args.toList.map a.eval ++ cs).toArray) w := by
      simp only [execOp, ho, resolve, hc, hfv, Deferred.ofValue, Sem.run_bind, Sem.run_pure, Result.andThen_ok, invoke, callFunc, program, Sem.run, h1, hargs]
      cases hb : fn.body with
      | none => rw [hb] at h2; simp at h2
      | some b => simp [h3]
    unfold Oper.wp
    rw [hrun, Oper.upon_enter]
    refine (hf w ok _ c.okb (c.obj _ _ hl).2 hlen hrep).mono fun e w' ⟨us, gs, ok', rs, gh', hpost, he, fr, q1, q3, hu, hgs, hr, hdis, gl, hgb⟩ => ?_
    subst he
    replace hK := hK rs gh' hpost
    have c1 := c.swap (pub' := pub) hl fr q1 q3 gl (fun b hb => (hgb b hb).1)
    have hS : S.setHeap (some gh') = S.setOb hk (.heap gh' pub) := by simp only [St.setHeap, hp]
    rw [hS] at hK
    obtain ⟨E', c2, l2, r2, _⟩ := add_res d c.size rs us gs 0 c1 hu hgs hr hdis (fun id o b k1 k2 i hi => by
      have hge := gs_ge hT hu hgs hr hi
      simp only [St.setOb, look] at k1
      split at k1
      · simp only [Option.some.injEq] at k1
        subst k1
        exact (hgb b k2).2 i hi
      · rename_i hne
        rw [look_remOb, if_neg (Ne.symm hne)] at k1
        have k3 : occ E ok id o b := by
          cases o with
          | heap gh2 pub2 => exact absurd (c.obj _ _ k1).1 (Ne.symm hne)
          | _ => exact k2
        have := obj_lt c k1 k3
        omega)
    have c3 := c2.put o.dst (resD_rep hu l2 fun i h h' => (r2 i h h').1)
    rw [hd] at c3 ⊢
    exact ⟨E', ok', _, hK, c3⟩
  · cases hh

theorem e_append {G : Gh} {E : Env} {ok : Oks} {S : St} {a : Act} {w : World} (c : Conc G E ok S a w) {o : Oper} {cl : Call} (ho : o.op = .call cl) (hcb : cl.callee = .builtin .append) {t t2 e d : Nat} (hat : cl.argTypes = #[t, t2]) {s x : Operand} (has : cl.args = #[s, x]) (hd : o.dst = some d) (hk : (tyOf t).k = .slice e) (hkn : known (tyOf e).k = true) (hz0 : 0 < (tyOf e).size) (hst : isSrcT (tyOf t2).k (S.ev x) = true)
    {K : St → Prop} (h : srcW (std P R) (tyOf e).size S.ob (S.ev x) fun l2 => match S.ev s with
            | .nils => (std P R).room [] l2 (tyOf e).bytes fun _ => K ((S.new d (.row (tyOf e).size ((std P R).app [] l2) true)).put (some d) (.own d))
            | .own id => match rowOf S.ob id with
              | some (z, l, ex) => if z = (tyOf e).size then
                  (std P R).room l l2 (tyOf e).bytes fun _ => K ((({ S with ob := remOb id S.ob } : St).new d (.row z ((std P R).app l l2) ex)).put (some d) (.own d))
                else False
              | none => False
            | _ => False) (Q : Exit → Act → World → Prop) : o.wp P a w (fun a' w' => After G K a' w') Q := by
  obtain ⟨l2, h, hsrc⟩ := src_sound hT hst hz0 h
  obtain ⟨news, n1, n2⟩ := hsrc E ok w _ c.obj (ev_rep c x)
  split at h
  · rename_i hs
    obtain ⟨⟨q1, q2⟩, h⟩ := h
    have hev := ev_rep c s
    rw [hs] at hev
    exact e_append_nil hT c ho hcb hat has hd hk hkn hz0 (repD_nils hev) n1 n2 (by simpa using q1) q2 h Q
  · rename_i id hs
    split at h
    · rename_i z l ex hrow
      split at h
      · rename_i hz
        subst hz
        obtain ⟨⟨q1, q2⟩, h⟩ := h
        exact e_append_own hT c ho hcb hat has hd hk hkn hz0 hs (rowOf_some hrow) n1 n2 q1 q2 h Q
      · exact h.elim
    · exact h.elim
  · exact h.elim

theorem cellV_some {ob : List (Nat × AObj)} {l : List D} {r : List V} (h : cellV ob l = some r) : toVs ob l = some r ∧ r.all V.cell = true := by
  unfold cellV at h
  split at h
  · split at h
    · rename_i h1 h2; cases h; exact ⟨h1, h2⟩
    · cases h
  · cases h

theorem toList2 {α : Type} {l : Array α} {x y : α} (h : l.toList = [x, y]) : l = #[x, y] := by
  apply Array.ext'; simpa using h

/-- **Every operation does what 'eWp' says.** -/
theorem e_sound {G : Gh} {E : Env} {ok : Oks} {S0 : St} {a : Act} {w : World} (c0 : Conc G E ok S0 a w) {o : Oper} {K : St → Prop} (h : eWp (std P R) o S0 K) (Q : Exit → Act → World → Prop) : o.wp P a w (fun a' w' => After G K a' w') Q := by
  obtain ⟨ok', c⟩ := c0.softOb (handsOn S0 o.op)
  change Conc G E ok' (S0.soft (handsOn S0 o.op)) a w at c
  unfold eWp at h
  simp only at h
  generalize S0.soft (handsOn S0 o.op) = S at *
  split at h
  · rename_i t ho
    split at h
    · rename_i d hd
      split at h
      · exact h.elim
      · rename_i hkn
        have hkn' : known (tyOf t).k = true := by simpa using hkn
        split at h
        · rename_i n e hk
          split at h
          · split at h
            · rename_i l hl
              split at h
              · rename_i hln
                split at h
                · rename_i hn
                  refine e_alloc hT c ho hd hkn' Q (.inl ⟨n, e, l, hk, hl, hln, hn, fun E' ok' w' hc => ⟨_, _, _, h, hc⟩⟩)
                · exact h.elim
              · exact h.elim
            · exact h.elim
          · exact h.elim
        · exact e_alloc hT c ho hd hkn' Q (.inr fun E' ok' w' hc => ⟨_, _, _, h, hc⟩)
    · exact h.elim
  · rename_i t x ho
    split at h
    · rename_i d n e hd hk
      split at h
      · rename_i l hl
        split at h
        · rename_i hln
          split at h
          · rename_i hn
            exact e_box c ho hd Q (.inl ⟨l, hl, by omega, h⟩)
          · exact h.elim
        · exact h.elim
      · exact h.elim
    · rename_i d hd hna
      split at h
      · rename_i l hl
        exact e_box c ho hd Q (.inr ⟨l, hl, h⟩)
      · exact h.elim
    · exact h.elim
  · rename_i t x y ho
    split at h
    · rename_i hk
      exact e_store hT c ho hk h Q
    · exact h.elim
  · rename_i t n parts ho
    split at h
    · rename_i d e hd hk
      obtain ⟨l, h, e', he', hkn, hrun⟩ := q_buildSlice hT _ _ _ _ _ _ h
      rw [hk] at he'; cases he'
      obtain ⟨cs, r1, r2, r3, r4, r5, r6⟩ := hrun E ok' w a (ho ▸ c.qh _)
      exact e_newSlice (e := e) c hd (by simp only [execOp, ho, Sem.run_bind, r1, Result.andThen_ok, Sem.run_pure]) r2 (Nat.le_refl _) r3 r4 r5 r6 h Q
    · exact h.elim
  · rename_i t l m ho
    split at h
    · rename_i d e hd hk
      obtain ⟨r, h, e', m', he', hkn, q1, q2, hrun⟩ := q_makeSlice hT _ _ _ _ _ _ h
      rw [hk] at he'; cases he'
      obtain ⟨cs, r1, r2, r3, r4⟩ := hrun E ok' w a (ho ▸ c.qh _)
      exact e_newSlice (e := e) c hd (by simp only [execOp, ho, Sem.run_bind, r1, Result.andThen_ok, Sem.run_pure]) rfl q1 q2 r2 r3 r4 h Q
    · exact h.elim
  · rename_i s d x ho
    split at h
    · rename_i e e' hk1 hk2
      split at h
      · rename_i hsd
        split at h
        · rename_i he
          split at h
          · rename_i id hx
            split at h
            · rename_i y l ex hrow
              exact e_conv hT c ho (by simpa using hsd) hk1 he hx (rowOf_some hrow) h Q
            · exact h.elim
          · exact h.elim
        · exact h.elim
      · exact h.elim
    · exact after_q hT c (by rw [ho] at h ⊢; exact h) Q
  · rename_i cl ho
    split at h
    · rename_i hcb
      split at h
      · rename_i d t t2 s x hd hat has
        split at h
        · rename_i e hk
          split at h
          · exact h.elim
          · rename_i hkn
            split at h
            · exact h.elim
            · rename_i hz0
              split at h
              · rename_i hst
                exact e_append hT c ho hcb (toList2 hT hat) (toList2 hT has) hd hk (by simpa using hkn) (by omega) hst h Q
              · exact h.elim
        · exact h.elim
      · exact h.elim
    · rename_i f hcv
      split at h
      · rename_i d g fst cap hd hcal
        split at h
        · rename_i xs hx
          obtain ⟨ys, hsub, h⟩ := h
          rcases h with ⟨rs, hf, h⟩ | ⟨gh, post, hh, hf, h⟩
          · exact e_call hT c ho hcv hd hcal hx hsub hf h Q
          · exact e_callG hT c ho hcv hd hcal hx hsub hh hf h Q
        · exact h.elim
      · exact h.elim
    · exact after_q hT c (by rw [ho] at h ⊢; exact h) Q
  · exact after_q hT c h Q
/-- **Every operation, those on the common heap too.** -/
theorem h_sound {G : Gh} {E : Env} {ok : Oks} {S0 : St} {a : Act} {w : World} (c0 : Conc G E ok S0 a w) {o : Oper} {K : St → Prop} (h : hWp (std P R) o S0 K) (Q : Exit → Act → World → Prop) : o.wp P a w (fun a' w' => After G K a' w') Q := by
  unfold hWp at h
  split at h
  · exact e_sound hT c0 h Q
  · obtain ⟨ok', c⟩ := c0.softOb (idsDs false (o.op.operands.toList.map S0.ev))
    change Conc G E ok' (S0.soft (idsDs false (o.op.operands.toList.map S0.ev))) a w at c
    simp only at h
    generalize S0.soft (idsDs false (o.op.operands.toList.map S0.ev)) = S at *
    split at h
    · rename_i gh pub hp
      split at h
      · rename_i xs hx
        have hl := heapOf_some hp
        obtain ⟨h1, h2⟩ := toVas_sound (E := E) (ok := ok') (w := w) c.obj (o.op.operands.toList.map S.ev) xs (o.op.operands.toList.map a.eval) hx (by simp) (fun i hi hi' => by
          simp only [List.getElem_map]
          exact ev_rep c _)
        have hops : OpsRep ok' w a o.op xs := ⟨by simpa using h1, fun i hi hi' => by
          have := h2 i hi' (by simpa using hi)
          simpa using this⟩
        have fin : ∀ {Rq : V → GH → Prop}, GOp P o xs gh Rq → (∀ r gh', Rq r gh' → K ((S.setOb hk (.heap gh' pub)).put o.dst (.v r))) → o.wp P a w (fun a' w' => After G K a' w') Q := fun hg hK =>
          Oper.wp_mono (fun a' w' ⟨v, ok'', r, gh', e1, e2, c', hr⟩ => by
            subst e1
            exact ⟨E, ok'', _, hK r gh' e2, c'.put o.dst (.v _ _ hr)⟩) (hg G E ok' S a w pub c hl hops Q)
        split at h
        · obtain ⟨r, gh', hg, hK⟩ := h
          exact fin hg (fun r' h' ⟨e1, e2⟩ => by subst e1 e2; exact hK)
        · obtain ⟨Rq, hg, hK⟩ := h
          exact fin hg hK
      · exact h.elim
    · exact h.elim
end Go.Proofs.Ytinckcpmkocakaa.AM

/-
  The abstract machine, part 21b: regions whose order is left open.
-/
set_option linter.unusedVariables false
set_option linter.unusedSimpArgs false
set_option linter.unusedSectionVars false
namespace Go.Proofs.Ytinckcpmkocakaa.AM
open Go Go.RowKit

/-- What an operation does to the state. -/
inductive Eff where
  | q (dst : Option Nat) (d : D)
  | l (dst : Option Nat) (d : D) (kill : List Nat) (ob : List (Nat × AObj))
def St.kills (S : St) : List Nat → St
  | [] => S
  | k :: r => (S.kill k).kills r
def Eff.app : Eff → St → St
  | .q dst d, S => S.put dst d
  | .l dst d ks ob, S => ({ S.kills ks with ob := ob } : St).put dst d
structure Eqv (S S' : St) : Prop where
  n : S.n = S'.n
  ob : S.ob = S'.ob
  get : ∀ t, S.get t = S'.get t
theorem Eqv.refl (S : St) : Eqv S S := ⟨rfl, rfl, fun _ => rfl⟩
theorem Eqv.symm {S S' : St} (h : Eqv S S') : Eqv S' S := ⟨h.n.symm, h.ob.symm, fun t => (h.get t).symm⟩
theorem Eqv.trans {S S' S'' : St} (h : Eqv S S') (k : Eqv S' S'') : Eqv S S'' := ⟨h.n.trans k.n, h.ob.trans k.ob, fun t => (h.get t).trans (k.get t)⟩
theorem Conc.eqv {G : Gh} {E : Env} {ok : Oks} {S S' : St} {a : Act} {w : World} (c : Conc G E ok S a w) (h : Eqv S S') : Conc G E ok S' a w :=
  { c with n := by rw [← h.n]; exact c.n, slot := fun t => by rw [← h.get]; exact c.slot t, obj := by rw [← h.ob]; exact c.obj, apart := by rw [← h.ob]; exact c.apart, reg := by rw [← h.ob]; exact c.reg, hp := by rw [← h.ob]; exact c.hp }
theorem Eqv.ev {S S' : St} (h : Eqv S S') (x : Operand) : S.ev x = S'.ev x := by cases x <;> first | rfl | exact h.get _
theorem Eqv.kill {S S' : St} (h : Eqv S S') (k : Nat) : Eqv (S.kill k) (S'.kill k) :=
  ⟨h.n, by simp only [St.kill, h.ob], fun t => by rw [get_kill, get_kill, h.get]⟩
theorem Eqv.put {S S' : St} (h : Eqv S S') (dst : Option Nat) (d : D) : Eqv (S.put dst d) (S'.put dst d) :=
  ⟨by rw [put_n, put_n]; exact h.n, by rw [put_ob, put_ob]; exact h.ob, fun t => by rw [get_put, get_put, h.n, h.get]⟩
def unDs : List Nat → D → D
  | [], d => d
  | k :: r, d => unDs r (unD k d)
theorem get_kills : ∀ (ks : List Nat) (S : St) (t : Nat), (S.kills ks).get t = unDs ks (S.get t)
  | [], S, t => rfl
  | k :: r, S, t => by simp only [St.kills, unDs, get_kills r, get_kill]
theorem n_kills : ∀ (ks : List Nat) (S : St), (S.kills ks).n = S.n
  | [], S => rfl
  | k :: r, S => by simp only [St.kills, n_kills r]; rfl
theorem get_app_l (dst : Option Nat) (d : D) (ks : List Nat) (ob : List (Nat × AObj)) (S : St) (t : Nat) : ((Eff.l dst d ks ob).app S).get t = if dst = some t ∧ t < S.n then d else unDs ks (S.get t) := by
  refine (get_put _ _ _ _).trans ?_
  show (if dst = some t ∧ t < (S.kills ks).n then d else (S.kills ks).get t) = _
  rw [n_kills, get_kills]
theorem n_app (e : Eff) (S : St) : (e.app S).n = S.n := by
  cases e with
  | q dst d => exact put_n _ _ _
  | l dst d ks ob => exact (put_n _ _ _).trans (n_kills ks S)
theorem ob_app_q (dst : Option Nat) (d : D) (S : St) : ((Eff.q dst d).app S).ob = S.ob := put_ob _ _ _
theorem ob_app_l (dst : Option Nat) (d : D) (ks : List Nat) (ob : List (Nat × AObj)) (S : St) : ((Eff.l dst d ks ob).app S).ob = ob := put_ob _ _ _
/-- What stands in a slot behind an effect, and in the table of objects, depends on what stood there. -/
theorem app_get (e : Eff) {S S' : St} (hn : S.n = S'.n) {t : Nat} (h : S.get t = S'.get t) : (e.app S).get t = (e.app S').get t := by
  cases e with
  | q dst d => simp only [Eff.app, get_put, hn, h]
  | l dst d ks ob => simp only [get_app_l, hn, h]
theorem app_ob (e : Eff) {S S' : St} (h : S.ob = S'.ob) : (e.app S).ob = (e.app S').ob := by
  cases e with
  | q dst d => simp only [ob_app_q, h]
  | l dst d ks ob => simp only [ob_app_l]
theorem Eqv.app {S S' : St} (h : Eqv S S') (e : Eff) : Eqv (e.app S) (e.app S') :=
  ⟨by rw [n_app, n_app]; exact h.n, app_ob e h.ob, fun t => app_get e h.n (h.get t)⟩
def Eff.dst : Eff → Option Nat
  | .q dst _ => dst
  | .l dst _ _ _ => dst
def Eff.ks : Eff → List Nat
  | .q _ _ => []
  | .l _ _ ks _ => ks
theorem unDs_same : ∀ (ks : List Nat) (d : D), noMent ks d = true → unDs ks d = d
  | [], d, _ => rfl
  | k :: r, d, h => by
    simp only [noMent, List.all_cons, Bool.and_eq_true, Bool.not_eq_true'] at h
    have : unD k d = d := by unfold unD; rw [h.1]
    simp only [unDs, this]
    exact unDs_same r d h.2
/-- Two effects that do not meet. -/
theorem comm {dst : Option Nat} {d : D} {f : Eff} (hd : ∀ t, dst = some t → f.dst ≠ some t) (hm : noMent f.ks d = true) (S : St) : Eqv (f.app ((Eff.q dst d).app S)) ((Eff.q dst d).app (f.app S)) := by
  refine ⟨by simp only [n_app], by rw [ob_app_q]; exact app_ob f (ob_app_q _ _ _), fun t => ?_⟩
  have e1 : ((Eff.q dst d).app (f.app S)).get t = if dst = some t ∧ t < S.n then d else (f.app S).get t := by
    simp only [Eff.app.eq_1, get_put, n_app]
  rw [e1]
  by_cases ht : dst = some t ∧ t < S.n
  · rw [if_pos ht]
    have hf := hd t ht.1
    have e2 : ((Eff.q dst d).app S).get t = d := by simp only [Eff.app, get_put]; rw [if_pos ht]
    cases f with
    | q dst' d' =>
      have : ((Eff.q dst' d').app ((Eff.q dst d).app S)).get t = ((Eff.q dst d).app S).get t := by
        simp only [Eff.app, get_put]
        have : ¬ (dst' = some t ∧ t < (S.put dst d).n) := fun h => hf h.1
        rw [if_neg this]
      rw [this, e2]
    | l dst' d' ks ob =>
      rw [get_app_l, if_neg (fun h => hf h.1), e2]
      exact unDs_same ks d hm
  · rw [if_neg ht]
    refine app_get f (n_app _ _) ?_
    simp only [Eff.app, get_put]
    rw [if_neg ht]
end Go.Proofs.Ytinckcpmkocakaa.AM
