/-
  The abstract machine, part 21b: regions whose order is left open.
-/
import Derived.Test.YtinckcpmkocakaaAmE7
set_option linter.unusedVariables false
set_option linter.unusedSimpArgs false
set_option linter.unusedSectionVars false
namespace Go.Proofs.Ytinckcpmkocakaa.AM
open Go Go.RowKit

/-- What an operation does to the state. -/
inductive Eff where
  | q (dst : Option Nat) (d : D)
  | l (dst : Option Nat) (d : D) (kill : List Nat) (ob : List (Nat × AObj))
def St.kills (S : St) : List Nat → St
  | [] => S
  | k :: r => (S.kill k).kills r
def Eff.app : Eff → St → St
  | .q dst d, S => S.put dst d
  | .l dst d ks ob, S => ({ S.kills ks with ob := ob } : St).put dst d
structure Eqv (S S' : St) : Prop where
  n : S.n = S'.n
  ob : S.ob = S'.ob
  get : ∀ t, S.get t = S'.get t
theorem Eqv.refl (S : St) : Eqv S S := ⟨rfl, rfl, fun _ => rfl⟩
theorem Eqv.symm {S S' : St} (h : Eqv S S') : Eqv S' S := ⟨h.n.symm, h.ob.symm, fun t => (h.get t).symm⟩
theorem Eqv.trans {S S' S'' : St} (h : Eqv S S') (k : Eqv S' S'') : Eqv S S'' := ⟨h.n.trans k.n, h.ob.trans k.ob, fun t => (h.get t).trans (k.get t)⟩
theorem Conc.eqv {G : Gh} {E : Env} {ok : Oks} {S S' : St} {a : Act} {w : World} (c : Conc G E ok S a w) (h : Eqv S S') : Conc G E ok S' a w :=
  { c with n := by rw [← h.n]; exact c.n, slot := fun t => by rw [← h.get]; exact c.slot t, obj := by rw [← h.ob]; exact c.obj, apart := by rw [← h.ob]; exact c.apart, reg := by rw [← h.ob]; exact c.reg }
theorem Eqv.ev {S S' : St} (h : Eqv S S') (x : Operand) : S.ev x = S'.ev x := by cases x <;> first | rfl | exact h.get _
theorem Eqv.kill {S S' : St} (h : Eqv S S') (k : Nat) : Eqv (S.kill k) (S'.kill k) :=
  ⟨h.n, by simp only [St.kill, h.ob], fun t => by rw [get_kill, get_kill, h.get]⟩
theorem Eqv.put {S S' : St} (h : Eqv S S') (dst : Option Nat) (d : D) : Eqv (S.put dst d) (S'.put dst d) :=
  ⟨by rw [put_n, put_n]; exact h.n, by rw [put_ob, put_ob]; exact h.ob, fun t => by rw [get_put, get_put, h.n, h.get]⟩
def unDs : List Nat → D → D
  | [], d => d
  | k :: r, d => unDs r (unD k d)
theorem get_kills : ∀ (ks : List Nat) (S : St) (t : Nat), (S.kills ks).get t = unDs ks (S.get t)
  | [], S, t => rfl
  | k :: r, S, t => by simp only [St.kills, unDs, get_kills r, get_kill]
theorem n_kills : ∀ (ks : List Nat) (S : St), (S.kills ks).n = S.n
  | [], S => rfl
  | k :: r, S => by simp only [St.kills, n_kills r]; rfl
theorem get_app_l (dst : Option Nat) (d : D) (ks : List Nat) (ob : List (Nat × AObj)) (S : St) (t : Nat) : ((Eff.l dst d ks ob).app S).get t = if dst = some t ∧ t < S.n then d else unDs ks (S.get t) := by
  refine (get_put _ _ _ _).trans ?_
  show (if dst = some t ∧ t < (S.kills ks).n then d else (S.kills ks).get t) = _
  rw [n_kills, get_kills]
theorem n_app (e : Eff) (S : St) : (e.app S).n = S.n := by
  cases e with
  | q dst d => exact put_n _ _ _
  | l dst d ks ob => exact (put_n _ _ _).trans (n_kills ks S)
theorem ob_app_q (dst : Option Nat) (d : D) (S : St) : ((Eff.q dst d).app S).ob = S.ob := put_ob _ _ _
theorem ob_app_l (dst : Option Nat) (d : D) (ks : List Nat) (ob : List (Nat × AObj)) (S : St) : ((Eff.l dst d ks ob).app S).ob = ob := put_ob _ _ _
/-- What stands in a slot behind an effect, and in the table of objects, depends on what stood there. -/
theorem app_get (e : Eff) {S S' : St} (hn : S.n = S'.n) {t : Nat} (h : S.get t = S'.get t) : (e.app S).get t = (e.app S').get t := by
  cases e with
  | q dst d => simp only [Eff.app, get_put, hn, h]
  | l dst d ks ob => simp only [get_app_l, hn, h]
theorem app_ob (e : Eff) {S S' : St} (h : S.ob = S'.ob) : (e.app S).ob = (e.app S').ob := by
  cases e with
  | q dst d => simp only [ob_app_q, h]
  | l dst d ks ob => simp only [ob_app_l]
theorem Eqv.app {S S' : St} (h : Eqv S S') (e : Eff) : Eqv (e.app S) (e.app S') :=
  ⟨by rw [n_app, n_app]; exact h.n, app_ob e h.ob, fun t => app_get e h.n (h.get t)⟩
def Eff.dst : Eff → Option Nat
  | .q dst _ => dst
  | .l dst _ _ _ => dst
def Eff.ks : Eff → List Nat
  | .q _ _ => []
  | .l _ _ ks _ => ks
theorem unDs_same : ∀ (ks : List Nat) (d : D), noMent ks d = true → unDs ks d = d
  | [], d, _ => rfl
  | k :: r, d, h => by
    simp only [noMent, List.all_cons, Bool.and_eq_true, Bool.not_eq_true'] at h
    have : unD k d = d := by unfold unD; rw [h.1]
    simp only [unDs, this]
    exact unDs_same r d h.2
/-- Two effects that do not meet. -/
theorem comm {dst : Option Nat} {d : D} {f : Eff} (hd : ∀ t, dst = some t → f.dst ≠ some t) (hm : noMent f.ks d = true) (S : St) : Eqv (f.app ((Eff.q dst d).app S)) ((Eff.q dst d).app (f.app S)) := by
  refine ⟨by simp only [n_app], by rw [ob_app_q]; exact app_ob f (ob_app_q _ _ _), fun t => ?_⟩
  have e1 : ((Eff.q dst d).app (f.app S)).get t = if dst = some t ∧ t < S.n then d else (f.app S).get t := by
    simp only [Eff.app.eq_1, get_put, n_app]
  rw [e1]
  by_cases ht : dst = some t ∧ t < S.n
  · rw [if_pos ht]
    have hf := hd t ht.1
    have e2 : ((Eff.q dst d).app S).get t = d := by simp only [Eff.app, get_put]; rw [if_pos ht]
    cases f with
    | q dst' d' =>
      have : ((Eff.q dst' d').app ((Eff.q dst d).app S)).get t = ((Eff.q dst d).app S).get t := by
        simp only [Eff.app, get_put]
        have : ¬ (dst' = some t ∧ t < (S.put dst d).n) := fun h => hf h.1
        rw [if_neg this]
      rw [this, e2]
    | l dst' d' ks ob =>
      rw [get_app_l, if_neg (fun h => hf h.1), e2]
      exact unDs_same ks d hm
  · rw [if_neg ht]
    refine app_get f (n_app _ _) ?_
    simp only [Eff.app, get_put]
    rw [if_neg ht]
end Go.Proofs.Ytinckcpmkocakaa.AM
