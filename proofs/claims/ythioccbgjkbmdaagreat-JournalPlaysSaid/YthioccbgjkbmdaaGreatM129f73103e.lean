/-
 The abstract machine, part 23: a function's contract out of its body.
-/
import Derived.Test.YthioccbgjkbmdaaGreatM1170680427
import Derived.ProofKit
import Derived.SizedLaws
set_option linter.unusedVariables false
set_option linter.unusedSimpArgs false
set_option linter.unusedSectionVars false
namespace Go.Proofs.YthioccbgjkbmdaaGreat.AM
open Go Go.RowKit
section
variable {P : Program} (hT : tableOf P = T)
include hT
theorem run_loadVar_of {t : Nat} {ad : Addr} {w : World} {v : Value} (h : (Instr.loadAt t (.pointer (some ad))).run P w = .ok v w) : (loadVar t ad).run P w = .ok v w := by
 simpa [Instr.loadAt, Instr.sureAddr] using h
theorem res_cell {G : Gh} {E : Env} {ok : Oks} {S : St} {a : Act} {w : World} (c : Conc G E ok S a w) {x : Tmp} {t : TypeId} {l l' : List D} (hkn : known (tyOf t).k = true)
  (h : (match S.get x with
   | .ptr id 0 => match look S.ob id with
    | some (.box cs) => match isAggT (tyOf t).k with
     | true => if (tyOf t).size = cs.length then some (.agg cs :: l) else none
     | false => match cs with
      | [d] => some (d :: l)
      | _ => none
    | some (.cbox cs) => match isAggT (tyOf t).k with
     | true => if (tyOf t).size = cs.length then some (.v (.agg cs) :: l) else none
     | false => match cs with
      | [x] => some (.v x :: l)
      | _ => none
    | some (.row 1 cs _) => match (tyOf t).k with
     | .arr n _ => if (tyOf t).size = n then if cs.length = n then if cs.all V.cell then some (.v (.agg cs) :: l) else none else none else none
     | _ => none
    | _ => none
   | _ => none) = some l') : ∃ d v, l' = d :: l ∧ (do loadVar t (← asAddr (a.tmps.getD x undef)) : Sem Value).run P w = .ok v w ∧ RepD E ok w d v := by
 have hx := c.slot x
 split at h
 ·rename_i id hax
  rw [hax] at hx
  obtain ⟨b, hb, he⟩ := repD_ptr hx
  have fin : ∀ {v}, (Instr.loadAt t (.pointer (some ⟨b, 0, none⟩))).run P w = .ok v w → (do loadVar t (← asAddr (a.tmps.getD x undef)) : Sem Value).run P w = .ok v w := fun hr => by
   simp only [he, asAddr, Sem.run_bind, Sem.run_pure, Result.andThen_ok]; exact run_loadVar_of hT hr
  split at h
  ·rename_i cs hl
   obtain ⟨b', e, us, h1, h2, h3, h4, h5⟩ := c.obj _ _ hl
   rw [h1] at hb; cases hb
   split at h
   ·rename_i hk
    split at h
    ·rename_i hsz
     cases h
     have hus : us.toList.length = cs.length := by simpa using h3
     refine ⟨_, .agg us.toList.toArray, rfl, fin (run_load_agg hT hk (by omega) (fun j hj => by
      rw [cell_of_heap h2, Nat.zero_add]; simp at hj ⊢)), .agg _ _ hus (fun u hu => ?_) (fun j hj hj' => ?_)⟩
     ·obtain ⟨j, hj, rfl⟩ := List.getElem_of_mem hu
      obtain ⟨u, q1, q2, _⟩ := h5 j (by omega)
      simp at hj
      rw [Array.getElem?_eq_getElem hj] at q1
      cases q1; simpa using q2
     ·obtain ⟨u, q1, _, q3⟩ := h5 j hj
      simp at hj'
      rw [Array.getElem?_eq_getElem hj'] at q1
      cases q1; simpa using q3
    ·cases h
   ·rename_i hk
    split at h
    ·rename_i d
     cases h
     obtain ⟨u, q1, _, q3⟩ := h5 0 (by simp)
     exact ⟨_, u, rfl, fin (run_load_cell hT hk hkn (by rw [cell_of_heap h2, q1])), q3⟩
    ·cases h
  ·rename_i cs hl
   obtain ⟨b', h1, _, h2, h3⟩ := c.obj _ _ hl
   rw [h1] at hb; cases hb
   split at h
   ·rename_i hk
    split at h
    ·rename_i hsz
     cases h
     refine ⟨_, .agg ((List.range cs.length).map fun j => (w.cell? ⟨b, j, none⟩).getD undef).toArray, rfl, fin (run_load_agg hT hk (by simpa using hsz) (fun j hj => ?_)), .v _ _ (.agg _ _ (by simp) h2 (fun j hj hj' => ?_))⟩
     ·simp at hj
      obtain ⟨_, u, hu, _⟩ := h3 j hj
      simp [hu]
     ·obtain ⟨_, u, hu, hr⟩ := h3 j hj
      simp only [List.getElem_map, List.getElem_range, hu, Option.getD_some]
      exact hr
    ·cases h
   ·rename_i hk
    split at h
    ·rename_i y
     cases h
     obtain ⟨_, u, hu, hr⟩ := h3 0 (by simp)
     exact ⟨_, u, rfl, fin (run_load_cell hT hk hkn hu), .v _ _ hr⟩
    ·cases h
  ·rename_i cs ex hl
   split at h
   ·rename_i n e hk
    split at h
    ·rename_i hsz
     split at h
     ·rename_i hlen
      split at h
      ·rename_i hcl
       cases h
       have hcl' : ∀ j (hj : j < cs.length), (cs[j]'hj).cell = true := fun j hj => List.all_eq_true.1 hcl _ (List.getElem_mem hj)
       rcases c.obj _ _ hl with ⟨_, h1, _⟩ | ⟨b', cap, us, e', h1, h2, h3, h4, h5, h6, h7, h8⟩
       ·rw [h1] at hb; cases hb
       rw [h1] at hb; cases hb
       have hget : ∀ j (hj : j < cs.length), ∃ u, w.cell? ⟨b, j, none⟩ = some u ∧ Rep ok w (cs[j]'hj) u := by
        intro j hj
        have hf := cell_flat (hcl' j hj)
        obtain ⟨u, hu, hr⟩ := h7.hr j hj 0 (by rw [hf]; simp)
        simp at hu
        exact ⟨u, hu, by simpa [hf] using hr⟩
       refine ⟨_, .agg ((List.range cs.length).map fun j => (w.cell? ⟨b, j, none⟩).getD undef).toArray, rfl, fin (run_load_agg hT (by rw [hk]; rfl) (by simp; omega) (fun j hj => ?_)), .v _ _ (.agg _ _ (by simp) hcl' (fun j hj hj' => ?_))⟩
       ·simp at hj
        obtain ⟨u, hu, _⟩ := hget j hj
        simp [hu]
       ·obtain ⟨u, hu, hr⟩ := hget j hj
        simp only [List.getElem_map, List.getElem_range, hu, Option.getD_some]
        exact hr
      ·cases h
     ·cases h
    ·cases h
   ·cases h
  ·cases h
 ·cases h
theorem res_run {G : Gh} {E : Env} {ok : Oks} {S : St} {a : Act} {w : World} (c : Conc G E ok S a w) : ∀ (res : List ResultVar) (ds : List D), resultsD S res = some ds →
  ∃ us : List Value, us.length = ds.length ∧ (res.mapM (fun | .tmp t => pure (a.tmps.getD t undef) | .cell x t => do loadVar t (← asAddr (a.tmps.getD x undef))) : Sem (List Value)).run P w = Result.ok us w ∧ ∀ i (h : i < ds.length) (h' : i < us.length), RepD E ok w (ds[i]'h) (us[i]'h')
 | [], ds, h => by cases h; exact ⟨[], rfl, rfl, by simp⟩
 | .tmp t :: r, ds, h => by
  unfold resultsD at h
  split at h
  ·rename_i l hl
   cases h
   obtain ⟨us, h1, h2, h3⟩ := res_run c r l hl
   refine ⟨a.tmps.getD t undef :: us, by simp [h1], by simp only [List.mapM_cons, Sem.run_bind, Sem.run_pure, Result.andThen_ok, h2], fun i hi hi' => ?_⟩
   cases i with
   | zero => exact c.slot t
   | succ i => exact h3 i (by simpa using hi) (by simpa using hi')
  ·cases h
 | .cell x t :: r, ds, h => by
  unfold resultsD at h
  split at h
  ·rename_i l hl
   split at h
   ·cases h
   ·rename_i hkn
    obtain ⟨us, h1, h2, h3⟩ := res_run c r l hl
    obtain ⟨d, v, rfl, hr, hrep⟩ := res_cell hT c (by simpa using hkn) h
    refine ⟨v :: us, by simp [h1], by simp only [List.mapM_cons]; rw [Sem.run_bind, hr, Result.andThen_ok, Sem.run_bind, h2, Result.andThen_ok, Sem.run_pure], fun i hi hi' => ?_⟩
    cases i with
    | zero => exact hrep
    | succ i => exact h3 i (by simpa using hi) (by simpa using hi')
  ·cases h
theorem rs_of {G : Gh} {E : Env} {ok : Oks} {S : St} {a : Act} {w : World} (c : Conc G E ok S a w) : ∀ (seen : List Nat) (ds : List D) (rs : List Rs) (us : List Value), rsOk S.ob seen ds rs → us.length = ds.length → (∀ i (h : i < ds.length) (h' : i < us.length), RepD E ok w (ds[i]'h) (us[i]'h')) →
  ∃ gs : List (Option Nat), us.length = rs.length ∧ gs.length = rs.length ∧ (∀ i (h : i < rs.length) (h' : i < us.length) (h'' : i < gs.length), RsRep G.w0.heap.size ok w (rs[i]'h) (us[i]'h') (gs[i]'h'')) ∧
   (∀ i b : Nat, gs[i]? = some (some b) → ∃ id o, seen.contains id = false ∧ look S.ob id = some o ∧ occ E ok id o b ∧ ¬ o.isHeap) ∧ ∀ (i j b : Nat), gs[i]? = some (some b) → gs[j]? = some (some b) → i = j
 | seen, [], [], us, h, hl, hr => by
  have : us = [] := List.eq_nil_of_length_eq_zero (by simpa using hl)
  subst this
  exact ⟨[], rfl, rfl, by simp, by simp, by simp⟩
 | seen, d :: ds, .v x :: rs, us, h, hl, hr => by
  obtain ⟨h1, h2⟩ : toV S.ob d = some x ∧ rsOk S.ob seen ds rs := by
   cases d <;> exact h
  cases us with
  | nil => simp at hl
  | cons u us =>
   obtain ⟨gs, q1, q2, q3, q4, q5⟩ := rs_of c seen ds rs us h2 (by simpa using hl) (fun i hi hi' => hr (i + 1) (by simpa using hi) (by simpa using hi'))
   refine ⟨none :: gs, by simp [q1], by simp [q2], fun i hi hi' hi'' => ?_, fun i b hb => ?_, fun i j b hi hj => ?_⟩
   ·cases i with
    | zero => exact ⟨rfl, toV_sound c.obj _ _ _ h1 (hr 0 (by simp) (by simp))⟩
    | succ i => exact q3 i (by simpa using hi) (by simpa using hi') (by simpa using hi'')
   ·cases i with
    | zero => simp at hb
    | succ i => exact q4 i b (by simpa using hb)
   ·cases i with
    | zero => simp at hi
    | succ i => cases j with
     | zero => simp at hj
     | succ j => rw [q5 i j b (by simpa using hi) (by simpa using hj)]
 | seen, .nils :: ds, .o z l :: rs, us, h, hl, hr => by
  obtain ⟨rfl, h2⟩ := h
  cases us with
  | nil => simp at hl
  | cons u us =>
   obtain ⟨gs, q1, q2, q3, q4, q5⟩ := rs_of c seen ds rs us h2 (by simpa using hl) (fun i hi hi' => hr (i + 1) (by simpa using hi) (by simpa using hi'))
   have hu := repD_nils (hr 0 (by simp) (by simp))
   simp only [List.getElem_cons_zero] at hu
   refine ⟨none :: gs, by simp [q1], by simp [q2], fun i hi hi' hi'' => ?_, fun i b hb => ?_, fun i j b hi hj => ?_⟩
   ·cases i with
    | zero => exact .inl ⟨rfl, rfl, hu⟩
    | succ i => exact q3 i (by simpa using hi) (by simpa using hi') (by simpa using hi'')
   ·cases i with
    | zero => simp at hb
    | succ i => exact q4 i b (by simpa using hb)
   ·cases i with
    | zero => simp at hi
    | succ i => cases j with
     | zero => simp at hj
     | succ j => rw [q5 i j b (by simpa using hi) (by simpa using hj)]
 | seen, .own id :: ds, .o z l :: rs, us, h, hl, hr => by
  obtain ⟨h0, h1, h2⟩ := h
  cases us with
  | nil => simp at hl
  | cons u us =>
   obtain ⟨gs, q1, q2, q3, q4, q5⟩ := rs_of c (id :: seen) ds rs us h2 (by simpa using hl) (fun i hi hi' => hr (i + 1) (by simpa using hi) (by simpa using hi'))
   have hu := repD_own (hr 0 (by simp) (by simp))
   simp only [List.getElem_cons_zero] at hu
   refine ⟨E.blk id :: gs, by simp [q1], by simp [q2], fun i hi hi' hi'' => ?_, fun i b hb => ?_, fun i j b hi hj => ?_⟩
   ·cases i with
    | zero =>
     simp only [List.getElem_cons_zero]
     rw [hu]
     rcases c.obj _ _ h1 with h3 | ⟨b, cap, cs, e, h1', h2', h3, h4, h5, h6, h7, h8⟩
     ·exact .inl h3
     ·refine .inr ⟨b, cap, cs, e, h1', ?_, h2', h3, h4, h5, h6, h7, fun o q => by have := (h8 o).1 q; simp at this⟩
      exact c.regL h1 (fun h => h) h1'
    | succ i => exact q3 i (by simpa using hi) (by simpa using hi') (by simpa using hi'')
   ·cases i with
    | zero => exact ⟨id, _, h0, h1, (by simpa using hb : E.blk id = some b), fun h => h⟩
    | succ i =>
     obtain ⟨id', o, k1, k2, k3⟩ := q4 i b (by simpa using hb)
     exact ⟨id', o, by simp at k1 ⊢; exact k1.2, k2, k3⟩
   ·have clash : ∀ k b : Nat, gs[k]? = some (some b) → E.blk id = some b → False := fun k b hk hb => by
     obtain ⟨id', o, k1, k2, k3⟩ := q4 k b hk
     exact c.apart id id' _ _ b h1 k2 (fun e => by simp [e] at k1) hb k3.1
    cases i with
    | zero => cases j with
     | zero => rfl
     | succ j => exact (clash j b (by simpa using hj) (by simpa using hi)).elim
    | succ i => cases j with
     | zero => exact (clash i b (by simpa using hi) (by simpa using hj)).elim
     | succ j => rw [q5 i j b (by simpa using hi) (by simpa using hj)]
 | seen, [], _ :: _, us, h, hl, hr => h.elim
 | seen, _ :: _, [], us, h, hl, hr => by cases seen <;> exact h.elim
theorem look_slots (xs : List V) : ∀ (k t : Nat), look (slotsOf k xs) t = if k ≤ t then (xs[t - k]?).map slotD else none := by
 induction xs with
 | nil => intro k t; simp [slotsOf, look]
 | cons x r ih =>
  intro k t
  simp only [slotsOf, look]
  by_cases h : k = t
  ·subst h; simp
  ·rw [if_neg h, ih]
   by_cases h2 : k ≤ t
   ·rw [if_pos (by omega), if_pos h2, show t - k = (t - (k + 1)) + 1 from by omega, List.getElem?_cons_succ]
   ·rw [if_neg (by omega), if_neg h2]
theorem slotD_rep {E : Env} {ok : Oks} {w : World} {x : V} {u : Value} (h : Rep ok w x u) : RepD E ok w (slotD x) u := by
 unfold slotD
 split
 ·cases h; exact .nils
 ·exact .v _ _ h
theorem conc_init {E : Env} {ok : Oks} {w : World} {vs : List Value} {xs : List V} {n : Nat} (hok : ∀ b o, ok b o → b < w.heap.size) (hl : vs.length = xs.length) (hn : xs.length ≤ n) (hr : ∀ i (h : i < xs.length) (h' : i < vs.length), Rep ok w (xs[i]'h) (vs[i]'h')) :
  Conc ⟨w, fun _ => False, ok, false, hok⟩ E ok (initSt n xs) { tmps := vs.toArray ++ Array.replicate (n - vs.toArray.size) undef, defers := [] } w where
 n := by
  show (vs.toArray ++ Array.replicate (n - vs.toArray.size) undef).size = n
  simp; omega
 defers := rfl
 slot t := by
  show RepD E ok w (St.get (initSt n xs) t) ((vs.toArray ++ Array.replicate (n - vs.toArray.size) undef).getD t undef)
  simp only [initSt, St.get, look_slots hT, Nat.zero_le, if_true, Nat.sub_zero]
  by_cases h : t < xs.length
  ·rw [List.getElem?_eq_getElem h]
   have h' : t < vs.length := by omega
   have : (vs.toArray ++ Array.replicate (n - vs.toArray.size) undef).getD t undef = vs[t]'h' := by
    rw [Array.getD_eq_getD_getElem?, Array.getElem?_append_left (by simpa using h')]
    simp [h']
   rw [this]
   exact slotD_rep hT (hr t h h')
  ·rw [List.getElem?_eq_none (by omega)]
   exact .any _
 obj id o h := by simp [initSt, look] at h
 apart i j o p b h := by simp [initSt, look] at h
 reg i o b h := by simp [initSt, look] at h
 okb := hok
 sub _ _ h := h
 env := .refl _
 envq _ := .refl _
 hp i gh pub h := by simp [initSt, look] at h
 newk _ _ h := .inl h
 os := rfl
 tape := rfl
 output := rfl
 size := Nat.le_refl _
 old _ _ _ := rfl
 keep _ _ _ := rfl
theorem FnR.of (hM : P.follows .mixedOrders = true) {f : Nat} {fn : Func} {cd : Code} {xs : List V} {rs : List Rs} (hf : P.funcs[f]? = some fn) (hb : fn.body = some cd) (hname : (fn.name == "runtime.NumGoroutine") = false) (hn : xs.length ≤ fn.ntmps) (h : bodyWp (std P (retOk rs)) cd fn.results.toList (initSt fn.ntmps xs)) : FnR P f xs rs := by
 refine ⟨⟨fn, hf, by simp [hb], hname⟩, fun w ok vs hok hl hr => ?_⟩
 have c0 := conc_init hT (E := ⟨fun _ => none, fun _ => none, fun _ => 0, fun _ => 0⟩) hok hl hn hr
 refine calls_of_wp hf hb (wp_mono (w_sound hT hM cd _ c0 h) fun e a w' q => ?_)
 have fin : After ⟨w, fun _ => False, ok, false, hok⟩ (fun S => match resultsD S fn.results.toList with
   | some l => (std P (retOk rs)).ret S.ob l
   | none => False) a w' → a.defers = [] ∧ ∃ v, (results fn a.tmps).run P w' = .ok v w' ∧ ∃ (us : List Value) (gs : List (Option Nat)) (ok' : Oks), Ending.returned v = .returned (retVal us) ∧ Below w.heap.size w w' ∧ (∀ b o, ok b o → ok' b o) ∧ EnvEq ok ok' ∧
   (∀ b o, ok' b o → ok b o ∨ (w.heap.size ≤ b ∧ b < w'.heap.size)) ∧ us.length = rs.length ∧ gs.length = rs.length ∧
   (∀ i (h : i < rs.length) (h' : i < us.length) (h'' : i < gs.length), RsRep w.heap.size ok' w' (rs[i]'h) (us[i]'h') (gs[i]'h'')) ∧
   (∀ (i j b : Nat), gs[i]? = some (some b) → gs[j]? = some (some b) → i = j) := by
  rintro ⟨E, ok1, S, hS, c⟩
  refine ⟨c.defers, ?_⟩
  split at hS
  ·rename_i ds hds
   obtain ⟨us, h1, h2, h3⟩ := res_run hT c _ _ hds
   obtain ⟨ok2, k1, ke, c2⟩ := c.softOb' (retIds ds rs)
   have hs : Same ok1 ok2 w' w' := ⟨k1, fun _ _ _ => rfl, ke.ext⟩
   obtain ⟨gs, g1, g2, g3, _, g5⟩ := rs_of hT c2 [] ds rs us hS h1 (fun i hi hi' => (h3 i hi hi').mono hs)
   refine ⟨retVal us, ?_, us, gs, ok2, rfl, ?_, ?_, c2.envq rfl, ?_, g1, g2, g3, g5⟩
   ·simp only [results]
    rw [Array.mapM_eq_mapM_toList, Sem.run_bind, Sem.run_map]
    refine (congrArg (fun r : Result (List Value) => Result.andThen (Result.andThen r fun l w' => Result.ok l.toArray w') fun (x : Array Value) w' => Sem.run P (pure (if h : x.size = 1 then x[0] else Value.tuple x)) w') h2).trans ?_
    simp only [Result.andThen_ok, Sem.run_pure]
    match us with
    | [] => rfl
    | [u] => rfl
    | _ :: _ :: _ => rfl
   ·exact ⟨c.os, c.tape, c.output, c.size, fun b hb => c.old b hb (fun h => h)⟩
   ·exact fun b o q => k1 _ _ (c.sub b o q)
   ·exact fun b o q => (c2.newk b o q).imp (fun h => h) fun h => ⟨h.elim (fun h => h) False.elim, c2.okb _ _ q⟩
  ·exact hS.elim
 cases e with
 | normal => exact fin q
 | ret => exact fin q
 | exit id => obtain ⟨E, ok1, S, hS, c⟩ := q; exact hS.elim
 | goto l => exact q.elim
 | panic ch => exact q.elim
 | outgrown => exact q.elim
def initStH (n : Nat) (xs : List V) (gh : GH) (pub : List Nat) : St := { n, sl := slotsOf 0 xs, ob := [(hk, .heap gh pub)] }
theorem conc_initH {E : Env} {ok : Oks} {w : World} {vs : List Value} {xs : List V} {n : Nat} {gh : GH} {pub : List Nat} (hok : ∀ b o, ok b o → b < w.heap.size) (gl : GlOk ok gh w) (hl : vs.length = xs.length) (hn : xs.length ≤ n) (hr : ∀ i (h : i < xs.length) (h' : i < vs.length), Rep ok w (xs[i]'h) (vs[i]'h')) :
  Conc ⟨w, occG ok gh, ok, true, hok⟩ E ok (initStH n xs gh pub) { tmps := vs.toArray ++ Array.replicate (n - vs.toArray.size) undef, defers := [] } w := by
 have c0 := conc_init hT (E := E) hok hl hn hr
 have one : ∀ i o, look (initStH n xs gh pub).ob i = some o → i = hk ∧ o = .heap gh pub := by
  intro i o h
  simp only [initStH, look] at h
  split at h
  ·rename_i e; exact ⟨e.symm, by simpa using h.symm⟩
  ·cases h
 exact {
  n := c0.n
  defers := rfl
  slot := c0.slot
  obj := fun i o h => by obtain ⟨rfl, rfl⟩ := one i o h; exact ⟨rfl, gl⟩
  apart := fun i j o p b h1 h2 hne => by obtain ⟨rfl, _⟩ := one i o h1; obtain ⟨rfl, _⟩ := one j p h2; exact absurd rfl hne
  reg := fun i o b h hb => by obtain ⟨rfl, rfl⟩ := one i o h; exact .inr ⟨trivial, hb⟩
  okb := hok
  sub := fun _ _ h => h
  env := .refl _
  envq := fun q => by cases q
  hp := fun _ _ _ _ => rfl
  newk := fun _ _ h => .inl h
  os := rfl
  tape := rfl
  output := rfl
  size := Nat.le_refl _
  old := fun _ _ _ => rfl
  keep := fun _ _ _ => rfl }
theorem softOb_heap {gh : GH} {pub : List Nat} : ∀ (ids : List Nat) (ob : List (Nat × AObj)), look ob hk = some (.heap gh pub) → look (softOb ob ids) hk = some (.heap gh pub)
 | [], ob, h => h
 | id :: r, ob, h => by
  unfold softOb
  split
  ·rename_i z l hl
   refine softOb_heap r _ ?_
   simp only [look]
   split
   ·rename_i e; rw [e, h] at hl; cases hl
   ·rename_i e; rw [look_remOb, if_neg (Ne.symm e)]; exact h
  ·rename_i l hl
   split
   ·refine softOb_heap r _ ?_
    simp only [look]
    split
    ·rename_i e; rw [e, h] at hl; cases hl
    ·rename_i e; rw [look_remOb, if_neg (Ne.symm e)]; exact h
   ·exact softOb_heap r _ h
  ·exact softOb_heap r _ h
def retOkG (post : List Rs → GH → Prop) (ob : List (Nat × AObj)) (ds : List D) : Prop :=
 ∃ rs gh' pub, look ob hk = some (.heap gh' pub) ∧ rsOk (softOb ob (retIds ds rs)) [] ds rs ∧ post rs gh'
theorem rs_gs {G : Gh} {E : Env} {ok : Oks} {S : St} {a : Act} {w : World} (c : Conc G E ok S a w) {gs : List (Option Nat)} (h : ∀ i b : Nat, gs[i]? = some (some b) → ∃ id o, look S.ob id = some o ∧ ¬ o.isHeap ∧ occ E ok id o b) {gh : GH} {pub : List Nat} (hh : look S.ob hk = some (.heap gh pub)) {b : Nat} (hb : occG ok gh b) (i : Nat) : gs[i]? ≠ some (some b) := fun hi => by
 obtain ⟨id, o, h1, h2, h3⟩ := h i b hi
 have hne : id ≠ hk := fun e => by subst e; rw [hh] at h1; cases h1; exact h2 trivial
 exact c.apart id hk o _ b h1 hh hne h3 hb
theorem FnG.of (hM : P.follows .mixedOrders = true) {f : Nat} {fn : Func} {cd : Code} {xs : List V} {gh : GH} {pub : List Nat} {post : List Rs → GH → Prop} (hf : P.funcs[f]? = some fn) (hb : fn.body = some cd) (hname : (fn.name == "runtime.NumGoroutine") = false) (hn : xs.length ≤ fn.ntmps) (h : bodyWp (std P (retOkG post)) cd fn.results.toList (initStH fn.ntmps xs gh pub)) : FnG P f xs gh post := by
 refine ⟨⟨fn, hf, by simp [hb], hname⟩, fun w ok vs hok gl hl hr => ?_⟩
 have c0 := conc_initH hT (E := ⟨fun _ => none, fun _ => none, fun _ => 0, fun _ => 0⟩) (pub := pub) hok gl hl hn hr
 refine calls_of_wp hf hb (wp_mono (w_sound hT hM cd _ c0 h) fun e a w' q => ?_)
 have fin : After ⟨w, occG ok gh, ok, true, hok⟩ (fun S => match resultsD S fn.results.toList with
   | some l => (std P (retOkG post)).ret S.ob l
   | none => False) a w' → a.defers = [] ∧ ∃ v, (results fn a.tmps).run P w' = .ok v w' ∧ ∃ (us : List Value) (gs : List (Option Nat)) (ok' : Oks) (rs : List Rs) (gh' : GH), post rs gh' ∧ Ending.returned v = .returned (retVal us) ∧ Frame (occG ok gh) w w' ∧ Same ok ok' w w' ∧
   (∀ b o, ok' b o → b < w'.heap.size ∧ (ok b o ∨ occG ok gh b ∨ w.heap.size ≤ b)) ∧ us.length = rs.length ∧ gs.length = rs.length ∧
   (∀ i (h : i < rs.length) (h' : i < us.length) (h'' : i < gs.length), RsRep w.heap.size ok' w' (rs[i]'h) (us[i]'h') (gs[i]'h'')) ∧
   (∀ (i j b : Nat), gs[i]? = some (some b) → gs[j]? = some (some b) → i = j) ∧ GlOk ok' gh' w' ∧ (∀ b, occG ok' gh' b → (occG ok gh b ∨ w.heap.size ≤ b) ∧ ∀ i : Nat, gs[i]? ≠ some (some b)) := by
  rintro ⟨E, ok1, S, hS, c⟩
  refine ⟨c.defers, ?_⟩
  split at hS
  ·rename_i ds hds
   obtain ⟨us, h1, h2, h3⟩ := res_run hT c _ _ hds
   obtain ⟨rs, gh', pub', hh, hrs, hpost⟩ := hS
   obtain ⟨ok2, k1, ke, c2⟩ := c.softOb' (retIds ds rs)
   have hs : Same ok1 ok2 w' w' := ⟨k1, fun _ _ _ => rfl, ke.ext⟩
   have hh2 := softOb_heap hT (retIds ds rs) S.ob hh
   obtain ⟨gs, g1, g2, g3, g4, g5⟩ := rs_of hT c2 [] ds rs us hrs h1 (fun i hi hi' => (h3 i hi hi').mono hs)
   refine ⟨retVal us, ?_, us, gs, ok2, rs, gh', hpost, rfl, ⟨c.os, c.tape, c.output, c.size, c.old⟩, ⟨c2.sub, c2.keep, c2.env⟩, ?_, g1, g2, g3, g5, (c2.obj _ _ hh2).2, fun b hb => ⟨?_, fun i => rs_gs hT c2 (fun i b hi => ?_) hh2 hb i⟩⟩
   ·simp only [results]
    rw [Array.mapM_eq_mapM_toList, Sem.run_bind, Sem.run_map]
    refine (congrArg (fun r : Result (List Value) => Result.andThen (Result.andThen r fun l w' => Result.ok l.toArray w') fun (x : Array Value) w' => Sem.run P (pure (if h : x.size = 1 then x[0] else Value.tuple x)) w') h2).trans ?_
    simp only [Result.andThen_ok, Sem.run_pure]
    match us with
    | [] => rfl
    | [u] => rfl
    | _ :: _ :: _ => rfl
   ·exact fun b o q => ⟨c2.okb _ _ q, (c2.newk b o q).imp (fun h => h) Or.symm⟩
   ·exact ((c2.reg hk _ b hh2 hb).imp (fun h => h) And.right).symm
   ·obtain ⟨id, o, _, q2, q3, q4⟩ := g4 i b hi
    exact ⟨id, o, q2, q4, q3⟩
  ·exact hS.elim
 cases e with
 | normal => exact fin q
 | ret => exact fin q
 | exit id => obtain ⟨E, ok1, S, hS, c⟩ := q; exact hS.elim
 | goto l => exact q.elim
 | panic ch => exact q.elim
 | outgrown => exact q.elim
end
section
theorem FnR.of' {P : Program} (hT : tableOf P = T) (hM : P.follows .mixedOrders = true) {f n : Nat} {fn : Func} {cd : Code} {res : List ResultVar} {xs : List V} {rs : List Rs} (hf : P.funcs[f]? = some fn) (hb : fn.body = some cd) (hres : fn.results.toList = res) (hn : fn.ntmps = n) (hname : (fn.name == "runtime.NumGoroutine") = false) (hle : xs.length ≤ n)
  (h : ∀ A, A = std P (retOk rs) → bodyWp A cd res (initSt n xs)) : FnR P f xs rs := by
 subst hres hn
 exact FnR.of hT hM hf hb hname hle (h _ rfl)
theorem M_ok : Tryz.prog.follows .mixedOrders = true := by kernel_rfl
theorem FnG.of' {P : Program} (hT : tableOf P = T) (hM : P.follows .mixedOrders = true) {f n : Nat} {fn : Func} {cd : Code} {res : List ResultVar} {xs : List V} {gh : GH} (pub : List Nat) {post : List Rs → GH → Prop} (hf : P.funcs[f]? = some fn) (hb : fn.body = some cd) (hres : fn.results.toList = res) (hn : fn.ntmps = n) (hname : (fn.name == "runtime.NumGoroutine") = false) (hle : xs.length ≤ n)
  (h : ∀ A, A = std P (retOkG post) → bodyWp A cd res (initStH n xs gh pub)) : FnG P f xs gh post := by
 subst hres hn
 exact FnG.of hT hM hf hb hname hle (h _ rfl)
end
open Go Go.RowKit
theorem Subs.refl : ∀ xs : List V, Subs xs xs
 | [] => trivial
 | _ :: r => ⟨.inl rfl, Subs.refl r⟩
def CallR (P : Program) (f : Nat) (xs : List V) (post : List Rs → Prop) : Prop := ∃ rs, FnR P f xs rs ∧ post rs
section
variable {A : Prim} {P : Program} {R : List (Nat × AObj) → List D → Prop} (hA : A = std P R)
include hA
theorem callI {f : Nat} {xs ys : List V} {g : Option GH} {post : List Rs → Prop} {K : List Rs → Option GH → Prop} (h : CallR P f ys post) (hK : ∀ rs, post rs → K rs none) (hs : Subs xs ys := by first | exact Subs.refl _ | simp [Subs, bytesV]) : A.call f xs g K := by
 subst hA; obtain ⟨rs, h1, h2⟩ := h; exact ⟨ys, hs, .inl ⟨rs, h1, hK rs h2⟩⟩
theorem callGI {f : Nat} {xs ys : List V} {gh : GH} {post : List Rs → GH → Prop} {K : List Rs → Option GH → Prop} (h : FnG P f ys gh post) (hK : ∀ rs gh', post rs gh' → K rs (some gh')) (hs : Subs xs ys := by first | exact Subs.refl _ | simp [Subs, bytesV]) : A.call f xs (some gh) K := by
 subst hA; exact ⟨ys, hs, .inr ⟨gh, post, rfl, h, hK⟩⟩
theorem callHI {f : Nat} {xs ys : List V} {gh : GH} {K : List Rs → Prop} (rs : List Rs) (h : FnG P f ys gh (fun rs' gh' => rs' = rs ∧ gh' = gh)) (hK : K rs) (hs : Subs xs ys := by first | exact Subs.refl _ | simp [Subs, bytesV]) : A.callH f xs gh K := by
 subst hA; exact ⟨ys, rs, hs, h, hK⟩
theorem gqI {op : Op} {xs : List V} {gh : GH} {K : V → Prop} (x : V) (h : GQ P op xs gh x) (hK : K x) : A.gq op xs gh K := by subst hA; exact ⟨x, h, hK⟩
theorem gopI {o : Oper} {xs : List V} {gh : GH} {K : V → GH → Prop} (r : V) (gh' : GH) (h : GOp P o xs gh (fun r' h' => r' = r ∧ h' = gh')) (hK : K r gh') : A.gop o xs gh K := by subst hA; exact ⟨r, gh', h, hK⟩
theorem gopNI {o : Oper} {xs : List V} {gh : GH} {K : V → GH → Prop} (Rq : V → GH → Prop) (h : GOp P o xs gh Rq) (hK : ∀ r gh', Rq r gh' → K r gh') : A.gopN o xs gh K := by subst hA; exact ⟨Rq, h, hK⟩
theorem weakA {S : St} {K : St → Prop} (S' : St) (h : Weak S S') (hK : K S') : A.weak S K := by subst hA; exact ⟨S', h, hK⟩
theorem chkI {b : Unit → Bool} {K : Unit → Prop} (h : b () = true) (hK : K ()) : A.chk b K := by subst hA; exact ⟨h, hK⟩
theorem condI {b : Bool} {K : Bool → Prop} (ht : b = true → K true) (hf : b = false → K false) : A.cond b K := by
 subst hA; intro c hc; cases c
 ·exact hf hc
 ·exact ht hc
theorem loopF {ι : Type} {body : (AExit → St → Prop) → St → Prop} {Q : AExit → St → Prop} {S : St} (st : ι → St) (I : ι → Prop) (μ : ι → Nat) (p0 : ι) (hw : Weak S (st p0)) (h0 : I p0) (hb : ∀ p, I p → body (fun e S' => match e with
  | .normal => ∃ q, Weak S' (st q) ∧ I q ∧ μ q < μ p
  | e => Q e S') (st p)) : A.loop body Q S := by
 subst hA; exact ⟨ι, st, I, μ, ⟨p0, hw, h0⟩, hb⟩
theorem nzI {b : Int} {K : Unit → Prop} (h : b ≠ 0) (hK : K ()) : A.nz b K := by subst hA; exact ⟨h, hK⟩
theorem nnegI {b : Int} {K : Unit → Prop} (h : 0 ≤ b) (hK : K ()) : A.nneg b K := by subst hA; exact ⟨h, hK⟩
theorem inRI {i : Int} {l : List V} {K : Unit → Prop} (h : 0 ≤ i ∧ i < l.length) (hK : K ()) : A.inR i l K := by subst hA; exact ⟨h, hK⟩
theorem catOkI {a b : List UInt8} {K : Unit → Prop} (h : a.length + b.length ≤ 9223372036854775807) (hK : K ()) : A.catOk a b K := by subst hA; exact ⟨h, hK⟩
theorem sizedI {l : List V} {z : Nat} {K : Unit → Prop} (h : ∀ x ∈ l, x.flat.length = z) (hK : K ()) : A.sized l z K := by subst hA; exact ⟨h, hK⟩
theorem roomI {a b : List V} {n : Nat} {K : Unit → Prop} (h : (a.length + b.length) * n ≤ 140737488355328 ∧ 0 < n) (hK : K ()) : A.room a b n K := by subst hA; exact ⟨h, hK⟩
theorem mkSI {n c : Int} {b : Nat} {K : Unit → Prop} (h : 0 ≤ n ∧ n ≤ c ∧ c ≤ 140737488355328 ∧ c * b ≤ 140737488355328) (hK : K ()) : A.mkS n c b K := by subst hA; exact ⟨h, hK⟩
theorem getII {k : IntKind} {l : List V} {i : Int} {K : Int → Prop} (n : Int) (h : 0 ≤ i ∧ l[i.toNat]? = some (.int k n)) (hK : K n) : A.getI k l i K := by subst hA; exact ⟨n, h, hK⟩
theorem getAI {z : Nat} {l : List V} {i : Int} {K : List V → Prop} (cs : List V) (h : 0 ≤ i ∧ l[i.toNat]? = some (.agg cs) ∧ cs.length = z) (hK : K cs) : A.getA z l i K := by subst hA; exact ⟨cs, h, hK⟩
theorem b2sI {l : List V} {K : List UInt8 → Prop} (s : List UInt8) (h : l = bytesV s) (hK : K s) : A.b2s l K := by subst hA; exact ⟨s, h, hK⟩
theorem nilqI {l : List V} {K : D → Prop} (h : l ≠ []) (hK : K (.lit false)) : A.nilq l K := by subst hA; exact .inl ⟨h, hK⟩
theorem nilqU {l : List V} {K : D → Prop} (hK : K .ub) : A.nilq l K := by subst hA; exact .inr hK
theorem eqAI {t : Nat} {a b : List V} {K : Bool → Prop} (c : Bool) (h : EqOk P t a b c) (hK : K c) : A.eqA t a b K := by subst hA; exact ⟨c, h, hK⟩
theorem retI {ob : List (Nat × AObj)} {l : List D} (h : R ob l) : A.ret ob l := by subst hA; exact h
end
theorem Weak.trans {S S' S'' : St} (h : Weak S S') (k : Weak S' S'') : Weak S S'' := fun G E ok a w c => by
 obtain ⟨E', ok', c'⟩ := h G E ok a w c
 exact k G E' ok' a w c'
def slOk (S : St) : List (Nat × D) → Prop
 | [] => True
 | (t, d) :: r => S.get t = d ∧ slOk S r
def obOk (S : St) : List (Nat × AObj) → Prop
 | [] => True
 | (t, d) :: r => look S.ob t = some d ∧ obOk S r
theorem slOk_mem {S : St} : ∀ {l : List (Nat × D)}, slOk S l → ∀ t d, look l t = some d → S.get t = d
 | [], _, t, d, h => by simp [look] at h
 | (k, x) :: r, hs, t, d, h => by
  simp only [look] at h
  split at h
  ·rename_i e; subst e; cases h; exact hs.1
  ·exact slOk_mem hs.2 t d h
theorem obOk_mem {S : St} : ∀ {l : List (Nat × AObj)}, obOk S l → ∀ t d, look l t = some d → look S.ob t = some d
 | [], _, t, d, h => by simp [look] at h
 | (k, x) :: r, hs, t, d, h => by
  simp only [look] at h
  split at h
  ·rename_i e; subst e; cases h; exact hs.1
  ·exact obOk_mem hs.2 t d h
theorem weakI {S S' : St} (hn : S'.n = S.n) (hs : slOk S S'.sl) (ho : obOk S S'.ob) : Weak S S' := fun G E ok a w c => ⟨E, ok, {
 c with
 n := by rw [hn]; exact c.n
 slot := fun t => by
  unfold St.get
  cases h : look S'.sl t with
  | none => exact .any _
  | some d => rw [← slOk_mem hs t d h]; exact c.slot t
 obj := fun id o h => c.obj id o (obOk_mem ho id o h)
 apart := fun i j o p b h1 h2 => c.apart i j o p b (obOk_mem ho _ _ h1) (obOk_mem ho _ _ h2)
 reg := fun i o b h => c.reg i o b (obOk_mem ho _ _ h)
 hp := fun i gh pub h => c.hp i gh pub (obOk_mem ho _ _ h) }⟩
theorem weak_nils (S : St) (t id z : Nat) (ex : Bool) (ht : S.get t = .nils) : Weak S ((S.new id (.row z [] ex)).put (some t) (.own id)) := fun G E ok a w c => by
 have c2 := c.add (E' := E.set id none 0 0) id (.row z [] ex) (E.set_ne _ _ _ _) (.inl ⟨rfl, E.set_blk _ _ _ _, E.set_hdr _ _ _ _⟩) (fun b hb => by rw [E.set_blk] at hb; cases hb)
 refine ⟨_, ok, c2.refine (t := t) ?_⟩
 have h1 := c.slot t
 rw [ht] at h1
 rw [repD_nils h1]
 have h2 := RepD.own (E := E.set id none 0 0) (ok := ok) (w := w) id
 rw [E.set_hdr] at h2
 exact h2
open Go Go.RowKit
def laidF : Nat → List (Nat × Nat) → Nat → Bool
 | off, [], size => off == size
 | off, (o, ft) :: r, size => o == off && laidF (off + (tyOf ft).size) r size
def good : Nat → Nat → Bool
 | 0, _ => false
 | k + 1, t => match (tyOf t).k with
  | .bool => (tyOf t).size == 1
  | .int _ => (tyOf t).size == 1
  | .str => (tyOf t).size == 1
  | .slice e => (tyOf t).size == 1 && good k e && Nat.ble 1 (tyOf e).size
  | .struct fs => fs.all (fun p => good k p.2) && laidF 0 fs (tyOf t).size
  | _ => false
def TyM (m : Nat) : Nat → Nat → V → Prop
 | 0, _, _ => False
 | k + 1, t, x => match (tyOf t).k with
  | .bool => ∃ b, x = .bool b
  | .int kd => ∃ n, x = .int kd n ∧ kd.min ≤ n ∧ n ≤ kd.max
  | .str => ∃ s, x = .str s ∧ s.length ≤ m
  | .slice e => ∃ l, x = .slice l ∧ l.length * (tyOf e).bytes ≤ m ∧ ∀ y ∈ l, TyM m k e y
  | .struct fs => ∃ ys : List V, x = .agg (ys.flatMap V.flat) ∧ ys.length = fs.length ∧ ∀ i (h : i < ys.length) (h' : i < fs.length), TyM m k (fs[i]'h').2 (ys[i]'h)
  | _ => False
abbrev TyV : Nat → Nat → V → Prop := TyM reachBytes
theorem TyM.up {m m' : Nat} (hm : m ≤ m') : ∀ (k t : Nat) (x : V), TyM m k t x → TyM m' k t x
 | 0, _, _, h => h.elim
 | k + 1, t, x, h => by
  unfold TyM at h ⊢
  split at h
  ·exact h
  ·exact h
  ·obtain ⟨s, h1, h2⟩ := h; exact ⟨s, h1, Nat.le_trans h2 hm⟩
  ·obtain ⟨l, h1, h2, h3⟩ := h; exact ⟨l, h1, Nat.le_trans h2 hm, fun y hy => TyM.up hm k _ y (h3 y hy)⟩
  ·obtain ⟨ys, h1, h2, h3⟩ := h; exact ⟨ys, h1, h2, fun i a b => TyM.up hm k _ _ (h3 i a b)⟩
  ·exact h
def okW (w : World) : Oks := { ok := fun b _ => b < w.heap.size, next := 0, blk := fun _ => none, cap := fun _ => 0 }
def CR (w : World) (x : V) (cs : List Value) : Prop :=
 x.flat.length = cs.length ∧ ∀ j (h : j < x.flat.length), (x.flat[j]'h).cell = true ∧ ∃ u, cs[j]? = some u ∧ Rep (okW w) w (x.flat[j]'h) u
theorem CR.one {w : World} {x : V} {u : Value} (hx : x.cell = true) (h : Rep (okW w) w x u) : CR w x [u] := by
 have hf := cell_flat hx
 refine ⟨by rw [hf]; rfl, fun j hj => ?_⟩
 have hj0 : j = 0 := by rw [hf] at hj; simpa using hj
 subst hj0
 exact ⟨by simpa [hf] using hx, u, rfl, by simpa [hf] using h⟩
section
variable {P : Program} (hT : tableOf P = T) {H : Type} {enc : TypeId × Value → H}
include hT
theorem cellsOf_ty {t : Nat} (h : known (tyOf t).k = true) : P.cellsOf t = (tyOf t).size := by
 obtain ⟨i, z, hi, hz, hs, _⟩ := ty_info hT (known_ne' h)
 simp [Program.cellsOf, hi, hs]
theorem bytesOf_ty {t : Nat} (h : known (tyOf t).k = true) : P.bytesOf t = (tyOf t).bytes := by
 obtain ⟨i, z, hi, hz, hs, hb, _⟩ := ty_info hT (known_ne' h)
 simp [Program.bytesOf, hi, hb]
theorem good_known {k t : Nat} (h : good k t = true) : known (tyOf t).k = true := by
 cases k with
 | zero => simp [good] at h
 | succ k =>
  unfold good at h
  split at h <;> simp_all [known]
theorem mem_weightsAll {e : Nat} : ∀ {l : List (DataW H)} {d : DataW H} {n : Nat}, d ∈ l → n ∈ d.weights P e → n ∈ DataW.weightsAll P e l
 | x :: r, d, n, hd, hn => by
  unfold DataW.weightsAll
  rcases List.mem_cons.1 hd with rfl | hd
  ·exact List.mem_append_left _ hn
  ·exact List.mem_append_right _ (mem_weightsAll hd hn)
theorem mem_weightsEach : ∀ {ts : List Nat} {l : List (DataW H)} (i : Nat) {t : Nat} {d : DataW H} {n : Nat}, ts[i]? = some t → l[i]? = some d → n ∈ d.weights P t → n ∈ DataW.weightsEach P ts l
 | [], _, i, t, d, n, h, _, _ => by simp at h
 | _ :: _, [], i, t, d, n, _, h, _ => by simp at h
 | t0 :: ts, x :: r, i, t, d, n, h, h2, hn => by
  unfold DataW.weightsEach
  cases i with
  | zero =>
   simp at h h2; subst h; subst h2
   exact List.mem_append_left _ hn
  | succ i => exact List.mem_append_right _ (mem_weightsEach i (by simpa using h) (by simpa using h2) hn)
theorem struct_cells {m : Nat} {w : World} {k : Nat} : ∀ (fs : List (Nat × Nat)) (off size : Nat) (cs : List Value), laidF off fs size = true → cs.length = size → (∀ p ∈ fs, ∃ y, TyM m k p.2 y ∧ CR w y ((cs.drop p.1).take (tyOf p.2).size) ∧ y.flat.length = (tyOf p.2).size) →
  ∃ ys : List V, ys.length = fs.length ∧ (∀ i (h : i < ys.length) (h' : i < fs.length), TyM m k (fs[i]'h').2 (ys[i]'h)) ∧ off + (ys.flatMap V.flat).length = size ∧ ∀ j (h : j < (ys.flatMap V.flat).length), ((ys.flatMap V.flat)[j]'h).cell = true ∧ ∃ u, cs[off + j]? = some u ∧ Rep (okW w) w ((ys.flatMap V.flat)[j]'h) u
 | [], off, size, cs, hl, hs, hf => ⟨[], rfl, by simp, by simpa [laidF] using hl, by simp⟩
 | (o, ft) :: r, off, size, cs, hl, hs, hf => by
  simp only [laidF, Bool.and_eq_true, beq_iff_eq] at hl
  obtain ⟨rfl, hl⟩ := hl
  obtain ⟨y, h1, h2, h3⟩ := hf (o, ft) (by simp)
  replace h3 : y.flat.length = (tyOf ft).size := h3
  obtain ⟨ys, k1, k2, k3, k4⟩ := struct_cells r _ size cs hl hs (fun p hp => hf p (List.mem_cons_of_mem _ hp))
  refine ⟨y :: ys, by simp [k1], fun i hi hi' => ?_, by rw [List.flatMap_cons, List.length_append, h3]; omega, fun j hj => ?_⟩
  ·cases i with
   | zero => exact h1
   | succ i => exact k2 i (by simpa using hi) (by simpa using hi')
  ·have hj2 : j < y.flat.length + (ys.flatMap V.flat).length := by rw [List.flatMap_cons, List.length_append] at hj; exact hj
   simp only [List.flatMap_cons] at hj ⊢
   by_cases hlt : j < y.flat.length
   ·rw [List.getElem_append_left hlt]
    obtain ⟨q1, u, q2, q3⟩ := h2.2 j hlt
    refine ⟨q1, u, ?_, q3⟩
    rw [List.getElem?_take, List.getElem?_drop] at q2
    split at q2
    ·exact q2
    ·cases q2
   ·rw [List.getElem_append_right (by omega)]
    obtain ⟨q1, u, q2, q3⟩ := k4 (j - y.flat.length) (by omega)
    refine ⟨q1, u, ?_, q3⟩
    rw [← q2]; congr 1; omega
theorem read {m : Nat} {w : World} {sp : Nat → Bool} : ∀ (k t : Nat) (cs : List Value) (d : DataW H) (ps : List MemPlace) (fuel : Nat), good k t = true → DataW.trod enc P w 0 sp true fuel t cs = some (d, ps) → (∀ n ∈ d.weights P t, n ≤ m) →
  ∃ x, TyM m k t x ∧ CR w x cs ∧ x.flat.length = (tyOf t).size ∧ (isAggT (tyOf t).k = true → ∃ l, x = .agg l) ∧ (isAggT (tyOf t).k = false → x.cell = true)
 | 0, t, cs, d, ps, fuel, hg, h, hw => by simp [good] at hg
 | k + 1, t, cs, d, ps, fuel, hg, h, hw => by
  unfold TyM
  unfold good at hg
  split at hg
  ·rename_i hk
   rw [hk]
   obtain ⟨b, rfl, _⟩ := DataW.trod_bool (ty_bool hT hk) h
   exact ⟨.bool b, ⟨b, rfl⟩, CR.one rfl (.bool b), by have := eq_of_beq hg; simp [V.flat]; omega, fun h => by simp [isAggT] at h, fun _ => rfl⟩
  ·rename_i kd hk
   rw [hk]
   obtain ⟨n, rfl, _, hwf⟩ := DataW.trod_int (ty_int hT hk) h
   simp only [Lit.wf, Bool.and_eq_true, decide_eq_true_eq] at hwf
   exact ⟨.int kd n, ⟨n, rfl, hwf⟩, CR.one rfl (.int kd n), by have := eq_of_beq hg; simp [V.flat]; omega, fun h => by simp [isAggT] at h, fun _ => rfl⟩
  ·rename_i hk
   rw [hk]
   obtain ⟨s, rfl, hd, _⟩ := DataW.trod_string (ty_str hT hk) h
   cases hd
   refine ⟨.str s.data.toList, ⟨_, rfl, hw _ (by simp [DataW.weights])⟩, CR.one rfl (.str _), by have := eq_of_beq hg; simp [V.flat]; omega, fun h => by simp [isAggT] at h, fun _ => rfl⟩
  ·rename_i e hk
   rw [hk]
   simp only [Bool.and_eq_true, beq_iff_eq] at hg
   obtain ⟨⟨hsz, hge⟩, hz1⟩ := hg
   have hz1 : 1 ≤ (tyOf e).size := Nat.le_of_ble_eq_true hz1
   have hke := good_known hT hge
   have hu := ty_slice hT hk
   rcases DataW.trod_slice hu h with ⟨rfl, hd⟩ | ⟨a, len, cap, elems, rest, n, _, rfl, hd, _, hlc, hcm, hel, helem, _⟩
   ·exact ⟨.slice [], ⟨[], rfl, by simp, by simp⟩, CR.one rfl (rep_nil_slice _ _), by simpa [V.flat] using hsz.symm, fun h => by simp [isAggT] at h, fun _ => rfl⟩
   ·cases hd
    have hcells := cellsOf_ty hT hke
    have hw1 : (elems.length + rest.length) * (tyOf e).bytes ≤ m := by
     have := hw ((elems.length + rest.length) * P.bytesOf e) (by unfold DataW.weights; rw [hu]; simp)
     rwa [bytesOf_ty hT hke] at this
    have hwe : ∀ i (hi : i < elems.length), ∀ q ∈ (elems[i]'hi).1.weights P e, q ≤ m := fun i hi q hm => hw q (by
     unfold DataW.weights; rw [hu]
     simp only [List.mem_cons, List.mem_append]
     exact .inr (.inl (mem_weightsAll hT (List.mem_map_of_mem (List.getElem_mem hi)) hm)))
    have each : ∀ i (hi : i < len), ∃ x us, TyM m k e x ∧ CR w x us ∧ x.flat.length = (tyOf e).size ∧ w.cells? 0 (a.add (i * (tyOf e).size)) (tyOf e).size = some us := by
     intro i hi
     have h1 := helem i hi
     have hi' : i < elems.length := by omega
     rw [List.getElem?_eq_getElem hi', hcells] at h1
     cases hc : w.cells? 0 (a.add (i * (tyOf e).size)) (tyOf e).size with
     | none => rw [hc] at h1; cases h1
     | some us =>
      rw [hc] at h1
      obtain ⟨x, q1, q2, q3, _⟩ := read k e us _ _ _ hge h1 (hwe i hi')
      exact ⟨x, us, q1, q2, q3, rfl⟩
    have hx : ∃ l : List V, l.length = len ∧ ∀ i (hi : i < l.length), ∃ us, TyM m k e (l[i]'hi) ∧ CR w (l[i]'hi) us ∧ (l[i]'hi).flat.length = (tyOf e).size ∧ w.cells? 0 (a.add (i * (tyOf e).size)) (tyOf e).size = some us := by
     refine ⟨List.ofFn fun i : Fin len => (each i.1 i.2).choose, by simp, fun i hi => ?_⟩
     simp only [List.getElem_ofFn]
     exact (each i (by simpa using hi)).choose_spec
    obtain ⟨l, hl, hall⟩ := hx
    refine ⟨.slice l, ⟨l, rfl, ?_, fun y hy => ?_⟩, CR.one rfl ?_, by simpa [V.flat] using hsz.symm, fun h => by simp [isAggT] at h, fun _ => rfl⟩
    ·refine Nat.le_trans (Nat.mul_le_mul_right _ ?_) hw1
     omega
    ·obtain ⟨i, hi, rfl⟩ := List.getElem_of_mem hy
     exact (hall i hi).choose_spec.1
    ·subst hl
     obtain ⟨b, off, spot⟩ := a
     have hspot : 0 < l.length → spot = none := fun hp => by
      obtain ⟨us, _, ⟨q1, q2⟩, q3, q4⟩ := hall 0 hp
      obtain ⟨_, u, q6, _⟩ := q2 0 (by omega)
      obtain ⟨_, _, q9⟩ := World.cells?_some q4
      have h9 := q9 0 (by omega)
      rw [q6] at h9
      have := World.cell?_spot h9
      simpa [Addr.add] using this
     have hcell : ∀ i (hi : i < l.length) j, j < (tyOf e).size → ∃ u, spot = none ∧ w.cell? ⟨b, off + (i * (tyOf e).size + j), none⟩ = some u ∧ ∃ hj : j < (l[i]'hi).flat.length, ((l[i]'hi).flat[j]'hj).cell = true ∧ Rep (okW w) w ((l[i]'hi).flat[j]'hj) u := by
      intro i hi j hj
      obtain ⟨us, _, ⟨q1, q2⟩, q3, q4⟩ := hall i hi
      obtain ⟨q5, u, q6, q7⟩ := q2 j (by omega)
      obtain ⟨_, q8, q9⟩ := World.cells?_some q4
      have hs := hspot (by omega)
      subst hs
      have h9 := q9 j hj
      rw [q6, add_plain, add_plain, Nat.add_assoc] at h9
      exact ⟨u, rfl, h9, by omega, q5, q7⟩
     refine .slice l (some ⟨b, off, spot⟩) cap (tyOf e).size (fun i j => (w.cell? ⟨b, off + (i * (tyOf e).size + j), none⟩).getD undef) hlc hcm (fun hp => ?_) (fun i hi => (hall i hi).choose_spec.2.2.1) (fun i hi j hj => ?_) (fun i hi j hj => ?_)
     ·obtain ⟨u, hsp, _⟩ := hcell 0 hp 0 hz1
      subst hsp
      refine ⟨b, off, rfl, fun i j hi hj => ?_⟩
      obtain ⟨u, _, hu, _⟩ := hcell i hi j hj
      exact ⟨(cell_lt hu : b < w.heap.size), by simp [hu]⟩
     ·have h3 := (hall i hi).choose_spec.2.2.1
      obtain ⟨_, _, _, hj', h4, _⟩ := hcell i hi j (by omega)
      exact h4
     ·have h3 := (hall i hi).choose_spec.2.2.1
      obtain ⟨u, _, hu, hj', _, h4⟩ := hcell i hi j (by omega)
      simp only [hu, Option.getD_some]
      exact h4
  ·rename_i fs hk
   rw [hk]
   simp only [Bool.and_eq_true] at hg
   obtain ⟨hgf, hlf⟩ := hg
   obtain ⟨fields, hu, hfs⟩ := ty_struct hT hk
   obtain ⟨xs, n, _, hd, hcl, hxl, hf⟩ := DataW.trod_struct hu h
   cases hd
   have hkn : known (tyOf t).k = true := by rw [hk]; rfl
   rw [cellsOf_ty hT hkn] at hcl
   have hper : ∀ p ∈ fs, ∃ y, TyM m k p.2 y ∧ CR w y ((cs.drop p.1).take (tyOf p.2).size) ∧ y.flat.length = (tyOf p.2).size := by
    intro p hp
    have hgp := List.all_eq_true.1 hgf p hp
    subst hfs
    obtain ⟨f, hfm, rfl⟩ := List.mem_map.1 hp
    obtain ⟨i, hi, rfl⟩ := List.getElem_of_mem hfm
    have hi' : i < fields.size := by simpa using hi
    have h1 := hf i fields[i] (Array.getElem?_eq_getElem hi')
    have hix : i < xs.length := by omega
    have hgp' : good k fields[i].type = true := hgp
    rw [List.getElem?_eq_getElem hix, cellsOf_ty hT (good_known hT hgp')] at h1
    obtain ⟨y, q1, q2, q3, _⟩ := read k _ _ _ _ _ hgp' h1 (fun q hm => hw q (by
     unfold DataW.weights; rw [hu]
     exact mem_weightsEach hT i (t := fields[i].type) (d := (xs[i]'hix).1) (by simp [hi']) (by simp [hix]) hm))
    exact ⟨y, q1, q2, q3⟩
   obtain ⟨ys, k1, k2, k3, k4⟩ := struct_cells hT fs 0 (tyOf t).size cs hlf hcl hper
   refine ⟨.agg (ys.flatMap V.flat), ⟨ys, rfl, k1, k2⟩, ⟨by simp only [V.flat]; omega, fun j hj => ?_⟩, by simp only [V.flat]; omega, fun _ => ⟨_, rfl⟩, fun h => by simp [isAggT] at h⟩
   obtain ⟨g1, u, g2, g3⟩ := k4 j hj
   rw [Nat.zero_add] at g2
   exact ⟨g1, u, g2, g3⟩
  ·cases hg
end
end Go.Proofs.YthioccbgjkbmdaaGreat.AM
