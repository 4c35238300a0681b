/-
  The abstract machine, part 23: a function's contract out of its body.
-/
import Derived.Test.YtinckcpmkocakaaAmW
set_option linter.unusedVariables false
set_option linter.unusedSimpArgs false
set_option linter.unusedSectionVars false
namespace Go.Proofs.Ytinckcpmkocakaa.AM
open Go Go.RowKit
variable {P : Program} (hT : tableOf P = T)
include hT

theorem run_loadVar_of {t : Nat} {ad : Addr} {w : World} {v : Value} (h : (Instr.loadAt t (.pointer (some ad))).run P w = .ok v w) : (loadVar t ad).run P w = .ok v w := by
  simpa [Instr.loadAt, Instr.sureAddr] using h

theorem res_cell {G : Gh} {E : Env} {ok : Oks} {S : St} {a : Act} {w : World} (c : Conc G E ok S a w) {x : Tmp} {t : TypeId} {l l' : List D} (hkn : known (tyOf t).k = true)
    (h : (match S.get x with
      | .ptr id 0 => match look S.ob id with
        | some (.box cs) => match isAggT (tyOf t).k with
          | true => if (tyOf t).size = cs.length then some (.agg cs :: l) else none
          | false => match cs with
            | [d] => some (d :: l)
            | _ => none
        | some (.cbox cs) => match isAggT (tyOf t).k with
          | true => if (tyOf t).size = cs.length then some (.v (.agg cs) :: l) else none
          | false => match cs with
            | [x] => some (.v x :: l)
            | _ => none
        | some (.row 1 cs _) => match (tyOf t).k with
          | .arr n _ => if (tyOf t).size = n then if cs.length = n then if cs.all V.cell then some (.v (.agg cs) :: l) else none else none else none
          | _ => none
        | _ => none
      | _ => none) = some l') : ∃ d v, l' = d :: l ∧ (do loadVar t (← asAddr (a.tmps.getD x undef)) : Sem Value).run P w = .ok v w ∧ RepD E ok w d v := by
  have hx := c.slot x
  split at h
  · rename_i id hax
    rw [hax] at hx
    obtain ⟨b, hb, he⟩ := repD_ptr hx
    have fin : ∀ {v}, (Instr.loadAt t (.pointer (some ⟨b, 0, none⟩))).run P w = .ok v w → (do loadVar t (← asAddr (a.tmps.getD x undef)) : Sem Value).run P w = .ok v w := fun hr => by
      simp only [he, asAddr, Sem.run_bind, Sem.run_pure, Result.andThen_ok]; exact run_loadVar_of hT hr
    split at h
    · rename_i cs hl
      obtain ⟨b', e, us, h1, h2, h3, h4, h5⟩ := c.obj _ _ hl
      rw [h1] at hb; cases hb
      split at h
      · rename_i hk
        split at h
        · rename_i hsz
          cases h
          have hus : us.toList.length = cs.length := by simpa using h3
          refine ⟨_, .agg us.toList.toArray, rfl, fin (run_load_agg hT hk (by omega) (fun j hj => by
            rw [cell_of_heap h2, Nat.zero_add]; simp at hj ⊢)), .agg _ _ hus (fun u hu => ?_) (fun j hj hj' => ?_)⟩
          · obtain ⟨j, hj, rfl⟩ := List.getElem_of_mem hu
            obtain ⟨u, q1, q2, _⟩ := h5 j (by omega)
            simp at hj
            rw [Array.getElem?_eq_getElem hj] at q1
            cases q1; simpa using q2
          · obtain ⟨u, q1, _, q3⟩ := h5 j hj
            simp at hj'
            rw [Array.getElem?_eq_getElem hj'] at q1
            cases q1; simpa using q3
        · cases h
      · rename_i hk
        split at h
        · rename_i d
          cases h
          obtain ⟨u, q1, _, q3⟩ := h5 0 (by simp)
          exact ⟨_, u, rfl, fin (run_load_cell hT hk hkn (by rw [cell_of_heap h2, q1])), q3⟩
        · cases h
    · rename_i cs hl
      obtain ⟨b', h1, _, h2, h3⟩ := c.obj _ _ hl
      rw [h1] at hb; cases hb
      split at h
      · rename_i hk
        split at h
        · rename_i hsz
          cases h
          refine ⟨_, .agg ((List.range cs.length).map fun j => (w.cell? ⟨b, j, none⟩).getD undef).toArray, rfl, fin (run_load_agg hT hk (by simpa using hsz) (fun j hj => ?_)), .v _ _ (.agg _ _ (by simp) h2 (fun j hj hj' => ?_))⟩
          · simp at hj
            obtain ⟨_, u, hu, _⟩ := h3 j hj
            simp [hu]
          · obtain ⟨_, u, hu, hr⟩ := h3 j hj
            simp only [List.getElem_map, List.getElem_range, hu, Option.getD_some]
            exact hr
        · cases h
      · rename_i hk
        split at h
        · rename_i y
          cases h
          obtain ⟨_, u, hu, hr⟩ := h3 0 (by simp)
          exact ⟨_, u, rfl, fin (run_load_cell hT hk hkn hu), .v _ _ hr⟩
        · cases h
    · rename_i cs ex hl
      split at h
      · rename_i n e hk
        split at h
        · rename_i hsz
          split at h
          · rename_i hlen
            split at h
            · rename_i hcl
              cases h
              have hcl' : ∀ j (hj : j < cs.length), (cs[j]'hj).cell = true := fun j hj => List.all_eq_true.1 hcl _ (List.getElem_mem hj)
              rcases c.obj _ _ hl with ⟨_, h1, _⟩ | ⟨b', cap, us, e', h1, h2, h3, h4, h5, h6, h7, h8⟩
              · rw [h1] at hb; cases hb
              rw [h1] at hb; cases hb
              have hget : ∀ j (hj : j < cs.length), ∃ u, w.cell? ⟨b, j, none⟩ = some u ∧ Rep ok w (cs[j]'hj) u := by
                intro j hj
                have hf := cell_flat (hcl' j hj)
                obtain ⟨u, hu, hr⟩ := h7.hr j hj 0 (by rw [hf]; simp)
                simp at hu
                exact ⟨u, hu, by simpa [hf] using hr⟩
              refine ⟨_, .agg ((List.range cs.length).map fun j => (w.cell? ⟨b, j, none⟩).getD undef).toArray, rfl, fin (run_load_agg hT (by rw [hk]; rfl) (by simp; omega) (fun j hj => ?_)), .v _ _ (.agg _ _ (by simp) hcl' (fun j hj hj' => ?_))⟩
              · simp at hj
                obtain ⟨u, hu, _⟩ := hget j hj
                simp [hu]
              · obtain ⟨u, hu, hr⟩ := hget j hj
                simp only [List.getElem_map, List.getElem_range, hu, Option.getD_some]
                exact hr
            · cases h
          · cases h
        · cases h
      · cases h
    · cases h
  · cases h

theorem res_run {G : Gh} {E : Env} {ok : Oks} {S : St} {a : Act} {w : World} (c : Conc G E ok S a w) : ∀ (res : List ResultVar) (ds : List D), resultsD S res = some ds →
    ∃ us : List Value, us.length = ds.length ∧ (res.mapM (fun | .tmp t => pure (a.tmps.getD t undef) | .cell x t => do loadVar t (← asAddr (a.tmps.getD x undef))) : Sem (List Value)).run P w = Result.ok us w ∧ ∀ i (h : i < ds.length) (h' : i < us.length), RepD E ok w (ds[i]'h) (us[i]'h')
  | [], ds, h => by cases h; exact ⟨[], rfl, rfl, by simp⟩
  | .tmp t :: r, ds, h => by
    unfold resultsD at h
    split at h
    · rename_i l hl
      cases h
      obtain ⟨us, h1, h2, h3⟩ := res_run c r l hl
      refine ⟨a.tmps.getD t undef :: us, by simp [h1], by simp only [List.mapM_cons, Sem.run_bind, Sem.run_pure, Result.andThen_ok, h2], fun i hi hi' => ?_⟩
      cases i with
      | zero => exact c.slot t
      | succ i => exact h3 i (by simpa using hi) (by simpa using hi')
    · cases h
  | .cell x t :: r, ds, h => by
    unfold resultsD at h
    split at h
    · rename_i l hl
      split at h
      · cases h
      · rename_i hkn
        obtain ⟨us, h1, h2, h3⟩ := res_run c r l hl
        obtain ⟨d, v, rfl, hr, hrep⟩ := res_cell hT c (by simpa using hkn) h
        refine ⟨v :: us, by simp [h1], by simp only [List.mapM_cons]; rw [Sem.run_bind, hr, Result.andThen_ok, Sem.run_bind, h2, Result.andThen_ok, Sem.run_pure], fun i hi hi' => ?_⟩
        cases i with
        | zero => exact hrep
        | succ i => exact h3 i (by simpa using hi) (by simpa using hi')
    · cases h

/-- Results as the contract tells them. -/
theorem rs_of {G : Gh} {E : Env} {ok : Oks} {S : St} {a : Act} {w : World} (c : Conc G E ok S a w) (hM : ∀ b, ¬ G.M b) : ∀ (seen : List Nat) (ds : List D) (rs : List Rs) (us : List Value), rsOk S.ob seen ds rs → us.length = ds.length → (∀ i (h : i < ds.length) (h' : i < us.length), RepD E ok w (ds[i]'h) (us[i]'h')) →
    ∃ gs : List (Option Nat), us.length = rs.length ∧ gs.length = rs.length ∧ (∀ i (h : i < rs.length) (h' : i < us.length) (h'' : i < gs.length), RsRep G.w0.heap.size ok w (rs[i]'h) (us[i]'h') (gs[i]'h'')) ∧
      (∀ i b : Nat, gs[i]? = some (some b) → ∃ id o, seen.contains id = false ∧ look S.ob id = some o ∧ E.blk id = some b) ∧ ∀ (i j b : Nat), gs[i]? = some (some b) → gs[j]? = some (some b) → i = j
  | seen, [], [], us, h, hl, hr => by
    have : us = [] := List.eq_nil_of_length_eq_zero (by simpa using hl)
    subst this
    exact ⟨[], rfl, rfl, by simp, by simp, by simp⟩
  | seen, d :: ds, .v x :: rs, us, h, hl, hr => by
    obtain ⟨h1, h2⟩ : toV S.ob d = some x ∧ rsOk S.ob seen ds rs := by
      cases d <;> exact h
    cases us with
    | nil => simp at hl
    | cons u us =>
      obtain ⟨gs, q1, q2, q3, q4, q5⟩ := rs_of c hM seen ds rs us h2 (by simpa using hl) (fun i hi hi' => hr (i + 1) (by simpa using hi) (by simpa using hi'))
      refine ⟨none :: gs, by simp [q1], by simp [q2], fun i hi hi' hi'' => ?_, fun i b hb => ?_, fun i j b hi hj => ?_⟩
      · cases i with
        | zero => exact ⟨rfl, toV_sound c.obj _ _ _ h1 (hr 0 (by simp) (by simp))⟩
        | succ i => exact q3 i (by simpa using hi) (by simpa using hi') (by simpa using hi'')
      · cases i with
        | zero => simp at hb
        | succ i => exact q4 i b (by simpa using hb)
      · cases i with
        | zero => simp at hi
        | succ i => cases j with
          | zero => simp at hj
          | succ j => rw [q5 i j b (by simpa using hi) (by simpa using hj)]
  | seen, .own id :: ds, .o z l :: rs, us, h, hl, hr => by
    obtain ⟨h0, h1, h2⟩ := h
    cases us with
    | nil => simp at hl
    | cons u us =>
      obtain ⟨gs, q1, q2, q3, q4, q5⟩ := rs_of c hM (id :: seen) ds rs us h2 (by simpa using hl) (fun i hi hi' => hr (i + 1) (by simpa using hi) (by simpa using hi'))
      have hu := repD_own (hr 0 (by simp) (by simp))
      simp only [List.getElem_cons_zero] at hu
      refine ⟨E.blk id :: gs, by simp [q1], by simp [q2], fun i hi hi' hi'' => ?_, fun i b hb => ?_, fun i j b hi hj => ?_⟩
      · cases i with
        | zero =>
          simp only [List.getElem_cons_zero]
          rw [hu]
          rcases c.obj _ _ h1 with h3 | ⟨b, cap, cs, e, h1', h2', h3, h4, h5, h6, h7, h8⟩
          · exact .inl h3
          · refine .inr ⟨b, cap, cs, e, h1', ?_, h2', h3, h4, h5, h6, h7, fun o q => by have := (h8 o).1 q; simp at this⟩
            rcases c.reg _ _ _ h1 h1' with q | q
            · exact q
            · exact absurd q (hM b)
        | succ i => exact q3 i (by simpa using hi) (by simpa using hi') (by simpa using hi'')
      · cases i with
        | zero => exact ⟨id, _, h0, h1, by simpa using hb⟩
        | succ i =>
          obtain ⟨id', o, k1, k2, k3⟩ := q4 i b (by simpa using hb)
          exact ⟨id', o, by simp at k1 ⊢; exact k1.2, k2, k3⟩
      · have clash : ∀ k b : Nat, gs[k]? = some (some b) → E.blk id = some b → False := fun k b hk hb => by
          obtain ⟨id', o, k1, k2, k3⟩ := q4 k b hk
          exact c.apart id id' _ _ b h1 k2 (fun e => by simp [e] at k1) hb k3
        cases i with
        | zero => cases j with
          | zero => rfl
          | succ j => exact (clash j b (by simpa using hj) (by simpa using hi)).elim
        | succ i => cases j with
          | zero => exact (clash i b (by simpa using hi) (by simpa using hj)).elim
          | succ j => rw [q5 i j b (by simpa using hi) (by simpa using hj)]
  | seen, [], _ :: _, us, h, hl, hr => h.elim
  | seen, _ :: _, [], us, h, hl, hr => by cases seen <;> exact h.elim

theorem look_slots (xs : List V) : ∀ (k t : Nat), look (slotsOf k xs) t = if k ≤ t then (xs[t - k]?).map D.v else none := by
  induction xs with
  | nil => intro k t; simp [slotsOf, look]
  | cons x r ih =>
    intro k t
    simp only [slotsOf, look]
    by_cases h : k = t
    · subst h; simp
    · rw [if_neg h, ih]
      by_cases h2 : k ≤ t
      · rw [if_pos (by omega), if_pos h2, show t - k = (t - (k + 1)) + 1 from by omega, List.getElem?_cons_succ]
      · rw [if_neg (by omega), if_neg h2]
theorem conc_init {E : Env} {ok : Oks} {w : World} {vs : List Value} {xs : List V} {n : Nat} (hok : ∀ b o, ok b o → b < w.heap.size) (hl : vs.length = xs.length) (hn : xs.length ≤ n) (hr : ∀ i (h : i < xs.length) (h' : i < vs.length), Rep ok w (xs[i]'h) (vs[i]'h')) :
    Conc ⟨w, fun _ => False, ok⟩ E ok (initSt n xs) { tmps := vs.toArray ++ Array.replicate (n - vs.toArray.size) undef, defers := [] } w where
  n := by
    show (vs.toArray ++ Array.replicate (n - vs.toArray.size) undef).size = n
    simp; omega
  defers := rfl
  slot t := by
    show RepD E ok w (St.get (initSt n xs) t) ((vs.toArray ++ Array.replicate (n - vs.toArray.size) undef).getD t undef)
    simp only [initSt, St.get, look_slots hT, Nat.zero_le, if_true, Nat.sub_zero]
    by_cases h : t < xs.length
    · rw [List.getElem?_eq_getElem h]
      have h' : t < vs.length := by omega
      have : (vs.toArray ++ Array.replicate (n - vs.toArray.size) undef).getD t undef = vs[t]'h' := by
        rw [Array.getD_eq_getD_getElem?, Array.getElem?_append_left (by simpa using h')]
        simp [h']
      rw [this]
      exact .v _ _ (hr t h h')
    · rw [List.getElem?_eq_none (by omega)]
      exact .any _
  obj id o h := by simp [initSt, look] at h
  apart i j o p b h := by simp [initSt, look] at h
  reg i o b h := by simp [initSt, look] at h
  okb := hok
  sub _ _ h := h
  newk _ _ h := .inl h
  os := rfl
  tape := rfl
  output := rfl
  size := Nat.le_refl _
  old _ _ _ := rfl

theorem FnR.of (hM : P.follows .mixedOrders = true) {f : Nat} {fn : Func} {cd : Code} {xs : List V} {rs : List Rs} (hf : P.funcs[f]? = some fn) (hb : fn.body = some cd) (hname : (fn.name == "runtime.NumGoroutine") = false) (hn : xs.length ≤ fn.ntmps) (h : bodyWp (std P (retOk rs)) cd fn.results.toList (initSt fn.ntmps xs)) : FnR P f xs rs := by
  refine ⟨⟨fn, hf, by simp [hb], hname⟩, fun w ok vs hok hl hr => ?_⟩
  have c0 := conc_init hT (E := ⟨fun _ => none, fun _ => none, fun _ => 0, fun _ => 0⟩) hok hl hn hr
  refine calls_of_wp hf hb (wp_mono (w_sound hT hM cd _ c0 h) fun e a w' q => ?_)
  have fin : After ⟨w, fun _ => False, ok⟩ (fun S => match resultsD S fn.results.toList with
      | some l => (std P (retOk rs)).ret S.ob l
      | none => False) a w' → a.defers = [] ∧ ∃ v, (results fn a.tmps).run P w' = .ok v w' ∧ ∃ (us : List Value) (gs : List (Option Nat)) (ok' : Oks), Ending.returned v = .returned (retVal us) ∧ Below w.heap.size w w' ∧ (∀ b o, ok b o → ok' b o) ∧
      (∀ b o, ok' b o → ok b o ∨ (w.heap.size ≤ b ∧ b < w'.heap.size)) ∧ us.length = rs.length ∧ gs.length = rs.length ∧
      (∀ i (h : i < rs.length) (h' : i < us.length) (h'' : i < gs.length), RsRep w.heap.size ok' w' (rs[i]'h) (us[i]'h') (gs[i]'h'')) ∧
      (∀ (i j b : Nat), gs[i]? = some (some b) → gs[j]? = some (some b) → i = j) := by
    rintro ⟨E, ok1, S, hS, c⟩
    refine ⟨c.defers, ?_⟩
    split at hS
    · rename_i ds hds
      obtain ⟨us, h1, h2, h3⟩ := res_run hT c _ _ hds
      obtain ⟨ok2, k1, c2⟩ := c.softOb' (retIds ds rs)
      have hs : Same ok1 ok2 w' w' := ⟨k1, fun _ _ _ => rfl⟩
      obtain ⟨gs, g1, g2, g3, _, g5⟩ := rs_of hT c2 (fun _ h => h) [] ds rs us hS h1 (fun i hi hi' => (h3 i hi hi').mono hs)
      refine ⟨retVal us, ?_, us, gs, ok2, rfl, ?_, ?_, ?_, g1, g2, g3, g5⟩
      · simp only [results]
        rw [Array.mapM_eq_mapM_toList, Sem.run_bind, Sem.run_map]
        refine (congrArg (fun r : Result (List Value) => Result.andThen (Result.andThen r fun l w' => Result.ok l.toArray w') fun (x : Array Value) w' => Sem.run P (pure (if h : x.size = 1 then x[0] else Value.tuple x)) w') h2).trans ?_
        simp only [Result.andThen_ok, Sem.run_pure]
        match us with
        | [] => rfl
        | [u] => rfl
        | _ :: _ :: _ => rfl
      · exact ⟨c.os, c.tape, c.output, c.size, fun b hb => c.old b hb (fun h => h)⟩
      · exact fun b o q => k1 _ _ (c.sub b o q)
      · exact fun b o q => (c2.newk b o q).imp (fun h => h) fun h => ⟨h.elim (fun h => h) False.elim, c2.okb _ _ q⟩
    · exact hS.elim
  cases e with
  | normal => exact fin q
  | ret => exact fin q
  | exit id => obtain ⟨E, ok1, S, hS, c⟩ := q; exact hS.elim
  | goto l => exact q.elim
  | panic ch => exact q.elim
  | outgrown => exact q.elim
end Go.Proofs.Ytinckcpmkocakaa.AM
namespace Go.Proofs.Ytinckcpmkocakaa.AM
open Go Go.RowKit
theorem FnR.of' {P : Program} (hT : tableOf P = T) (hM : P.follows .mixedOrders = true) {f n : Nat} {fn : Func} {cd : Code} {res : List ResultVar} {xs : List V} {rs : List Rs} (hf : P.funcs[f]? = some fn) (hb : fn.body = some cd) (hres : fn.results.toList = res) (hn : fn.ntmps = n) (hname : (fn.name == "runtime.NumGoroutine") = false) (hle : xs.length ≤ n)
    (h : ∀ A, A = std P (retOk rs) → bodyWp A cd res (initSt n xs)) : FnR P f xs rs := by
  subst hres hn
  exact FnR.of hT hM hf hb hname hle (h _ rfl)
theorem M_ok : Try.prog.follows .mixedOrders = true := by kernel_rfl
end Go.Proofs.Ytinckcpmkocakaa.AM
