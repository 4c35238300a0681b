/-
  The abstract machine, part 21i: a region in any order: one operation runs.
-/
import Derived.Test.YtinckcpmkocakaaM1362cfe0a3
set_option linter.unusedVariables false
set_option linter.unusedSimpArgs false
set_option linter.unusedSectionVars false
namespace Go.Proofs.Ytinckcpmkocakaa.AM
open Go Go.RowKit
section
variable {P : Program} {R : List (Nat × AObj) → List D → Prop} {ops : List Oper} {anc : List (Nat × Nat)} {π1 π2 : List Nat} {k : Nat} {es1 es2 : List Eff} {e : Eff} {S0 : St} {J : Nat → Bool} {o : Oper} {W W1 W2 : Wat}

theorem meets_of {o p : Oper} {t : Nat} (h : (o.dst = some t ∧ (p.dst = some t ∨ t ∈ looks ops p)) ∨ (p.dst = some t ∧ t ∈ looks ops o)) : meets ops o p = true := by
  unfold meets
  rcases h with ⟨h1, h2⟩ | ⟨h1, h2⟩
  · rw [h1]
    rcases h2 with h2 | h2
    · simp [h2]
    · simp [h2]
  · rw [h1]; simp [h2]

/-- A slot that the operation looks at, in the state of those that have run. -/
theorem At.slot (h : At ops anc π1 π2 k J o) (hl : es1.length = π1.length) (tr : TrOk P R ops anc W (π1 ++ k :: π2) S0 (es1 ++ e :: es2)) {t : Nat} (ht : t ∈ looks ops o)
    (hm : ∀ i ∈ π2, J i = true → ∀ p, ops[i]? = some p → loud p.op = true → noMent (killOf p) ((foldE es1 S0).get t) = true) : (sel J ((π1 ++ k :: π2).zip (es1 ++ e :: es2)) S0).get t = (foldE es1 S0).get t := by
  rw [zip_split hl, sel_append, sel_cons, if_neg (by simp [h.not])]
  have mem := trOk_mem _ _ _ _ tr
  rw [zip_split hl] at mem
  have e1 : (sel J (π1.zip es1) S0).get t = (foldE es1 S0).get t := by
    rw [← sel_true π1 es1 S0 hl]
    refine sel_skip J _ rfl rfl fun p hp hj => ?_
    obtain ⟨hin, o', q1, q2, q3, q4⟩ := mem p (List.mem_append_left _ hp)
    have hp1 : p.1 ∈ π1 := (List.of_mem_zip hp).1
    have hnl : loud o'.op = false := by
      cases hb : loud o'.op with
      | false => rfl
      | true => have := h.loudFront hp1 q1 hb; rw [hj] at this; cases this
    obtain ⟨d, hd⟩ := q4 hnl
    refine ⟨_, d, hd, fun hdt => ?_⟩
    have hne : k ≠ p.1 := fun q => by rw [← q] at hp1; exact h.ne.1 hp1
    have := h.plan.meet k p.1 o o' hne h.op q1 (meets_of (.inr ⟨hdt, ht⟩))
    obtain ⟨f1, f2⟩ := h.front hp1 hj
    rw [f1, f2] at this
    simp at this
  rw [sel_behind J _ _ ?_, e1]
  intro p hp hj
  obtain ⟨hin, o', q1, q2, q3, q4⟩ := mem p (List.mem_append_right _ (List.mem_cons_of_mem _ hp))
  have hp2 : p.1 ∈ π2 := (List.of_mem_zip hp).1
  rw [e1]
  constructor
  · rw [q2]
    intro hdt
    have hne : k ≠ p.1 := fun q => by rw [← q] at hp2; exact h.ne.2.1 hp2
    have := h.plan.meet k p.1 o o' hne h.op q1 (meets_of (.inr ⟨hdt, ht⟩))
    obtain ⟨f1, f2⟩ := h.behind hp2 hj
    rw [f1, f2] at this
    simp at this
  · cases hb : loud o'.op with
    | true => exact noMent_sub (hm _ hp2 hj o' q1 hb) q3
    | false =>
      obtain ⟨d, hd⟩ := q4 hb
      rw [hd]; rfl
theorem At.obFront (h : At ops anc π1 π2 k J o) (hl : es1.length = π1.length) (tr : TrOk P R ops anc W (π1 ++ k :: π2) S0 (es1 ++ e :: es2)) : (sel J (π1.zip es1) S0).ob = (foldE es1 S0).ob := by
  have mem := trOk_mem _ _ _ _ tr
  rw [zip_split hl] at mem
  rw [← sel_true π1 es1 S0 hl]
  refine sel_skip_ob J _ rfl fun p hp hj => ?_
  obtain ⟨hin, o', q1, q2, q3, q4⟩ := mem p (List.mem_append_left _ hp)
  have hp1 : p.1 ∈ π1 := (List.of_mem_zip hp).1
  have hnl : loud o'.op = false := by
    cases hb : loud o'.op with
    | false => rfl
    | true => have := h.loudFront hp1 q1 hb; rw [hj] at this; cases this
  obtain ⟨d, hd⟩ := q4 hnl
  exact ⟨_, d, hd⟩
/-- What is watched is as it was. -/
theorem At.watch (h : At ops anc π1 π2 k J o) (hl : es1.length = π1.length) (tr : TrOk P R ops anc W (π1 ++ k :: π2) S0 (es1 ++ e :: es2)) {d : D} (he : e = .q o.dst d) (tr2 : TrOk P R ops anc W2 π2 (e.app (foldE es1 S0)) es2) {U : List Nat} (hU : (k, U) ∈ W2) : ∀ id ∈ U, look (sel J ((π1 ++ k :: π2).zip (es1 ++ e :: es2)) S0).ob id = look (foldE es1 S0).ob id := by
  intro id hid
  rw [zip_split hl, sel_append, sel_cons, if_neg (by simp [h.not])]
  have e1 : (e.app (foldE es1 S0)).ob = (foldE es1 S0).ob := by rw [he]; exact ob_app_q _ _ _
  rw [watch_ob W2 π2 _ es2 _ tr2 ((h.obFront hl tr).trans e1.symm) hU (fun i hi hj => (h.behind hi hj).2) (fun a i b hab p hp hlp hj j hjb q hq hlq => ?_) id hid, e1]
  cases hjj : J j with
  | false => rfl
  | true =>
    exfalso
    have hlt := (List.getElem?_eq_some_iff.1 hq).1
    obtain ⟨o', q1, _, q3⟩ := h.plan.pos (π1 ++ k :: a) i b (by rw [hab]; simp)
    rw [hp] at q1; cases q1
    have hb := q3 hlp j hjb
    have := anc_in h.plan.anc (J := fun i => J i = true) h.closed j _ (List.getElem?_eq_getElem hlt) (fun e he hb => h.closed j _ hjj (List.getElem?_eq_getElem hlt) e he hb) i hb
    rw [hj] at this; cases this
theorem At.ob (h : At ops anc π1 π2 k J o) (hl : es1.length = π1.length) (tr : TrOk P R ops anc W (π1 ++ k :: π2) S0 (es1 ++ e :: es2))
    (hm : ∀ i ∈ π2, J i = true → ∀ p, ops[i]? = some p → loud p.op = true → False) : (sel J ((π1 ++ k :: π2).zip (es1 ++ e :: es2)) S0).ob = (foldE es1 S0).ob := by
  rw [zip_split hl, sel_append, sel_cons, if_neg (by simp [h.not])]
  have mem := trOk_mem _ _ _ _ tr
  rw [zip_split hl] at mem
  rw [sel_behind_ob J _ _ ?_, ← sel_true π1 es1 S0 hl]
  · refine sel_skip_ob J _ rfl fun p hp hj => ?_
    obtain ⟨hin, o', q1, q2, q3, q4⟩ := mem p (List.mem_append_left _ hp)
    have hp1 : p.1 ∈ π1 := (List.of_mem_zip hp).1
    have hnl : loud o'.op = false := by
      cases hb : loud o'.op with
      | false => rfl
      | true => have := h.loudFront hp1 q1 hb; rw [hj] at this; cases this
    obtain ⟨d, hd⟩ := q4 hnl
    exact ⟨_, d, hd⟩
  · intro p hp hj
    obtain ⟨hin, o', q1, q2, q3, q4⟩ := mem p (List.mem_append_right _ (List.mem_cons_of_mem _ hp))
    have hp2 : p.1 ∈ π2 := (List.of_mem_zip hp).1
    cases hb : loud o'.op with
    | true => exact (hm _ hp2 hj o' q1 hb).elim
    | false =>
      obtain ⟨d, hd⟩ := q4 hb
      exact ⟨_, d, hd⟩
def addJ (J : Nat → Bool) (k : Nat) : Nat → Bool := fun i => i == k || J i
theorem sel_none (J : Nat → Bool) : ∀ (L : List (Nat × Eff)) (S : St), (∀ p ∈ L, J p.1 = false) → sel J L S = S
  | [], S, _ => rfl
  | p :: L, S, h => by
    rw [sel_cons, if_neg (by simp [h p (by simp)])]
    exact sel_none J L S fun q hq => h q (List.mem_cons_of_mem _ hq)
/-- With one more: his effect comes last. -/
theorem At.add (h : At ops anc π1 π2 k J o) (hl : es1.length = π1.length) (tr : TrOk P R ops anc W (π1 ++ k :: π2) S0 (es1 ++ e :: es2)) {S : St} (hop : OpOk P R ops anc k π2 W1 W2 o S e) :
    Eqv (sel (addJ J k) ((π1 ++ k :: π2).zip (es1 ++ e :: es2)) S0) (e.app (sel J ((π1 ++ k :: π2).zip (es1 ++ e :: es2)) S0)) := by
  have mem := trOk_mem _ _ _ _ tr
  rw [zip_split hl] at mem ⊢
  rw [sel_append, sel_append, sel_cons, sel_cons, if_pos (by simp [addJ]), if_neg (by simp [h.not])]
  have c1 : sel (addJ J k) (π1.zip es1) S0 = sel J (π1.zip es1) S0 := sel_congr _ _ fun p hp => by
    have hp1 : p.1 ∈ π1 := (List.of_mem_zip hp).1
    have : p.1 ≠ k := fun q => h.ne.1 (q ▸ hp1)
    simp [addJ, this]
  have c2 : ∀ X, sel (addJ J k) (π2.zip es2) X = sel J (π2.zip es2) X := fun X => sel_congr _ _ fun p hp => by
    have hp2 : p.1 ∈ π2 := (List.of_mem_zip hp).1
    have : p.1 ≠ k := fun q => h.ne.2.1 (q ▸ hp2)
    simp [addJ, this]
  rw [c1, c2]
  have hdst := (opOk_eff hop).1
  have quiet : ∀ d, e = .q o.dst d → (∀ i ∈ π2, J i = true → ∀ p, ops[i]? = some p → loud p.op = true → noMent (killOf p) d = true) → Eqv (sel J (π2.zip es2) (e.app (sel J (π1.zip es1) S0))) (e.app (sel J (π2.zip es2) (sel J (π1.zip es1) S0))) := by
    intro d he hno
    rw [he]
    refine sel_comm J _ _ fun p hp hj => ?_
    obtain ⟨hin, o', q1, q2, q3, q4⟩ := mem p (List.mem_append_right _ (List.mem_cons_of_mem _ hp))
    have hp2 : p.1 ∈ π2 := (List.of_mem_zip hp).1
    have hne : k ≠ p.1 := fun q => by rw [← q] at hp2; exact h.ne.2.1 hp2
    constructor
    · intro t ht hdt
      rw [q2] at hdt
      have := h.plan.meet k p.1 o o' hne h.op q1 (meets_of (.inl ⟨ht, .inl hdt⟩))
      obtain ⟨f1, f2⟩ := h.behind hp2 hj
      rw [f1, f2] at this
      simp at this
    · cases hb : loud o'.op with
      | true => exact noMent_sub (hno _ hp2 hj o' q1 hb) q3
      | false =>
        obtain ⟨d', hd⟩ := q4 hb
        rw [hd]; rfl
  obtain ⟨run, _, h0, h1⟩ := hop
  cases run with
  | false => exact quiet _ (h0 rfl) fun i hi hj p hp hlp => by simp [noMent, mentions]
  | true =>
    rcases h1 rfl with ⟨hlo, _⟩ | ⟨_, d, he, hq⟩
    · have none : ∀ p ∈ π2.zip es2, J p.1 = false := fun p hp => by
        have hp2 : p.1 ∈ π2 := (List.of_mem_zip hp).1
        cases hj : J p.1 with
        | false => rfl
        | true =>
          obtain ⟨o', q1, _, q3⟩ := h.plan.pos π1 k π2 rfl
          rw [h.op] at q1; cases q1
          have := q3 hlo _ hp2
          rw [(h.behind hp2 hj).2] at this; cases this
      rw [sel_none J _ _ none, sel_none J _ _ none]
      exact Eqv.refl _
    · refine quiet d he fun i hi hj p hp hlp => ?_
      obtain ⟨_, f2⟩ := h.behind hi hj
      rcases hq with ⟨hf, _⟩ | ⟨ks, hf, _, hd, _⟩
      · have := freeOf_none hf i hi p hp hlp
        rw [f2] at this; cases this
      · exact noMent_sub hd (freeOf_some hf i hi p hp hlp f2)
end
end Go.Proofs.Ytinckcpmkocakaa.AM

/-
  The abstract machine, part 21j: a region in any order: soundness.
-/
set_option linter.unusedVariables false
set_option linter.unusedSimpArgs false
set_option linter.unusedSectionVars false
namespace Go.Proofs.Ytinckcpmkocakaa.AM
open Go Go.RowKit
def Inv (G : Gh) (L : List (Nat × Eff)) (S0 : St) (J : Nat → Bool) (a : Act) (w : World) : Prop := ∃ E ok S', Eqv S' (sel J L S0) ∧ Conc G E ok S' a w
section
variable {P : Program} {R : List (Nat × AObj) → List D → Prop} (hT : tableOf P = T) {ops : List Oper} {anc : List (Nat × Nat)} {π1 π2 : List Nat} {k : Nat} {es1 es2 : List Eff} {e : Eff} {S0 : St} {J : Nat → Bool} {o : Oper} {W W1 W2 : Wat}
include hT
theorem At.step {G : Gh} {E : Env} {ok : Oks} {S' : St} {a : Act} {w : World} (h : At ops anc π1 π2 k J o) (hl : es1.length = π1.length) (tr : TrOk P R ops anc W (π1 ++ k :: π2) S0 (es1 ++ e :: es2)) (hop : OpOk P R ops anc k π2 W1 W2 o (foldE es1 S0) e) (tr2 : TrOk P R ops anc W2 π2 (e.app (foldE es1 S0)) es2)
    (he : Eqv S' (sel J ((π1 ++ k :: π2).zip (es1 ++ e :: es2)) S0)) (c : Conc G E ok S' a w) (Q : Exit → Act → World → Prop) :
    ∃ run, GOk ops o (foldE es1 S0) run ∧ (run = true → o.wp P a w (Inv G ((π1 ++ k :: π2).zip (es1 ++ e :: es2)) S0 (addJ J k)) Q) ∧ (run = false → Inv G ((π1 ++ k :: π2).zip (es1 ++ e :: es2)) S0 (addJ J k) (a.put o.dst undef) w) := by
  have hadd := h.add hl tr hop
  have fin : ∀ {S'' : St} {E' : Env} {ok' : Oks} {a' : Act} {w' : World}, Eqv S'' (e.app S') → Conc G E' ok' S'' a' w' → Inv G ((π1 ++ k :: π2).zip (es1 ++ e :: es2)) S0 (addJ J k) a' w' := fun q c' => ⟨_, _, _, (q.trans (he.app e)).trans hadd.symm, c'⟩
  obtain ⟨run, hg, h0, h1⟩ := hop
  refine ⟨run, hg, fun hr => ?_, fun hr => ?_⟩
  · rcases h1 hr with ⟨hlo, hld⟩ | ⟨hlo, d, hd, hq⟩
    · have noLoud : ∀ i ∈ π2, J i = true → False := fun i hi hj => by
        obtain ⟨o', q1, _, q3⟩ := h.plan.pos π1 k π2 rfl
        rw [h.op] at q1; cases q1
        have := q3 hlo _ hi
        rw [(h.behind hi hj).2] at this; cases this
      have hev : ∀ x ∈ o.op.operands.toList, S'.ev x = (foldE es1 S0).ev x := fun x hx => by
        cases x with
        | tmp t => exact (he.get t).trans (h.slot hl tr (by unfold looks; exact List.mem_append_left _ (List.mem_filterMap.2 ⟨_, hx, rfl⟩)) fun i hi hj p _ _ => (noLoud i hi hj).elim)
        | _ => rfl
      have hn : S'.n = (foldE es1 S0).n := by rw [he.n, sel_n, ← sel_true π1 es1 S0 hl, sel_n]
      have hw := hld.1.2.2 S' hn (he.ob.trans (h.ob hl tr fun i hi hj p _ _ => noLoud i hi hj)) hev (fun S'' => S'' = e.app S') rfl
      exact Oper.wp_mono (fun a' w' ⟨E', ok', S'', q, c'⟩ => by subst q; exact fin (Eqv.refl _) c') (h_sound hT c hw Q)
    · subst hd
      have hev : (∀ x ∈ o.op.operands.toList, ∀ i ∈ π2, J i = true → ∀ p, ops[i]? = some p → loud p.op = true → noMent (killOf p) ((foldE es1 S0).ev x) = true) → ∀ x ∈ o.op.operands.toList, S'.ev x = (foldE es1 S0).ev x := fun hm x hx => by
        cases x with
        | tmp t => exact (he.get t).trans (h.slot hl tr (by unfold looks; exact List.mem_append_left _ (List.mem_filterMap.2 ⟨_, hx, rfl⟩)) (hm _ hx))
        | _ => rfl
      have go : ∀ ob, (∀ id o, look ob id = some o → ObjRep E ok w id o) → QuietOk P ob o (foldE es1 S0) d → (∀ x ∈ o.op.operands.toList, S'.ev x = (foldE es1 S0).ev x) → o.wp P a w (Inv G ((π1 ++ k :: π2).zip (es1 ++ Eff.q o.dst d :: es2)) S0 (addJ J k)) Q := by
        rintro ob hob ⟨d0, hc, hdd⟩ hx
        refine hc E ok w a o rfl ⟨fun x hxm => by rw [← hx x (by simpa using hxm)]; exact ev_rep c x, hob, c.okb⟩ _ Q fun v w' ok' g r => ?_
        refine fin (Eqv.refl _) ((c.grow g).put o.dst ?_)
        rcases hdd with rfl | ⟨b, rfl, rfl⟩
        · exact r
        · rw [repD_bool r]; exact .lit b
      rcases hq with ⟨hf, hq⟩ | ⟨ks, hf, hop', _, U, hU, hq⟩
      · have none : ∀ i ∈ π2, J i = true → ∀ p, ops[i]? = some p → loud p.op = true → False := fun i hi hj p hp hlp => by
          have := freeOf_none hf i hi p hp hlp
          rw [(h.behind hi hj).2] at this; cases this
        refine go _ ?_ hq (hev fun x hx i hi hj p hp hlp => (none i hi hj p hp hlp).elim)
        rw [← h.ob hl tr none, ← he.ob]; exact c.obj
      · refine go _ (fun id o' hlk => ?_) hq (hev fun x hx i hi hj p hp hlp => noMent_sub (hop' x hx) (freeOf_some hf i hi p hp hlp (h.behind hi hj).2))
        obtain ⟨k1, k2⟩ := look_restrict hlk
        exact c.obj id o' (by rw [he.ob, h.watch hl tr rfl tr2 hU id k1]; exact k2)
  · have heq := h0 hr
    subst heq
    exact fin (Eqv.refl _) (c.put o.dst (.v _ _ (Rep.tup (ok := ok) (w := w) [] [] rfl (by simp))))
end
end Go.Proofs.Ytinckcpmkocakaa.AM

/-
  The abstract machine, part 21k: a region in any order: all of it.
-/
set_option linter.unusedVariables false
set_option linter.unusedSimpArgs false
set_option linter.unusedSectionVars false
namespace Go.Proofs.Ytinckcpmkocakaa.AM
open Go Go.RowKit
theorem yielded_of {ops : List Oper} {j t : Nat} {p : Oper} (h : look? ops j = some p) (hp : p.dst = some t) {tmps : Array Value} :
    (∀ b, tmps.getD t undef = .bool b → yielded ops.toArray tmps j = some b) ∧ ((∀ b, tmps.getD t undef ≠ .bool b) → yielded ops.toArray tmps j = none) := by
  rw [look?_eq] at h
  have h1 : (ops.toArray[j]?).bind (·.dst) = some t := by simp [h, hp]
  unfold yielded
  rw [h1]
  simp only [Option.bind_some]
  constructor
  · intro b hb
    cases ht : tmps[t]? with
    | none =>
      have : tmps.getD t undef = undef := by simp [Array.getD_eq_getD_getElem?, ht]
      rw [this] at hb; simp [undef] at hb
    | some v =>
      have : tmps.getD t undef = v := by simp [Array.getD_eq_getD_getElem?, ht]
      rw [this] at hb; subst hb; rfl
  · intro hb
    cases ht : tmps[t]? with
    | none => rfl
    | some v =>
      have : tmps.getD t undef = v := by simp [Array.getD_eq_getD_getElem?, ht]
      cases v with
      | bool b => exact absurd this (hb b)
      | _ => rfl
/-- How a guard decides, in the machine. -/
theorem wanted_of {G : Gh} {E : Env} {ok : Oks} {ops : List Oper} {o : Oper} {S S' : St} {a : Act} {w : World} {run : Bool} (c : Conc G E ok S' a w) (hg : GOk ops o S run) (hs : ∀ t ∈ looks ops o, (∀ ks, noMent ks (S.get t) = true) → S'.get t = S.get t) : Region.wanted o (yielded ops.toArray a.tmps) = run := by
  rcases hg with ⟨h1, h2⟩ | ⟨j, want, p, t, h1, h2, h3, h4⟩
  · rw [h2]; simp [Region.wanted, h1]
  · have ht : t ∈ looks ops o := by
      unfold looks
      refine List.mem_append_right _ ?_
      rw [h1]; simp only [h2, h3]; simp
    have hno : ∀ ks, noMent ks (S.get t) = true := fun ks => by
      rcases h4 with ⟨b, h5, _⟩ | ⟨h5, _⟩ <;> rw [h5] <;> simp [noMent, mentions]
    have hv := c.slot t
    rw [hs t ht hno] at hv
    obtain ⟨y1, y2⟩ := yielded_of (tmps := a.tmps) h2 h3
    rcases h4 with ⟨b, h5, h6⟩ | ⟨h5, h6⟩
    · rw [h5] at hv
      rw [h6]
      simp [Region.wanted, h1, y1 b (repD_lit hv)]
    · rw [h5] at hv
      rw [h6]
      have : ∀ b, a.tmps.getD t undef ≠ .bool b := by
        intro b hb
        rw [hb] at hv
        cases hv; rename_i q; cases q
      simp [Region.wanted, h1, y2 this]
/-- The first of the order that has not run may run. -/
theorem first_ready {ops : List Oper} {anc : List (Nat × Nat)} {π : List Nat} (p : Plan ops anc π) {J : Nat → Bool} : ∀ (π1 π2 : List Nat), π = π1 ++ π2 → (∀ i ∈ π1, J i = true) → (∀ i ∈ π2, J i = true) ∨ ∃ a k b o, π = a ++ k :: b ∧ J k = false ∧ ops[k]? = some o ∧ ∀ e ∈ o.after.toList, bindsA e = true → J e.on = true
  | π1, [], _, _ => .inl (by simp)
  | π1, k :: r, e, h => by
    cases hk : J k with
    | true =>
      rcases first_ready p (π1 ++ [k]) r (by simp [e]) (fun i hi => by
        rcases List.mem_append.1 hi with hi | hi
        · exact h i hi
        · simp at hi; subst hi; exact hk) with q | q
      · exact .inl fun i hi => by
          rcases List.mem_cons.1 hi with rfl | hi
          · exact hk
          · exact q i hi
      · exact .inr q
    | false =>
      obtain ⟨o, ho, hd, _⟩ := p.pos π1 k r e
      exact .inr ⟨π1, k, r, o, e, hk, ho, fun x hx hb => h _ (hd x hx hb)⟩
end Go.Proofs.Ytinckcpmkocakaa.AM

/-
  The abstract machine, part 21l: a region in any order: all orders.
-/
set_option linter.unusedVariables false
set_option linter.unusedSimpArgs false
set_option linter.unusedSectionVars false
namespace Go.Proofs.Ytinckcpmkocakaa.AM
open Go Go.RowKit
/-- How many have not run. -/
def left (n : Nat) (listed : Array Bool) : Nat := ((List.range n).filter fun i => !listed.getD i true).length
theorem getD_lt {listed : Array Bool} {i : Nat} (h : i < listed.size) (d : Bool) : listed.getD i d = listed[i] := by simp [h]
theorem left_pos {n : Nat} {listed : Array Bool} {i : Nat} (hi : i < n) (h : listed.getD i true = false) : 0 < left n listed :=
  List.length_pos_of_mem (List.mem_filter.2 ⟨List.mem_range.2 hi, by simpa using h⟩)
theorem left_set {n : Nat} {listed : Array Bool} {i : Nat} (hi : i < n) (hs : listed.size = n) (h : listed.getD i true = false) : left n (listed.setIfInBounds i true) < left n listed := by
  unfold left
  have h1 : ((List.range n).filter fun j => !(listed.setIfInBounds i true).getD j true) = ((List.range n).filter fun j => !listed.getD j true).filter fun j => !(j == i) := by
    rw [List.filter_filter]
    refine List.filter_congr fun j hj => ?_
    have hj' := List.mem_range.1 hj
    by_cases e : j = i
    · subst e
      simp [Array.getD_eq_getD_getElem?, hs, hj']
    · rw [getD_set_ne true (Ne.symm e)]
      simp [e]
  rw [h1]
  refine List.length_filter_lt_length_iff_exists.2 ⟨i, List.mem_filter.2 ⟨List.mem_range.2 hi, by simpa using h⟩, by simp⟩
section
variable {P : Program} {R : List (Nat × AObj) → List D → Prop} (hT : tableOf P = T) {ops : List Oper} {anc : List (Nat × Nat)} {π : List Nat} {es : List Eff} {S0 : St}
include hT
theorem any_sound {G : Gh} (p : Plan ops anc π) {W : Wat} (tr : TrOk P R ops anc W π S0 es) {Q : Exit → Act → World → Prop} (hQ : ∀ a w J, (∀ i ∈ π, J i = true) → Inv G (π.zip es) S0 J a w → Q .normal a w) :
    ∀ (fuel : Nat) (listed : Array Bool) (a : Act) (w : World), listed.size = ops.length → (∀ i o, listed.getD i false = true → ops[i]? = some o → ∀ e ∈ o.after.toList, bindsA e = true → listed.getD e.on false = true) → left ops.length listed ≤ fuel →
      Inv G (π.zip es) S0 (fun i => listed.getD i false) a w → wpAny P .any ops.toArray Q fuel listed a w := by
  intro fuel
  induction fuel using Nat.strongRecOn with
  | _ fuel ih =>
    intro listed a w hs hc hn hi
    have bit : ∀ i, i < ops.length → listed.getD i true = listed.getD i false := fun i h => by rw [getD_lt (by omega), getD_lt (by omega)]
    have done : Region.ready .any ops.toArray listed = [] → Q .normal a w := fun hr => by
      rcases first_ready p (J := fun i => listed.getD i false) [] π rfl (by simp) with q | ⟨x, k, y, o, e, hk, ho, hd⟩
      · exact hQ a w _ q hi
      · have hlt := (List.getElem?_eq_some_iff.1 ho).1
        have : k ∈ Region.ready .any ops.toArray listed := mem_ready.2 ⟨by rw [bit k hlt]; exact hk, o, by simpa using ho, fun e he hb => hd e (by simpa using he) (by rw [← bindsA_eq]; exact hb)⟩
        rw [hr] at this; cases this
    cases hf : fuel with
    | zero =>
      have hr : Region.ready .any ops.toArray listed = [] := by
        cases hr : Region.ready .any ops.toArray listed with
        | nil => rfl
        | cons i r =>
          obtain ⟨h1, o, h2, _⟩ := mem_ready.1 (hr ▸ List.mem_cons_self : i ∈ Region.ready .any ops.toArray listed)
          have hlt : i < ops.length := by have := (Array.getElem?_eq_some_iff.1 h2).1; simpa using this
          have := left_pos hlt h1
          omega
      exact ⟨hr, done hr⟩
    | succ m =>
      refine ⟨done, fun i hri => ?_⟩
      obtain ⟨h1, o, h2, h3⟩ := mem_ready.1 hri
      have ho : ops[i]? = some o := by simpa using h2
      have hlt := (List.getElem?_eq_some_iff.1 ho).1
      obtain ⟨π1, π2, es1, e, es2, rfl, rfl, hl, o', ho', W1, W2, hop, tr2⟩ := trOk_split W π S0 es tr i (p.all i hlt)
      rw [ho] at ho'; cases ho'
      have hat : At ops anc π1 π2 i (fun i => listed.getD i false) o := ⟨p, hc, by rw [← bit i hlt]; exact h1, ho, fun e he hb => h3 e (by simpa using he) (by rw [bindsA_eq]; exact hb)⟩
      obtain ⟨E, ok, S', he, c⟩ := hi
      obtain ⟨run, hg, k1, k2⟩ := hat.step hT hl tr hop tr2 he c Q
      have hw := wanted_of c hg fun t ht hno => (he.get t).trans (hat.slot hl tr ht fun _ _ _ _ _ _ => hno _)
      have next : ∀ a' w', Inv G ((π1 ++ i :: π2).zip (es1 ++ e :: es2)) S0 (addJ (fun i => listed.getD i false) i) a' w' → wpAny P .any ops.toArray Q m (listed.setIfInBounds i true) a' w' := fun a' w' q => by
        have hJ : (fun j => (listed.setIfInBounds i true).getD j false) = addJ (fun j => listed.getD j false) i := by
          funext j
          by_cases e : i = j
          · subst e; simp [addJ, Array.getD_eq_getD_getElem?, hs, hlt]
          · rw [getD_set_ne false e]; simp [addJ, Ne.symm e]
        refine ih m (by omega) _ a' w' (by simpa using hs) (fun j o2 hj ho2 e2 he2 hb2 => ?_) (by have := left_set hlt hs h1; omega) (by rw [hJ]; exact q)
        by_cases e : i = j
        · subst e
          rw [ho] at ho2; cases ho2
          exact getD_set_true (hat.deps e2 he2 hb2)
        · rw [getD_set_ne false e] at hj
          exact getD_set_true (hc j o2 hj ho2 e2 he2 hb2)
      unfold wpOp
      rw [h2]
      simp only
      rw [hw]
      cases run with
      | true => rw [if_pos rfl]; exact .inl (Oper.wp_mono (fun a' w' q => next a' w' q) (k1 rfl))
      | false => rw [if_neg (by simp)]; exact next _ _ (k2 rfl)
end
end Go.Proofs.Ytinckcpmkocakaa.AM

/-
  The abstract machine, part 22: regions and code.
-/
set_option linter.unusedVariables false
set_option linter.unusedSimpArgs false
set_option linter.unusedSectionVars false
namespace Go.Proofs.Ytinckcpmkocakaa.AM
open Go Go.RowKit

/-- What is refined of a slot: its value is known. -/
theorem Conc.refine {G : Gh} {E : Env} {ok : Oks} {S : St} {a : Act} {w : World} (c : Conc G E ok S a w) {t : Nat} {d : D} (r : RepD E ok w d (a.tmps.getD t undef)) : Conc G E ok (S.put (some t) d) a w := by
  refine { c with n := by rw [put_n]; exact c.n, slot := fun t' => ?_, obj := by rw [put_ob]; exact c.obj, apart := by rw [put_ob]; exact c.apart, reg := by rw [put_ob]; exact c.reg, hp := by rw [put_ob]; exact c.hp }
  rw [get_put]
  split
  · rename_i h; obtain ⟨h, _⟩ := h; cases h; exact r
  · exact c.slot t'

theorem After.mono {G : Gh} {K K' : St → Prop} {a : Act} {w : World} (h : ∀ S, K S → K' S) (x : After G K a w) : After G K' a w := by
  obtain ⟨E, ok, S, k, c⟩ := x; exact ⟨E, ok, S, h _ k, c⟩

theorem inv_lit {E : Env} {ok : Oks} {w : World} {b : Bool} {u : Value} (h : RepD E ok w (.lit b) u) : u = .bool b := by cases h; rfl
theorem inv_bool {E : Env} {ok : Oks} {w : World} {b : Bool} {u : Value} (h : RepD E ok w (.v (.bool b)) u) : u = .bool b := by cases h; rename_i q; cases q; rfl

def AftX (G : Gh) (Q : AExit → St → Prop) : Exit → Act → World → Prop
  | .normal, a, w => After G (Q .normal) a w
  | .exit id, a, w => After G (Q (.exit id)) a w
  | .ret, a, w => After G (Q .ret) a w
  | _, _, _ => False
theorem AftX.mono {G : Gh} {Q Q' : AExit → St → Prop} (h : ∀ e S, Q e S → Q' e S) {e : Exit} {a : Act} {w : World} (x : AftX G Q e a w) : AftX G Q' e a w := by
  cases e <;> simp only [AftX] at x ⊢ <;> first | exact x.mono (h _) | exact x

section
variable {P : Program} {R : List (Nat × AObj) → List D → Prop} (hT : tableOf P = T)
include hT

theorem w_ops {G : Gh} {E : Env} {ok : Oks} {S : St} {a : Act} {w : World} (c : Conc G E ok S a w) {o : Oper} {K : St → Prop} (h : wWp (std P R) o S K) (Q : Exit → Act → World → Prop) : o.wp P a w (fun a' w' => After G K a' w') Q := by
  unfold wWp at h
  split at h
  · obtain ⟨S', hw, h'⟩ := h
    obtain ⟨E', ok', c'⟩ := hw G E ok a w c
    exact h_sound hT c' h' Q
  · exact h_sound hT c h Q
theorem ops_sound {G : Gh} (ops : List Oper) {K : St → Prop} {Q : Exit → Act → World → Prop} (hQ : ∀ a w, After G K a w → Q .normal a w) : ∀ (l : List Oper) {E : Env} {ok : Oks} {S : St} {a : Act} {w : World}, Conc G E ok S a w → opsWp (std P R) ops l S K → wpList P ops.toArray Q l a w
  | [], E, ok, S, a, w, c, h => hQ _ _ ⟨E, ok, S, h, c⟩
  | o :: r, E, ok, S, a, w, c, h => by
    have run : ∀ {E ok S}, Conc G E ok S a w → wWp (std P R) o S (fun S => opsWp (std P R) ops r S K) → o.wp P a w (wpList P ops.toArray Q r) Q := fun c h =>
      Oper.wp_mono (fun a' w' ⟨E', ok', S', h', c'⟩ => ops_sound ops hQ r c' h') (w_ops hT c h Q)
    have skip : ∀ {E ok S}, Conc G E ok S a w → opsWp (std P R) ops r (S.put o.dst (.v (.tup []))) K → wpList P ops.toArray Q r (a.put o.dst undef) w := fun {E ok S} c h =>
      ops_sound ops hQ r (c.put o.dst (.v _ _ (Rep.tup (ok := ok) (w := w) [] [] rfl (by simp)))) h
    unfold opsWp at h
    unfold gWp at h
    unfold wpList
    split at h
    · rename_i hg
      rw [if_pos (by simp [Region.wanted, hg])]
      exact .inl (run c h)
    · rename_i j want hg
      have hw : ∀ v, yielded ops.toArray a.tmps j = v → Region.wanted o (yielded ops.toArray a.tmps) = (v == some want) := fun v hv => by simp [Region.wanted, hg, hv]
      split at h
      · rename_i p hp
        split at h
        · rename_i t ht
          obtain ⟨y1, y2⟩ := yielded_of (tmps := a.tmps) hp ht
          have hs := c.slot t
          split at h
          · rename_i b hb
            rw [hb] at hs
            have hv : a.tmps.getD t undef = .bool b := inv_lit hs
            rw [hw _ (y1 _ hv)]
            split at h
            · rename_i e
              rw [if_pos (by simpa using e)]
              exact .inl (run c h)
            · rename_i e
              rw [if_neg (by simpa using e)]
              exact skip c h
          · rename_i b hb
            rw [hb] at hs
            have hv : a.tmps.getD t undef = .bool b := inv_bool hs
            have h := h b rfl
            simp only at h
            have c' : Conc G E ok (S.put (some t) (.lit b)) a w := c.refine (by rw [hv]; exact .lit b)
            rw [hw _ (y1 _ hv)]
            split at h
            · rename_i e
              rw [if_pos (by simpa using e)]
              exact .inl (run c' h)
            · rename_i e
              rw [if_neg (by simpa using e)]
              exact skip c' h
          · rename_i hb
            rw [hb] at hs
            have hv : ∀ b, a.tmps.getD t undef ≠ .bool b := by
              intro b hv
              rw [hv] at hs
              cases hs; rename_i q; cases q
            rw [hw _ (y2 hv)]
            exact skip c h
          · exact h.elim
        · exact h.elim
      · exact h.elim

omit hT in
theorem Conc.drawn {G : Gh} {E : Env} {ok : Oks} {S : St} {a : Act} {w : World} (c : Conc G E ok S a w) (n : Nat) : Conc G E ok S a { w with drawn := n } :=
  c.step { same := ⟨fun _ _ h => h, fun _ _ _ => rfl, .refl _⟩, env := .refl _, blocks := fun _ _ _ _ _ => ⟨rfl, fun _ h => h⟩, okb := c.okb, newk := fun _ _ h => .inl h, os := rfl, tape := rfl, output := rfl, size := Nat.le_refl _, old := fun _ _ _ => rfl }
omit hT in
theorem trOk_len {ops : List Oper} {anc : List (Nat × Nat)} : ∀ (W : Wat) (π : List Nat) (S : St) (es : List Eff), TrOk P R ops anc W π S es → es.length = π.length
  | _, [], S, [], _ => rfl
  | _, i :: r, S, e :: es, h => by obtain ⟨W', _, _, h2⟩ := h; simp [trOk_len W' r _ es h2]
  | _, [], S, _ :: _, h => h.elim
  | _, _ :: _, S, [], h => h.elim
theorem condW_sound {G : Gh} {E : Env} {ok : Oks} {S : St} {a : Act} {w : World} (c : Conc G E ok S a w) {x : Operand} {K : Bool → Prop} (h : condW (std P R) (S.ev x) K) : ∃ t, a.eval x = .bool t ∧ K t := by
  have hx := ev_rep c x
  unfold condW at h
  split at h
  · rename_i hb
    rw [hb] at hx
    cases e : a.eval x <;> rw [e] at hx <;> cases hx
    rename_i b
    exact ⟨b, rfl, by cases b; exact h.2; exact h.1⟩
  · rename_i b hb
    rw [hb] at hx
    exact ⟨b, inv_lit hx, h⟩
  · rename_i b hb
    rw [hb] at hx
    exact ⟨b, inv_bool hx, h b rfl⟩
  · exact h.elim

/-- **Code does what 'ewp' says.** -/
theorem w_sound (hM : P.follows .mixedOrders = true) {G : Gh} : ∀ (cd : Code) (Q : AExit → St → Prop) {E : Env} {ok : Oks} {S : St} {a : Act} {w : World}, Conc G E ok S a w → ewp (std P R) cd Q S → cd.wp P (AftX G Q) a w
  | .skip, Q, E, ok, S, a, w, c, h => wp_skip ⟨E, ok, S, h, c⟩
  | .seq x y, Q, E, ok, S, a, w, c, h => by
    refine wp_seq (wp_mono (w_sound hM x _ c h) fun e a' w' q => ?_)
    cases e with
    | normal => obtain ⟨E', ok', S', h', c'⟩ := q; exact w_sound hM y Q c' h'
    | exit id => obtain ⟨E', ok', S', h', c'⟩ := q; exact ⟨E', ok', S', h', c'⟩
    | ret => obtain ⟨E', ok', S', h', c'⟩ := q; exact ⟨E', ok', S', h', c'⟩
    | goto l => exact q
    | panic ch => exact q
    | outgrown => exact q
  | .region id ops false, Q, E, ok, S, a, w, c, h => by
    refine wp_region_list ?_
    have := ops_sound hT (G := G) ops.toList (K := Q .normal) (Q := AftX G Q) (fun a w h => h) ops.toList c h
    simpa using this
  | .cond x t e, Q, E, ok, S, a, w, c, h => by
    obtain ⟨b, hb, h⟩ := condW_sound hT c h
    refine wp_cond hb ?_
    cases b with
    | true => exact w_sound hM t Q c h
    | false => exact w_sound hM e Q c h
  | .block id x, Q, E, ok, S, a, w, c, h => by
    refine wp_block (wp_mono (w_sound hM x _ c h) fun e a' w' q => ?_)
    cases e with
    | normal => exact q
    | exit i =>
      obtain ⟨E', ok', S', h', c'⟩ := q
      simp only [Exit.inBlock]
      cases e : i == id with
      | true => rw [if_pos (by simpa using e)]; simp only [e] at h'; exact ⟨E', ok', S', h', c'⟩
      | false => rw [if_neg (by simpa using e)]; simp only [e] at h'; exact ⟨E', ok', S', h', c'⟩
    | ret => exact q
    | goto l => exact q
    | panic ch => exact q
    | outgrown => exact q
  | .loop x, Q, E, ok, S, a, w, c, h => by
    obtain ⟨ι, st, I, μ, ⟨p0, hw0, h0⟩, hb⟩ := h
    obtain ⟨E0, ok0, c0⟩ := hw0 G E ok a w c
    have key : ∀ n p E ok a w, μ p = n → I p → Conc G E ok (st p) a w → ∀ b k cs, ∃ e a' w', AftX G Q e a' w' ∧ Arrives P (lone (b.at a (.code x :: .inLoop x :: k)) cs w) b k cs e a' w' := by
      intro n
      induction n using Nat.strongRecOn with
      | _ n ih =>
        intro p E ok a w hn hI c b k cs
        obtain ⟨e, a₁, w₁, hq, harr⟩ := w_sound hM x _ c (hb p hI) b (.inLoop x :: k) cs
        cases e with
        | normal =>
          obtain ⟨E', ok', S', ⟨q, hw, hI', hlt⟩, c'⟩ := hq
          obtain ⟨E'', ok'', c''⟩ := hw G E' ok' a₁ w₁ c'
          obtain ⟨e₂, a₂, w₂, hq₂, harr₂⟩ := ih (μ q) (hn ▸ hlt) q E'' ok'' a₁ w₁ rfl hI' c'' b k cs
          exact ⟨e₂, a₂, w₂, hq₂, .of_steps (Steps.trans harr (.one step_inLoop)) harr₂⟩
        | exit id => exact ⟨.exit id, a₁, w₁, (by simpa only [AftX] using hq), .pass (x := .inLoop x) rfl (fun _ _ => .inl (by simp)) harr⟩
        | goto l => exact hq.elim
        | ret => exact ⟨.ret, a₁, w₁, (by simpa only [AftX] using hq), .pass (x := .inLoop x) rfl (fun _ _ => .inl (by simp)) harr⟩
        | panic ch => exact hq.elim
        | outgrown => exact hq.elim
    intro b k cs
    obtain ⟨e, a', w', hq, harr⟩ := key _ p0 E0 ok0 a w rfl h0 c0 b k cs
    exact ⟨e, a', w', hq, .of_steps (.one step_loop) harr⟩
  | .exit id, Q, E, ok, S, a, w, c, h => wp_exit ⟨E, ok, S, h, c⟩
  | .ret, Q, E, ok, S, a, w, c, h => wp_ret ⟨E, ok, S, h, c⟩
  | .region id ops true, Q, E, ok, S, a, w, c, h => by
    obtain ⟨hck, h⟩ := h
    obtain ⟨ok', c'⟩ := c.softOb (preIds ops.toList S ops.toList)
    obtain ⟨es, tr, hK⟩ := d_trace hT ops.toList _ _ _ _ _ h
    refine wp_region_any hM ?_
    have hin : Inv G ((orderOf ops.toList).zip es) (S.soft (preIds ops.toList S ops.toList)) (fun i => (Array.replicate ops.size false).getD i false) a { w with drawn := w.drawn + 1 } := by
      refine ⟨E, ok', S.soft (preIds ops.toList S ops.toList), ?_, ?_⟩
      · rw [sel_none]
        · exact Eqv.refl _
        · intro p _
          simp [Array.getD_eq_getD_getElem?, Array.getElem?_replicate]
          split <;> rfl
      · exact c'.drawn _
    have := any_sound hT (plan_of hck) tr (Q := AftX G Q) (fun a' w' J hJ hi => ?_) ops.size (Array.replicate ops.size false) a { w with drawn := w.drawn + 1 } (by simp) (fun i o hi => ?_) ?_ hin
    · simpa using this
    · obtain ⟨E', ok2, S', he, c2⟩ := hi
      have e1 : sel J ((orderOf ops.toList).zip es) (S.soft (preIds ops.toList S ops.toList)) = foldE es (S.soft (preIds ops.toList S ops.toList)) := by
        rw [← sel_true _ es _ (trOk_len _ _ _ _ tr)]
        exact sel_congr _ _ fun p hp => hJ _ (List.of_mem_zip hp).1
      exact ⟨E', ok2, _, hK, c2.eqv (e1 ▸ he)⟩
    · exfalso
      have : (Array.replicate ops.size false).getD i false = false := by
        simp [Array.getD_eq_getD_getElem?, Array.getElem?_replicate]
        split <;> rfl
      rw [this] at hi; cases hi
    · unfold left
      exact Nat.le_trans (List.length_filter_le _ _) (by simp)
  | .label _, _, _, _, _, _, _, _, h => h.elim
  | .goto _, _, _, _, _, _, _, _, h => h.elim
  | .rangeFunc _ _ _ _, _, _, _, _, _, _, _, h => h.elim
  | .scope _, _, _, _, _, _, _, _, h => h.elim
  | .refuse _, _, _, _, _, _, _, _, h => h.elim
end
end Go.Proofs.Ytinckcpmkocakaa.AM
