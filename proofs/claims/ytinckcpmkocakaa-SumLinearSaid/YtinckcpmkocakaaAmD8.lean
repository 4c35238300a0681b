/-
  The abstract machine, part 21i: a region in any order: one operation runs.
-/
import Derived.Test.YtinckcpmkocakaaAmD7
set_option linter.unusedVariables false
set_option linter.unusedSimpArgs false
set_option linter.unusedSectionVars false
namespace Go.Proofs.Ytinckcpmkocakaa.AM
open Go Go.RowKit
section
variable {P : Program} {R : List (Nat × AObj) → List D → Prop} {ops : List Oper} {anc : List (Nat × Nat)} {π1 π2 : List Nat} {k : Nat} {es1 es2 : List Eff} {e : Eff} {S0 : St} {J : Nat → Bool} {o : Oper}

theorem meets_of {o p : Oper} {t : Nat} (h : (o.dst = some t ∧ (p.dst = some t ∨ t ∈ looks ops p)) ∨ (p.dst = some t ∧ t ∈ looks ops o)) : meets ops o p = true := by
  unfold meets
  rcases h with ⟨h1, h2⟩ | ⟨h1, h2⟩
  · rw [h1]
    rcases h2 with h2 | h2
    · simp [h2]
    · simp [h2]
  · rw [h1]; simp [h2]

/-- A slot that the operation looks at, in the state of those that have run. -/
theorem At.slot (h : At ops anc π1 π2 k J o) (hl : es1.length = π1.length) (tr : TrOk P R ops anc (π1 ++ k :: π2) S0 (es1 ++ e :: es2)) {t : Nat} (ht : t ∈ looks ops o)
    (hm : ∀ i ∈ π2, J i = true → ∀ p, ops[i]? = some p → loud p.op = true → noMent (killOf p) ((foldE es1 S0).get t) = true) : (sel J ((π1 ++ k :: π2).zip (es1 ++ e :: es2)) S0).get t = (foldE es1 S0).get t := by
  rw [zip_split hl, sel_append, sel_cons, if_neg (by simp [h.not])]
  have mem := trOk_mem _ _ _ tr
  rw [zip_split hl] at mem
  have e1 : (sel J (π1.zip es1) S0).get t = (foldE es1 S0).get t := by
    rw [← sel_true π1 es1 S0 hl]
    refine sel_skip J _ rfl rfl fun p hp hj => ?_
    obtain ⟨hin, o', q1, q2, q3, q4⟩ := mem p (List.mem_append_left _ hp)
    have hp1 : p.1 ∈ π1 := (List.of_mem_zip hp).1
    have hnl : loud o'.op = false := by
      cases hb : loud o'.op with
      | false => rfl
      | true => have := h.loudFront hp1 q1 hb; rw [hj] at this; cases this
    obtain ⟨d, hd⟩ := q4 hnl
    refine ⟨_, d, hd, fun hdt => ?_⟩
    have hne : k ≠ p.1 := fun q => by rw [← q] at hp1; exact h.ne.1 hp1
    have := h.plan.meet k p.1 o o' hne h.op q1 (meets_of (.inr ⟨hdt, ht⟩))
    obtain ⟨f1, f2⟩ := h.front hp1 hj
    rw [f1, f2] at this
    simp at this
  rw [sel_behind J _ _ ?_, e1]
  intro p hp hj
  obtain ⟨hin, o', q1, q2, q3, q4⟩ := mem p (List.mem_append_right _ (List.mem_cons_of_mem _ hp))
  have hp2 : p.1 ∈ π2 := (List.of_mem_zip hp).1
  rw [e1]
  constructor
  · rw [q2]
    intro hdt
    have hne : k ≠ p.1 := fun q => by rw [← q] at hp2; exact h.ne.2.1 hp2
    have := h.plan.meet k p.1 o o' hne h.op q1 (meets_of (.inr ⟨hdt, ht⟩))
    obtain ⟨f1, f2⟩ := h.behind hp2 hj
    rw [f1, f2] at this
    simp at this
  · cases hb : loud o'.op with
    | true => exact noMent_sub (hm _ hp2 hj o' q1 hb) q3
    | false =>
      obtain ⟨d, hd⟩ := q4 hb
      rw [hd]; rfl
theorem At.ob (h : At ops anc π1 π2 k J o) (hl : es1.length = π1.length) (tr : TrOk P R ops anc (π1 ++ k :: π2) S0 (es1 ++ e :: es2))
    (hm : ∀ i ∈ π2, J i = true → ∀ p, ops[i]? = some p → loud p.op = true → False) : (sel J ((π1 ++ k :: π2).zip (es1 ++ e :: es2)) S0).ob = (foldE es1 S0).ob := by
  rw [zip_split hl, sel_append, sel_cons, if_neg (by simp [h.not])]
  have mem := trOk_mem _ _ _ tr
  rw [zip_split hl] at mem
  rw [sel_behind_ob J _ _ ?_, ← sel_true π1 es1 S0 hl]
  · refine sel_skip_ob J _ rfl fun p hp hj => ?_
    obtain ⟨hin, o', q1, q2, q3, q4⟩ := mem p (List.mem_append_left _ hp)
    have hp1 : p.1 ∈ π1 := (List.of_mem_zip hp).1
    have hnl : loud o'.op = false := by
      cases hb : loud o'.op with
      | false => rfl
      | true => have := h.loudFront hp1 q1 hb; rw [hj] at this; cases this
    obtain ⟨d, hd⟩ := q4 hnl
    exact ⟨_, d, hd⟩
  · intro p hp hj
    obtain ⟨hin, o', q1, q2, q3, q4⟩ := mem p (List.mem_append_right _ (List.mem_cons_of_mem _ hp))
    have hp2 : p.1 ∈ π2 := (List.of_mem_zip hp).1
    cases hb : loud o'.op with
    | true => exact (hm _ hp2 hj o' q1 hb).elim
    | false =>
      obtain ⟨d, hd⟩ := q4 hb
      exact ⟨_, d, hd⟩
def addJ (J : Nat → Bool) (k : Nat) : Nat → Bool := fun i => i == k || J i
theorem sel_none (J : Nat → Bool) : ∀ (L : List (Nat × Eff)) (S : St), (∀ p ∈ L, J p.1 = false) → sel J L S = S
  | [], S, _ => rfl
  | p :: L, S, h => by
    rw [sel_cons, if_neg (by simp [h p (by simp)])]
    exact sel_none J L S fun q hq => h q (List.mem_cons_of_mem _ hq)
/-- With one more: his effect comes last. -/
theorem At.add (h : At ops anc π1 π2 k J o) (hl : es1.length = π1.length) (tr : TrOk P R ops anc (π1 ++ k :: π2) S0 (es1 ++ e :: es2)) {S : St} (hop : OpOk P R ops anc k π2 o S e) :
    Eqv (sel (addJ J k) ((π1 ++ k :: π2).zip (es1 ++ e :: es2)) S0) (e.app (sel J ((π1 ++ k :: π2).zip (es1 ++ e :: es2)) S0)) := by
  have mem := trOk_mem _ _ _ tr
  rw [zip_split hl] at mem ⊢
  rw [sel_append, sel_append, sel_cons, sel_cons, if_pos (by simp [addJ]), if_neg (by simp [h.not])]
  have c1 : sel (addJ J k) (π1.zip es1) S0 = sel J (π1.zip es1) S0 := sel_congr _ _ fun p hp => by
    have hp1 : p.1 ∈ π1 := (List.of_mem_zip hp).1
    have : p.1 ≠ k := fun q => h.ne.1 (q ▸ hp1)
    simp [addJ, this]
  have c2 : ∀ X, sel (addJ J k) (π2.zip es2) X = sel J (π2.zip es2) X := fun X => sel_congr _ _ fun p hp => by
    have hp2 : p.1 ∈ π2 := (List.of_mem_zip hp).1
    have : p.1 ≠ k := fun q => h.ne.2.1 (q ▸ hp2)
    simp [addJ, this]
  rw [c1, c2]
  have hdst := (opOk_eff hop).1
  have quiet : ∀ d, e = .q o.dst d → (∀ i ∈ π2, J i = true → ∀ p, ops[i]? = some p → loud p.op = true → noMent (killOf p) d = true) → Eqv (sel J (π2.zip es2) (e.app (sel J (π1.zip es1) S0))) (e.app (sel J (π2.zip es2) (sel J (π1.zip es1) S0))) := by
    intro d he hno
    rw [he]
    refine sel_comm J _ _ fun p hp hj => ?_
    obtain ⟨hin, o', q1, q2, q3, q4⟩ := mem p (List.mem_append_right _ (List.mem_cons_of_mem _ hp))
    have hp2 : p.1 ∈ π2 := (List.of_mem_zip hp).1
    have hne : k ≠ p.1 := fun q => by rw [← q] at hp2; exact h.ne.2.1 hp2
    constructor
    · intro t ht hdt
      rw [q2] at hdt
      have := h.plan.meet k p.1 o o' hne h.op q1 (meets_of (.inl ⟨ht, .inl hdt⟩))
      obtain ⟨f1, f2⟩ := h.behind hp2 hj
      rw [f1, f2] at this
      simp at this
    · cases hb : loud o'.op with
      | true => exact noMent_sub (hno _ hp2 hj o' q1 hb) q3
      | false =>
        obtain ⟨d', hd⟩ := q4 hb
        rw [hd]; rfl
  obtain ⟨run, _, h0, h1⟩ := hop
  cases run with
  | false => exact quiet _ (h0 rfl) fun i hi hj p hp hlp => by simp [noMent, mentions]
  | true =>
    rcases h1 rfl with ⟨hlo, _⟩ | ⟨_, d, he, hq⟩
    · have none : ∀ p ∈ π2.zip es2, J p.1 = false := fun p hp => by
        have hp2 : p.1 ∈ π2 := (List.of_mem_zip hp).1
        cases hj : J p.1 with
        | false => rfl
        | true =>
          obtain ⟨o', q1, _, q3⟩ := h.plan.pos π1 k π2 rfl
          rw [h.op] at q1; cases q1
          have := q3 hlo _ hp2
          rw [(h.behind hp2 hj).2] at this; cases this
      rw [sel_none J _ _ none, sel_none J _ _ none]
      exact Eqv.refl _
    · refine quiet d he fun i hi hj p hp hlp => ?_
      obtain ⟨_, f2⟩ := h.behind hi hj
      rcases hq with ⟨hf, _⟩ | ⟨ks, hf, _, hd, _⟩
      · have := freeOf_none hf i hi p hp hlp
        rw [f2] at this; cases this
      · exact noMent_sub hd (freeOf_some hf i hi p hp hlp f2)
end
end Go.Proofs.Ytinckcpmkocakaa.AM
