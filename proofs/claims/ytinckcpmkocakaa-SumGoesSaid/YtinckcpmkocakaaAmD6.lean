/-
  The abstract machine, part 21g: a region in any order: the step.
-/
import Derived.Test.YtinckcpmkocakaaAmD5
set_option linter.unusedVariables false
set_option linter.unusedSimpArgs false
set_option linter.unusedSectionVars false
namespace Go.Proofs.Ytinckcpmkocakaa.AM
open Go Go.RowKit

theorem freeOf_none {ops : List Oper} {anc : List (Nat × Nat)} {i : Nat} : ∀ {r : List Nat}, freeOf ops anc i r = none → ∀ l ∈ r, ∀ o, ops[l]? = some o → loud o.op = true → Nat.testBit (getA anc l) i = true
  | [], _, l, hl, _, _, _ => by simp at hl
  | m :: r, h, l, hl, o, ho, hlo => by
    unfold freeOf at h
    rcases List.mem_cons.1 hl with rfl | hl
    · rw [look?_eq, ho] at h
      simp only [hlo, Bool.true_and] at h
      cases hb : Nat.testBit (getA anc l) i with
      | true => rfl
      | false =>
        rw [hb] at h
        simp only [Bool.not_false] at h
        split at h <;> cases h
    · split at h
      · split at h
        · split at h <;> cases h
        · exact freeOf_none h l hl o ho hlo
      · exact freeOf_none h l hl o ho hlo
theorem freeOf_some {ops : List Oper} {anc : List (Nat × Nat)} {i : Nat} : ∀ {r : List Nat} {ks : List Nat}, freeOf ops anc i r = some ks → ∀ l ∈ r, ∀ o, ops[l]? = some o → loud o.op = true → Nat.testBit (getA anc l) i = false → ∀ k ∈ killOf o, k ∈ ks
  | [], ks, h, l, hl, _, _, _, _ => by simp at hl
  | m :: r, ks, h, l, hl, o, ho, hlo, hb => by
    unfold freeOf at h
    rcases List.mem_cons.1 hl with rfl | hl
    · rw [look?_eq, ho] at h
      simp only [hlo, Bool.true_and, hb, Bool.not_false] at h
      split at h
      · cases h; exact fun k hk => List.mem_append_left _ hk
      · cases h; exact fun k hk => hk
    · split at h
      · split at h
        · split at h
          · rename_i ks' hf
            cases h
            exact fun k hk => List.mem_append_right _ (freeOf_some hf l hl o ho hlo hb k hk)
          · rename_i hf
            have := freeOf_none hf l hl o ho hlo
            rw [hb] at this; cases this
        · exact freeOf_some h l hl o ho hlo hb
      · exact freeOf_some h l hl o ho hlo hb
theorem noMent_sub {ks ks' : List Nat} {d : D} (h : noMent ks d = true) (hs : ∀ k ∈ ks', k ∈ ks) : noMent ks' d = true := by
  unfold noMent at *
  rw [List.all_eq_true] at *
  exact fun k hk => h k (hs k hk)
theorem opOk_eff {P : Program} {R : List (Nat × AObj) → List D → Prop} {ops : List Oper} {anc : List (Nat × Nat)} {i : Nat} {r : List Nat} {o : Oper} {S : St} {e : Eff} (h : OpOk P R ops anc i r o S e) : e.dst = o.dst ∧ (∀ k ∈ e.ks, k ∈ killOf o) ∧ (loud o.op = false → ∃ d, e = .q o.dst d) := by
  obtain ⟨run, _, h0, h1⟩ := h
  cases run with
  | false =>
    rw [h0 rfl]
    exact ⟨rfl, by simp [Eff.ks], fun _ => ⟨_, rfl⟩⟩
  | true =>
    rcases h1 rfl with ⟨hl, h2⟩ | ⟨hl, d, he, _⟩
    · exact ⟨h2.1, h2.2.1, fun q => by rw [hl] at q; cases q⟩
    · rw [he]
      exact ⟨rfl, by simp [Eff.ks], fun _ => ⟨_, rfl⟩⟩
theorem trOk_mem {P : Program} {R : List (Nat × AObj) → List D → Prop} {ops : List Oper} {anc : List (Nat × Nat)} : ∀ (π : List Nat) (S : St) (es : List Eff), TrOk P R ops anc π S es → ∀ p ∈ π.zip es, p.1 ∈ π ∧ ∃ o, ops[p.1]? = some o ∧ p.2.dst = o.dst ∧ (∀ k ∈ p.2.ks, k ∈ killOf o) ∧ (loud o.op = false → ∃ d, p.2 = .q o.dst d)
  | [], S, es, h, p, hp => by simp at hp
  | i :: r, S, [], h, p, hp => by simp at hp
  | i :: r, S, e :: es, h, p, hp => by
    obtain ⟨⟨o, ho, h1⟩, h2⟩ := h
    rw [List.zip_cons_cons] at hp
    rcases List.mem_cons.1 hp with rfl | hp
    · rw [look?_eq] at ho
      exact ⟨by simp, o, ho, opOk_eff h1⟩
    · obtain ⟨q1, q2⟩ := trOk_mem r _ es h2 p hp
      exact ⟨List.mem_cons_of_mem _ q1, q2⟩
theorem trOk_split {P : Program} {R : List (Nat × AObj) → List D → Prop} {ops : List Oper} {anc : List (Nat × Nat)} : ∀ (π : List Nat) (S : St) (es : List Eff), TrOk P R ops anc π S es → ∀ i ∈ π, ∃ π1 π2 es1 e es2, π = π1 ++ i :: π2 ∧ es = es1 ++ e :: es2 ∧ es1.length = π1.length ∧ ∃ o, ops[i]? = some o ∧ OpOk P R ops anc i π2 o (foldE es1 S) e
  | [], S, es, h, i, hi => by simp at hi
  | j :: r, S, [], h, i, hi => h.elim
  | j :: r, S, e :: es, h, i, hi => by
    obtain ⟨⟨o, ho, h1⟩, h2⟩ := h
    by_cases hij : i = j
    · subst hij
      rw [look?_eq] at ho
      exact ⟨[], r, [], e, es, rfl, rfl, rfl, o, ho, h1⟩
    · rcases List.mem_cons.1 hi with q | hi
      · exact absurd q hij
      · obtain ⟨π1, π2, es1, e', es2, q1, q2, q3, o', q4, q5⟩ := trOk_split r _ es h2 i hi
        exact ⟨j :: π1, π2, e :: es1, e', es2, by simp [q1], by simp [q2], by simp [q3], o', q4, q5⟩
end Go.Proofs.Ytinckcpmkocakaa.AM
