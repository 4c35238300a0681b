/-
  The abstract machine, part 21k: a region in any order: all of it.
-/
import Derived.Test.YtinckcpmkocakaaAmD9
set_option linter.unusedVariables false
set_option linter.unusedSimpArgs false
set_option linter.unusedSectionVars false
namespace Go.Proofs.Ytinckcpmkocakaa.AM
open Go Go.RowKit
theorem yielded_of {ops : List Oper} {j t : Nat} {p : Oper} (h : look? ops j = some p) (hp : p.dst = some t) {tmps : Array Value} :
    (∀ b, tmps.getD t undef = .bool b → yielded ops.toArray tmps j = some b) ∧ ((∀ b, tmps.getD t undef ≠ .bool b) → yielded ops.toArray tmps j = none) := by
  rw [look?_eq] at h
  have h1 : (ops.toArray[j]?).bind (·.dst) = some t := by simp [h, hp]
  unfold yielded
  rw [h1]
  simp only [Option.bind_some]
  constructor
  · intro b hb
    cases ht : tmps[t]? with
    | none =>
      have : tmps.getD t undef = undef := by simp [Array.getD_eq_getD_getElem?, ht]
      rw [this] at hb; simp [undef] at hb
    | some v =>
      have : tmps.getD t undef = v := by simp [Array.getD_eq_getD_getElem?, ht]
      rw [this] at hb; subst hb; rfl
  · intro hb
    cases ht : tmps[t]? with
    | none => rfl
    | some v =>
      have : tmps.getD t undef = v := by simp [Array.getD_eq_getD_getElem?, ht]
      cases v with
      | bool b => exact absurd this (hb b)
      | _ => rfl
/-- How a guard decides, in the machine. -/
theorem wanted_of {G : Gh} {E : Env} {ok : Oks} {ops : List Oper} {o : Oper} {S S' : St} {a : Act} {w : World} {run : Bool} (c : Conc G E ok S' a w) (hg : GOk ops o S run) (hs : ∀ t ∈ looks ops o, (∀ ks, noMent ks (S.get t) = true) → S'.get t = S.get t) : Region.wanted o (yielded ops.toArray a.tmps) = run := by
  rcases hg with ⟨h1, h2⟩ | ⟨j, want, p, t, h1, h2, h3, h4⟩
  · rw [h2]; simp [Region.wanted, h1]
  · have ht : t ∈ looks ops o := by
      unfold looks
      refine List.mem_append_right _ ?_
      rw [h1]; simp only [h2, h3]; simp
    have hno : ∀ ks, noMent ks (S.get t) = true := fun ks => by
      rcases h4 with ⟨b, h5, _⟩ | ⟨h5, _⟩ <;> rw [h5] <;> simp [noMent, mentions]
    have hv := c.slot t
    rw [hs t ht hno] at hv
    obtain ⟨y1, y2⟩ := yielded_of (tmps := a.tmps) h2 h3
    rcases h4 with ⟨b, h5, h6⟩ | ⟨h5, h6⟩
    · rw [h5] at hv
      rw [h6]
      simp [Region.wanted, h1, y1 b (repD_lit hv)]
    · rw [h5] at hv
      rw [h6]
      have : ∀ b, a.tmps.getD t undef ≠ .bool b := by
        intro b hb
        rw [hb] at hv
        cases hv; rename_i q; cases q
      simp [Region.wanted, h1, y2 this]
/-- The first of the order that has not run may run. -/
theorem first_ready {ops : List Oper} {anc : List (Nat × Nat)} {π : List Nat} (p : Plan ops anc π) {J : Nat → Bool} : ∀ (π1 π2 : List Nat), π = π1 ++ π2 → (∀ i ∈ π1, J i = true) → (∀ i ∈ π2, J i = true) ∨ ∃ a k b o, π = a ++ k :: b ∧ J k = false ∧ ops[k]? = some o ∧ ∀ e ∈ o.after.toList, bindsA e = true → J e.on = true
  | π1, [], _, _ => .inl (by simp)
  | π1, k :: r, e, h => by
    cases hk : J k with
    | true =>
      rcases first_ready p (π1 ++ [k]) r (by simp [e]) (fun i hi => by
        rcases List.mem_append.1 hi with hi | hi
        · exact h i hi
        · simp at hi; subst hi; exact hk) with q | q
      · exact .inl fun i hi => by
          rcases List.mem_cons.1 hi with rfl | hi
          · exact hk
          · exact q i hi
      · exact .inr q
    | false =>
      obtain ⟨o, ho, hd, _⟩ := p.pos π1 k r e
      exact .inr ⟨π1, k, r, o, e, hk, ho, fun x hx hb => h _ (hd x hx hb)⟩
end Go.Proofs.Ytinckcpmkocakaa.AM
