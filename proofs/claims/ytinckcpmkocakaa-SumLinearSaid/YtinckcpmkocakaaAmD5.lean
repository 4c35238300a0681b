/-
  The abstract machine, part 21f: a region in any order.
-/
import Derived.Test.YtinckcpmkocakaaAmD4
set_option linter.unusedVariables false
set_option linter.unusedSimpArgs false
set_option linter.unusedSectionVars false
namespace Go.Proofs.Ytinckcpmkocakaa.AM
open Go Go.RowKit

/-- The effects of those that have run, in the order of evaluation. -/
def sel (J : Nat → Bool) (L : List (Nat × Eff)) (S : St) : St := foldE ((L.filter fun p => J p.1).map (·.2)) S
theorem sel_nil (J : Nat → Bool) (S : St) : sel J [] S = S := rfl
theorem sel_cons (J : Nat → Bool) (p : Nat × Eff) (L : List (Nat × Eff)) (S : St) : sel J (p :: L) S = if J p.1 = true then sel J L (p.2.app S) else sel J L S := by
  unfold sel foldE
  by_cases h : J p.1 = true
  · simp [List.filter_cons, h]
  · simp [List.filter_cons, h]
theorem sel_append (J : Nat → Bool) (L1 L2 : List (Nat × Eff)) (S : St) : sel J (L1 ++ L2) S = sel J L2 (sel J L1 S) := by
  unfold sel foldE
  simp [List.filter_append, List.foldl_append]
theorem sel_eqv (J : Nat → Bool) : ∀ (L : List (Nat × Eff)) {S S' : St}, Eqv S S' → Eqv (sel J L S) (sel J L S')
  | [], S, S', h => h
  | p :: L, S, S', h => by
    rw [sel_cons, sel_cons]
    split
    · exact sel_eqv J L (h.app p.2)
    · exact sel_eqv J L h
theorem sel_congr {J J' : Nat → Bool} : ∀ (L : List (Nat × Eff)) (S : St), (∀ p ∈ L, J p.1 = J' p.1) → sel J L S = sel J' L S
  | [], S, h => rfl
  | p :: L, S, h => by
    rw [sel_cons, sel_cons, h p (by simp)]
    split
    · exact sel_congr L _ fun q hq => h q (List.mem_cons_of_mem _ hq)
    · exact sel_congr L _ fun q hq => h q (List.mem_cons_of_mem _ hq)
theorem sel_n (J : Nat → Bool) : ∀ (L : List (Nat × Eff)) (S : St), (sel J L S).n = S.n
  | [], S => rfl
  | p :: L, S => by
    rw [sel_cons]
    split
    · rw [sel_n J L, n_app]
    · exact sel_n J L S
/-- An effect that meets nothing behind it may come last. -/
theorem sel_comm (J : Nat → Bool) {dst : Option Nat} {d : D} : ∀ (L : List (Nat × Eff)) (S : St), (∀ p ∈ L, J p.1 = true → (∀ t, dst = some t → p.2.dst ≠ some t) ∧ noMent p.2.ks d = true) → Eqv (sel J L ((Eff.q dst d).app S)) ((Eff.q dst d).app (sel J L S))
  | [], S, h => Eqv.refl _
  | p :: L, S, h => by
    rw [sel_cons, sel_cons]
    split
    · rename_i hp
      obtain ⟨h1, h2⟩ := h p (by simp) hp
      exact (sel_eqv J L (comm h1 h2 S)).trans (sel_comm J L _ fun q hq => h q (List.mem_cons_of_mem _ hq))
    · exact sel_comm J L _ fun q hq => h q (List.mem_cons_of_mem _ hq)
/-- What is left out in front does not matter to a slot that it does not touch. -/
theorem sel_skip (J : Nat → Bool) {t : Nat} : ∀ (L : List (Nat × Eff)) {S S' : St}, S.n = S'.n → S.get t = S'.get t → (∀ p ∈ L, J p.1 = false → ∃ dst d, p.2 = .q dst d ∧ dst ≠ some t) → (sel J L S).get t = (sel (fun _ => true) L S').get t
  | [], S, S', hn, h, _ => h
  | p :: L, S, S', hn, h, hs => by
    rw [sel_cons, sel_cons, if_pos rfl]
    split
    · exact sel_skip J L (by rw [n_app, n_app]; exact hn) (app_get p.2 hn h) fun q hq => hs q (List.mem_cons_of_mem _ hq)
    · rename_i hp
      obtain ⟨dst, d, e, hd⟩ := hs p (by simp) (by simpa using hp)
      refine sel_skip J L (by rw [n_app]; exact hn) ?_ fun q hq => hs q (List.mem_cons_of_mem _ hq)
      rw [e]
      simp only [Eff.app, get_put]
      rw [if_neg (fun q => hd q.1)]
      exact h
theorem sel_skip_ob (J : Nat → Bool) : ∀ (L : List (Nat × Eff)) {S S' : St}, S.ob = S'.ob → (∀ p ∈ L, J p.1 = false → ∃ dst d, p.2 = .q dst d) → (sel J L S).ob = (sel (fun _ => true) L S').ob
  | [], S, S', h, _ => h
  | p :: L, S, S', h, hs => by
    rw [sel_cons, sel_cons, if_pos rfl]
    split
    · exact sel_skip_ob J L (app_ob p.2 h) fun q hq => hs q (List.mem_cons_of_mem _ hq)
    · rename_i hp
      obtain ⟨dst, d, e⟩ := hs p (by simp) (by simpa using hp)
      refine sel_skip_ob J L ?_ fun q hq => hs q (List.mem_cons_of_mem _ hq)
      rw [e, ob_app_q]; exact h
/-- What runs behind does not matter to a slot that it does not touch, nor to what it does not name. -/
theorem sel_behind (J : Nat → Bool) {t : Nat} : ∀ (L : List (Nat × Eff)) (S : St), (∀ p ∈ L, J p.1 = true → p.2.dst ≠ some t ∧ noMent p.2.ks (S.get t) = true) → (sel J L S).get t = S.get t
  | [], S, _ => rfl
  | p :: L, S, h => by
    rw [sel_cons]
    split
    · rename_i hp
      obtain ⟨h1, h2⟩ := h p (by simp) hp
      have e : (p.2.app S).get t = S.get t := by
        cases he : p.2 with
        | q dst d =>
          rw [he] at h1
          simp only [Eff.app, get_put]
          rw [if_neg (fun q => h1 q.1)]
        | l dst d ks ob =>
          rw [he] at h1 h2
          rw [get_app_l, if_neg (fun q => h1 q.1)]
          exact unDs_same ks _ h2
      rw [sel_behind J L _ (fun q hq hj => by rw [e]; exact h q (List.mem_cons_of_mem _ hq) hj), e]
    · exact sel_behind J L S fun q hq => h q (List.mem_cons_of_mem _ hq)
theorem sel_behind_ob (J : Nat → Bool) : ∀ (L : List (Nat × Eff)) (S : St), (∀ p ∈ L, J p.1 = true → ∃ dst d, p.2 = .q dst d) → (sel J L S).ob = S.ob
  | [], S, _ => rfl
  | p :: L, S, h => by
    rw [sel_cons]
    split
    · rename_i hp
      obtain ⟨dst, d, e⟩ := h p (by simp) hp
      rw [sel_behind_ob J L _ fun q hq => h q (List.mem_cons_of_mem _ hq), e, ob_app_q]
    · exact sel_behind_ob J L S fun q hq => h q (List.mem_cons_of_mem _ hq)
end Go.Proofs.Ytinckcpmkocakaa.AM
