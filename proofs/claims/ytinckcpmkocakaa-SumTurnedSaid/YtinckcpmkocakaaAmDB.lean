/-
  The abstract machine, part 21l: a region in any order: all orders.
-/
import Derived.Test.YtinckcpmkocakaaAmDA
set_option linter.unusedVariables false
set_option linter.unusedSimpArgs false
set_option linter.unusedSectionVars false
namespace Go.Proofs.Ytinckcpmkocakaa.AM
open Go Go.RowKit
/-- How many have not run. -/
def left (n : Nat) (listed : Array Bool) : Nat := ((List.range n).filter fun i => !listed.getD i true).length
theorem getD_lt {listed : Array Bool} {i : Nat} (h : i < listed.size) (d : Bool) : listed.getD i d = listed[i] := by simp [h]
theorem left_pos {n : Nat} {listed : Array Bool} {i : Nat} (hi : i < n) (h : listed.getD i true = false) : 0 < left n listed :=
  List.length_pos_of_mem (List.mem_filter.2 ⟨List.mem_range.2 hi, by simpa using h⟩)
theorem left_set {n : Nat} {listed : Array Bool} {i : Nat} (hi : i < n) (hs : listed.size = n) (h : listed.getD i true = false) : left n (listed.setIfInBounds i true) < left n listed := by
  unfold left
  have h1 : ((List.range n).filter fun j => !(listed.setIfInBounds i true).getD j true) = ((List.range n).filter fun j => !listed.getD j true).filter fun j => !(j == i) := by
    rw [List.filter_filter]
    refine List.filter_congr fun j hj => ?_
    have hj' := List.mem_range.1 hj
    by_cases e : j = i
    · subst e
      simp [Array.getD_eq_getD_getElem?, hs, hj']
    · rw [getD_set_ne true (Ne.symm e)]
      simp [e]
  rw [h1]
  refine List.length_filter_lt_length_iff_exists.2 ⟨i, List.mem_filter.2 ⟨List.mem_range.2 hi, by simpa using h⟩, by simp⟩
section
variable {P : Program} {R : List (Nat × AObj) → List D → Prop} (hT : tableOf P = T) {ops : List Oper} {anc : List (Nat × Nat)} {π : List Nat} {es : List Eff} {S0 : St}
include hT
theorem any_sound {G : Gh} (p : Plan ops anc π) (tr : TrOk P R ops anc π S0 es) {Q : Exit → Act → World → Prop} (hQ : ∀ a w J, (∀ i ∈ π, J i = true) → Inv G (π.zip es) S0 J a w → Q .normal a w) :
    ∀ (fuel : Nat) (listed : Array Bool) (a : Act) (w : World), listed.size = ops.length → (∀ i o, listed.getD i false = true → ops[i]? = some o → ∀ e ∈ o.after.toList, bindsA e = true → listed.getD e.on false = true) → left ops.length listed ≤ fuel →
      Inv G (π.zip es) S0 (fun i => listed.getD i false) a w → wpAny P .any ops.toArray Q fuel listed a w := by
  intro fuel
  induction fuel using Nat.strongRecOn with
  | _ fuel ih =>
    intro listed a w hs hc hn hi
    have bit : ∀ i, i < ops.length → listed.getD i true = listed.getD i false := fun i h => by rw [getD_lt (by omega), getD_lt (by omega)]
    have done : Region.ready .any ops.toArray listed = [] → Q .normal a w := fun hr => by
      rcases first_ready p (J := fun i => listed.getD i false) [] π rfl (by simp) with q | ⟨x, k, y, o, e, hk, ho, hd⟩
      · exact hQ a w _ q hi
      · have hlt := (List.getElem?_eq_some_iff.1 ho).1
        have : k ∈ Region.ready .any ops.toArray listed := mem_ready.2 ⟨by rw [bit k hlt]; exact hk, o, by simpa using ho, fun e he hb => hd e (by simpa using he) (by rw [← bindsA_eq]; exact hb)⟩
        rw [hr] at this; cases this
    cases hf : fuel with
    | zero =>
      have hr : Region.ready .any ops.toArray listed = [] := by
        cases hr : Region.ready .any ops.toArray listed with
        | nil => rfl
        | cons i r =>
          obtain ⟨h1, o, h2, _⟩ := mem_ready.1 (hr ▸ List.mem_cons_self : i ∈ Region.ready .any ops.toArray listed)
          have hlt : i < ops.length := by have := (Array.getElem?_eq_some_iff.1 h2).1; simpa using this
          have := left_pos hlt h1
          omega
      exact ⟨hr, done hr⟩
    | succ m =>
      refine ⟨done, fun i hri => ?_⟩
      obtain ⟨h1, o, h2, h3⟩ := mem_ready.1 hri
      have ho : ops[i]? = some o := by simpa using h2
      have hlt := (List.getElem?_eq_some_iff.1 ho).1
      obtain ⟨π1, π2, es1, e, es2, rfl, rfl, hl, o', ho', hop⟩ := trOk_split π S0 es tr i (p.all i hlt)
      rw [ho] at ho'; cases ho'
      have hat : At ops anc π1 π2 i (fun i => listed.getD i false) o := ⟨p, hc, by rw [← bit i hlt]; exact h1, ho, fun e he hb => h3 e (by simpa using he) (by rw [bindsA_eq]; exact hb)⟩
      obtain ⟨E, ok, S', he, c⟩ := hi
      obtain ⟨run, hg, k1, k2⟩ := hat.step hT hl tr hop he c Q
      have hw := wanted_of c hg fun t ht hno => (he.get t).trans (hat.slot hl tr ht fun _ _ _ _ _ _ => hno _)
      have next : ∀ a' w', Inv G ((π1 ++ i :: π2).zip (es1 ++ e :: es2)) S0 (addJ (fun i => listed.getD i false) i) a' w' → wpAny P .any ops.toArray Q m (listed.setIfInBounds i true) a' w' := fun a' w' q => by
        have hJ : (fun j => (listed.setIfInBounds i true).getD j false) = addJ (fun j => listed.getD j false) i := by
          funext j
          by_cases e : i = j
          · subst e; simp [addJ, Array.getD_eq_getD_getElem?, hs, hlt]
          · rw [getD_set_ne false e]; simp [addJ, Ne.symm e]
        refine ih m (by omega) _ a' w' (by simpa using hs) (fun j o2 hj ho2 e2 he2 hb2 => ?_) (by have := left_set hlt hs h1; omega) (by rw [hJ]; exact q)
        by_cases e : i = j
        · subst e
          rw [ho] at ho2; cases ho2
          exact getD_set_true (hat.deps e2 he2 hb2)
        · rw [getD_set_ne false e] at hj
          exact getD_set_true (hc j o2 hj ho2 e2 he2 hb2)
      unfold wpOp
      rw [h2]
      simp only
      rw [hw]
      cases run with
      | true => rw [if_pos rfl]; exact .inl (Oper.wp_mono (fun a' w' q => next a' w' q) (k1 rfl))
      | false => rw [if_neg (by simp)]; exact next _ _ (k2 rfl)
end
end Go.Proofs.Ytinckcpmkocakaa.AM
