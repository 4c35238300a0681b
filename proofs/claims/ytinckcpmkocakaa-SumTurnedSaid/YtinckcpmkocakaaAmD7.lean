/-
  The abstract machine, part 21h: a region in any order: what an operation meets.
-/
import Derived.Test.YtinckcpmkocakaaAmD6
set_option linter.unusedVariables false
set_option linter.unusedSimpArgs false
set_option linter.unusedSectionVars false
namespace Go.Proofs.Ytinckcpmkocakaa.AM
open Go Go.RowKit

theorem sel_true : ∀ (π : List Nat) (es : List Eff) (S : St), es.length = π.length → sel (fun _ => true) (π.zip es) S = foldE es S
  | [], [], S, _ => rfl
  | i :: π, e :: es, S, h => by
    rw [List.zip_cons_cons, sel_cons, if_pos rfl, sel_true π es _ (by simpa using h)]; rfl
  | [], _ :: _, S, h => by simp at h
  | _ :: _, [], S, h => by simp at h
theorem zip_split {π1 π2 : List Nat} {k : Nat} {es1 es2 : List Eff} {e : Eff} (h : es1.length = π1.length) : (π1 ++ k :: π2).zip (es1 ++ e :: es2) = π1.zip es1 ++ (k, e) :: π2.zip es2 := by
  rw [List.zip_append h.symm, List.zip_cons_cons]
section
variable {P : Program} {R : List (Nat × AObj) → List D → Prop} {ops : List Oper} {anc : List (Nat × Nat)} {π1 π2 : List Nat} {k : Nat} {es1 es2 : List Eff} {e : Eff} {S0 : St}
/-- Where an operation stands that may run now. -/
structure At (ops : List Oper) (anc : List (Nat × Nat)) (π1 π2 : List Nat) (k : Nat) (J : Nat → Bool) (o : Oper) : Prop where
  plan : Plan ops anc (π1 ++ k :: π2)
  closed : ∀ i o, J i = true → ops[i]? = some o → ∀ e ∈ o.after.toList, bindsA e = true → J e.on = true
  not : J k = false
  op : ops[k]? = some o
  deps : ∀ e ∈ o.after.toList, bindsA e = true → J e.on = true
theorem At.ne {J : Nat → Bool} {o : Oper} (h : At ops anc π1 π2 k J o) : k ∉ π1 ∧ k ∉ π2 ∧ ∀ i ∈ π1, i ∉ π2 := by
  have := h.plan.nodup
  rw [List.nodup_append] at this
  obtain ⟨h1, h2, h3⟩ := this
  have h4 := List.nodup_cons.1 h2
  exact ⟨fun q => h3 k q k (by simp) rfl, h4.1, fun i hi hj => h3 i hi i (List.mem_cons_of_mem _ hj) rfl⟩
/-- Who has not run, of those in front, is no predecessor, and has not k in front of him. -/
theorem At.front {J : Nat → Bool} {o : Oper} (h : At ops anc π1 π2 k J o) {i : Nat} (hi : i ∈ π1) (hj : J i = false) : Nat.testBit (getA anc k) i = false ∧ Nat.testBit (getA anc i) k = false := by
  constructor
  · cases hb : Nat.testBit (getA anc k) i with
    | false => rfl
    | true =>
      have := anc_in h.plan.anc (J := fun i => J i = true) h.closed k o h.op h.deps i hb
      rw [hj] at this; cases this
  · cases hb : Nat.testBit (getA anc i) k with
    | false => rfl
    | true =>
      obtain ⟨a, b, rfl⟩ := List.append_of_mem hi
      have := anc_front h.plan (π1 := a) (i := i) (π2 := b ++ k :: π2) (by simp) hb
      exact absurd (List.mem_append_left _ this) h.ne.1
/-- Who has run, of those behind, has k not in front of him either. -/
theorem At.behind {J : Nat → Bool} {o : Oper} (h : At ops anc π1 π2 k J o) {i : Nat} (hi : i ∈ π2) (hj : J i = true) : Nat.testBit (getA anc k) i = false ∧ Nat.testBit (getA anc i) k = false := by
  constructor
  · cases hb : Nat.testBit (getA anc k) i with
    | false => rfl
    | true => exact absurd hi (h.ne.2.2 i (anc_front h.plan rfl hb))
  · cases hb : Nat.testBit (getA anc i) k with
    | false => rfl
    | true =>
      have hlt := h.plan.lt i (by simp [hi])
      have := anc_in h.plan.anc (J := fun i => J i = true) h.closed i _ (List.getElem?_eq_getElem hlt) (fun e he hb => h.closed i _ hj (List.getElem?_eq_getElem hlt) e he hb) k hb
      rw [h.not] at this; cases this
/-- Loud ones in front have run. -/
theorem At.loudFront {J : Nat → Bool} {o : Oper} (h : At ops anc π1 π2 k J o) {i : Nat} (hi : i ∈ π1) {p : Oper} (hp : ops[i]? = some p) (hl : loud p.op = true) : J i = true := by
  cases hj : J i with
  | true => rfl
  | false =>
    obtain ⟨a, b, rfl⟩ := List.append_of_mem hi
    obtain ⟨o', q1, _, q3⟩ := h.plan.pos a i (b ++ k :: π2) (by simp)
    rw [hp] at q1; cases q1
    have := q3 hl k (by simp)
    rw [(h.front hi hj).1] at this; cases this
end
end Go.Proofs.Ytinckcpmkocakaa.AM
