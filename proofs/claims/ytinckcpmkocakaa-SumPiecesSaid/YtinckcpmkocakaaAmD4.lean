/-
  The abstract machine, part 21e: what the check of a region's order gives.
-/
import Derived.Test.YtinckcpmkocakaaAmD3
set_option linter.unusedVariables false
set_option linter.unusedSimpArgs false
set_option linter.unusedSectionVars false
namespace Go.Proofs.Ytinckcpmkocakaa.AM
open Go Go.RowKit

theorem bindsA_eq (e : Edge) : Region.binds .any e = bindsA e := by
  unfold Region.binds bindsA
  split <;> simp_all
theorem testBit_bset (n i : Nat) : Nat.testBit (bset n) i = decide (n = i) := by
  unfold bset
  show Nat.testBit (1 <<< n) i = _
  rw [Nat.one_shiftLeft, Nat.testBit_two_pow]
theorem depSet_mem {l : List Edge} {i : Nat} : Nat.testBit (depSet l) i = true ↔ ∃ e ∈ l, bindsA e = true ∧ e.on = i := by
  induction l with
  | nil => simp [depSet]
  | cons e r ih =>
    unfold depSet
    cases hb : bindsA e with
    | true =>
      show Nat.testBit (bset e.on ||| depSet r) i = true ↔ _
      rw [Nat.testBit_or, Bool.or_eq_true, ih, testBit_bset]
      simp [hb]
    | false => rw [ih]; simp [hb]
/-- A set of predecessors, and why each is in it. -/
def AncOk (ops : List Oper) (anc : List (Nat × Nat)) : Prop :=
  ∀ i j, Nat.testBit (getA anc i) j = true → ∃ o, ops[i]? = some o ∧ ∃ e ∈ o.after.toList, bindsA e = true ∧ (e.on = j ∨ (e.on < i ∧ Nat.testBit (getA anc e.on) j = true))
theorem ancOf_mem {acc : List (Nat × Nat)} {l : List Edge} {j : Nat} : Nat.testBit (ancOf acc l) j = true → ∃ e ∈ l, bindsA e = true ∧ (e.on = j ∨ Nat.testBit (getA acc e.on) j = true) := by
  induction l with
  | nil => simp [ancOf]
  | cons e r ih =>
    unfold ancOf
    cases hb : bindsA e with
    | true =>
      show Nat.testBit ((bset e.on ||| getA acc e.on) ||| ancOf acc r) j = true → _
      rw [Nat.testBit_or, Nat.testBit_or, Bool.or_eq_true, Bool.or_eq_true, testBit_bset]
      rintro ((h | h) | h)
      · exact ⟨e, by simp, hb, .inl (by simpa using h)⟩
      · exact ⟨e, by simp, hb, .inr h⟩
      · obtain ⟨e', h1, h2⟩ := ih h
        exact ⟨e', List.mem_cons_of_mem _ h1, h2⟩
    | false =>
      intro h
      obtain ⟨e', h1, h2⟩ := ih h
      exact ⟨e', List.mem_cons_of_mem _ h1, h2⟩
theorem ancGo_ok (ops : List Oper) : ∀ (l : List Oper) (i : Nat) (acc : List (Nat × Nat)), (∀ k, l[k]? = ops[i + k]?) → (∀ k, i ≤ k → getA acc k = 0) → AncOk ops acc → AncOk ops (ancGo i acc l)
  | [], i, acc, _, _, h => h
  | o :: r, i, acc, hl, h0, h => by
    unfold ancGo
    refine ancGo_ok ops r (i + 1) _ (fun k => by have := hl (k + 1); simpa [Nat.add_assoc, Nat.add_comm 1 k] using this) (fun k hk => ?_) (fun k j hj => ?_)
    · simp only [getA]
      have : Nat.beq i k = false := by
        cases hb : Nat.beq i k with
        | false => rfl
        | true => have := Nat.eq_of_beq_eq_true hb; omega
      rw [this]; exact h0 k (by omega)
    · have ho : ops[i]? = some o := by have := hl 0; simpa using this.symm
      have lift : ∀ m j, Nat.testBit (getA acc m) j = true → m < i ∧ Nat.testBit (getA ((i, ancOf acc o.after.toList) :: acc) m) j = true := by
        intro m j hm
        have hmi : m < i := by
          rcases Nat.lt_or_ge m i with q | q
          · exact q
          · rw [h0 m q] at hm; simp at hm
        refine ⟨hmi, ?_⟩
        simp only [getA]
        have : Nat.beq i m = false := by
          cases hb : Nat.beq i m with
          | false => rfl
          | true => have := Nat.eq_of_beq_eq_true hb; omega
        rw [this]; exact hm
      simp only [getA] at hj
      cases hb : Nat.beq i k with
      | true =>
        rw [hb] at hj
        have hik : i = k := Nat.eq_of_beq_eq_true hb
        subst hik
        obtain ⟨e, h1, h2, h3⟩ := ancOf_mem hj
        exact ⟨o, ho, e, h1, h2, h3.imp id fun h3 => lift _ _ h3⟩
      | false =>
        rw [hb] at hj
        obtain ⟨o', q1, e, q2, q3, q4⟩ := h k j hj
        exact ⟨o', q1, e, q2, q3, q4.imp id fun q4 => ⟨q4.1, (lift _ _ q4.2).2⟩⟩

/-- What the check of an order gives. -/
structure Plan (ops : List Oper) (anc : List (Nat × Nat)) (π : List Nat) : Prop where
  nodup : π.Nodup
  lt : ∀ i ∈ π, i < ops.length
  all : ∀ i, i < ops.length → i ∈ π
  pos : ∀ π1 i π2, π = π1 ++ i :: π2 → ∃ o, ops[i]? = some o ∧ (∀ e ∈ o.after.toList, bindsA e = true → e.on ∈ π1) ∧ (loud o.op = true → ∀ k ∈ π2, Nat.testBit (getA anc k) i = true)
  meet : ∀ i j o p, i ≠ j → ops[i]? = some o → ops[j]? = some p → meets ops o p = true → Nat.testBit (getA anc i) j = true ∨ Nat.testBit (getA anc j) i = true
  anc : AncOk ops anc
theorem posOk_spec {ops : List Oper} {anc : List (Nat × Nat)} : ∀ (π : List Nat) (done : Nat) (d : List Nat), (∀ i, Nat.testBit done i = true → i ∈ d) → posOk ops anc done π = true → ∀ π1 i π2, π = π1 ++ i :: π2 →
    ∃ o, ops[i]? = some o ∧ (∀ e ∈ o.after.toList, bindsA e = true → e.on ∈ d ++ π1) ∧ (loud o.op = true → ∀ k ∈ π2, Nat.testBit (getA anc k) i = true)
  | [], done, d, hd, h, π1, i, π2, e => by simp at e
  | j :: r, done, d, hd, h, π1, i, π2, e => by
    unfold posOk at h
    split at h
    · rename_i o ho
      rw [look?_eq] at ho
      simp only [Bool.and_eq_true, Bool.or_eq_true, Bool.not_eq_true'] at h
      obtain ⟨⟨⟨_, h1⟩, h2⟩, h3⟩ := h
      cases π1 with
      | nil =>
        simp only [List.nil_append, List.cons.injEq] at e
        obtain ⟨rfl, rfl⟩ := e
        refine ⟨o, ho, fun x hx hb => ?_, fun hl k hk => ?_⟩
        · have h4 : Nat.land (depSet o.after.toList) done = depSet o.after.toList := Nat.eq_of_beq_eq_true h1
          have h5 : Nat.testBit (depSet o.after.toList) x.on = true := depSet_mem.2 ⟨x, hx, hb, rfl⟩
          rw [← h4] at h5
          have h6 : Nat.testBit (depSet o.after.toList &&& done) x.on = true := h5
          rw [Nat.testBit_and, Bool.and_eq_true] at h6
          rw [List.append_nil]
          exact hd _ h6.2
        · rcases h2 with h2 | h2
          · rw [hl] at h2; cases h2
          · exact List.all_eq_true.1 h2 k hk
      | cons x π1 =>
        simp only [List.cons_append, List.cons.injEq] at e
        obtain ⟨rfl, rfl⟩ := e
        obtain ⟨o', q1, q2, q3⟩ := posOk_spec _ _ (d ++ [j]) (fun m hm => by
          have hm' : Nat.testBit (done ||| bset j) m = true := hm
          rw [Nat.testBit_or, Bool.or_eq_true, testBit_bset] at hm'
          rcases hm' with q | q
          · exact List.mem_append_left _ (hd m q)
          · simp at q; simp [q]) h3 π1 i π2 rfl
        exact ⟨o', q1, fun e he hb => by have := q2 e he hb; simpa using this, q3⟩
    · cases h
theorem posOk_nodup {ops : List Oper} {anc : List (Nat × Nat)} : ∀ (π : List Nat) (done : Nat), posOk ops anc done π = true → π.Nodup ∧ (∀ i ∈ π, Nat.testBit done i = false ∧ i < ops.length)
  | [], done, h => ⟨List.nodup_nil, by simp⟩
  | j :: r, done, h => by
    unfold posOk at h
    split at h
    · rename_i o ho
      rw [look?_eq] at ho
      simp only [Bool.and_eq_true, Bool.or_eq_true, Bool.not_eq_true'] at h
      obtain ⟨⟨⟨h0, _⟩, _⟩, h3⟩ := h
      obtain ⟨k1, k2⟩ := posOk_nodup r _ h3
      have hbit : ∀ i, Nat.testBit (Nat.lor done (bset j)) i = (Nat.testBit done i || decide (j = i)) := fun i => by
        show Nat.testBit (done ||| bset j) i = _
        rw [Nat.testBit_or, testBit_bset]
      refine ⟨List.nodup_cons.2 ⟨fun hj => ?_, k1⟩, fun i hi => ?_⟩
      · have := (k2 j hj).1
        rw [hbit] at this
        simp at this
      · rcases List.mem_cons.1 hi with rfl | hi
        · exact ⟨h0, (List.getElem?_eq_some_iff.1 ho).1⟩
        · have := (k2 i hi).1
          rw [hbit, Bool.or_eq_false_iff] at this
          exact ⟨this.1, (k2 i hi).2⟩
    · cases h
theorem plan_of {ops : List Oper} (h : drawOk ops = true) : Plan ops (ancGo 0 [] ops) (orderOf ops) := by
  unfold drawOk at h
  simp only [Bool.and_eq_true] at h
  obtain ⟨⟨⟨_, h2⟩, h3⟩, h4⟩ := h
  obtain ⟨n1, n2⟩ := posOk_nodup _ _ h3
  refine ⟨n1, fun i hi => (n2 i hi).2, fun i hi => ?_, fun π1 i π2 e => ?_, fun i j o p hij hi hj hm => ?_, ?_⟩
  · have := List.all_eq_true.1 h2 i (List.mem_range.2 hi)
    simpa using this
  · obtain ⟨o, q1, q2, q3⟩ := posOk_spec _ 0 [] (fun i hi => by simp at hi) h3 π1 i π2 e
    exact ⟨o, q1, fun e he hb => by have := q2 e he hb; simpa using this, q3⟩
  · have hi' := (List.getElem?_eq_some_iff.1 hi).1
    have hj' := (List.getElem?_eq_some_iff.1 hj).1
    have h5 := List.all_eq_true.1 (List.all_eq_true.1 h4 i (List.mem_range.2 hi')) j (List.mem_range.2 hj')
    rw [look?_eq, look?_eq, hi, hj] at h5
    simp only [Bool.or_eq_true, Bool.not_eq_true'] at h5
    rcases h5 with ((h5 | h5) | h5) | h5
    · exact absurd (Nat.eq_of_beq_eq_true h5) hij
    · rw [hm] at h5; cases h5
    · exact .inl h5
    · exact .inr h5
  · exact ancGo_ok ops ops 0 [] (fun k => by simp) (fun k _ => rfl) (fun i j hj => by simp [getA] at hj)

/-- Who is in a closed set, has all his predecessors there; and they stand in front. -/
theorem anc_in {ops : List Oper} {anc : List (Nat × Nat)} (ha : AncOk ops anc) {J : Nat → Prop} (hJ : ∀ i o, J i → ops[i]? = some o → ∀ e ∈ o.after.toList, bindsA e = true → J e.on) : ∀ (i : Nat) (o : Oper), ops[i]? = some o → (∀ e ∈ o.after.toList, bindsA e = true → J e.on) → ∀ j, Nat.testBit (getA anc i) j = true → J j := by
  intro i
  induction i using Nat.strongRecOn with
  | _ i ih =>
    intro o ho hd j hj
    obtain ⟨o', q1, e, q2, q3, q4⟩ := ha i j hj
    rw [ho] at q1; cases q1
    rcases q4 with rfl | ⟨hlt, q4⟩
    · exact hd e q2 q3
    · obtain ⟨o2, r1, _⟩ := ha e.on j q4
      exact ih e.on hlt o2 r1 (fun e2 he2 hb2 => hJ _ _ (hd e q2 q3) r1 e2 he2 hb2) j q4
theorem anc_front {ops : List Oper} {anc : List (Nat × Nat)} {π : List Nat} (p : Plan ops anc π) {π1 π2 : List Nat} {i j : Nat} (e : π = π1 ++ i :: π2) (h : Nat.testBit (getA anc i) j = true) : j ∈ π1 := by
  obtain ⟨o, ho, hd, _⟩ := p.pos π1 i π2 e
  refine anc_in p.anc (J := fun k => k ∈ π1) (fun k ok hk hok x hx hb => ?_) i o ho hd j h
  obtain ⟨a, b, rfl⟩ := List.append_of_mem hk
  obtain ⟨o', q1, q2, _⟩ := p.pos a k (b ++ i :: π2) (by simp [e])
  rw [hok] at q1; cases q1
  exact List.mem_append_left _ (q2 x hx hb)
end Go.Proofs.Ytinckcpmkocakaa.AM
