/-
  The abstract machine, part 21g: a region in any order: the step.
-/
import Derived.Test.YthioccbgjkbmdaaM090ecfb55e
set_option linter.unusedVariables false
set_option linter.unusedSimpArgs false
set_option linter.unusedSectionVars false
namespace Go.Proofs.Ythioccbgjkbmdaa.AM
open Go Go.RowKit

theorem freeOf_none {ops : List Oper} {anc : List (Nat × Nat)} {i : Nat} : ∀ {r : List Nat}, freeOf ops anc i r = none → ∀ l ∈ r, ∀ o, ops[l]? = some o → loud o.op = true → Nat.testBit (getA anc l) i = true
  | [], _, l, hl, _, _, _ => by simp at hl
  | m :: r, h, l, hl, o, ho, hlo => by
    unfold freeOf at h
    rcases List.mem_cons.1 hl with rfl | hl
    · rw [look?_eq, ho] at h
      simp only [hlo, Bool.true_and] at h
      cases hb : Nat.testBit (getA anc l) i with
      | true => rfl
      | false =>
        rw [hb] at h
        simp only [Bool.not_false] at h
        split at h <;> cases h
    · split at h
      · split at h
        · split at h <;> cases h
        · exact freeOf_none h l hl o ho hlo
      · exact freeOf_none h l hl o ho hlo
theorem freeOf_some {ops : List Oper} {anc : List (Nat × Nat)} {i : Nat} : ∀ {r : List Nat} {ks : List Nat}, freeOf ops anc i r = some ks → ∀ l ∈ r, ∀ o, ops[l]? = some o → loud o.op = true → Nat.testBit (getA anc l) i = false → ∀ k ∈ killOf o, k ∈ ks
  | [], ks, h, l, hl, _, _, _, _ => by simp at hl
  | m :: r, ks, h, l, hl, o, ho, hlo, hb => by
    unfold freeOf at h
    rcases List.mem_cons.1 hl with rfl | hl
    · rw [look?_eq, ho] at h
      simp only [hlo, Bool.true_and, hb, Bool.not_false] at h
      split at h
      · cases h; exact fun k hk => List.mem_append_left _ hk
      · cases h; exact fun k hk => hk
    · split at h
      · split at h
        · split at h
          · rename_i ks' hf
            cases h
            exact fun k hk => List.mem_append_right _ (freeOf_some hf l hl o ho hlo hb k hk)
          · rename_i hf
            have := freeOf_none hf l hl o ho hlo
            rw [hb] at this; cases this
        · exact freeOf_some h l hl o ho hlo hb
      · exact freeOf_some h l hl o ho hlo hb
theorem noMent_sub {ks ks' : List Nat} {d : D} (h : noMent ks d = true) (hs : ∀ k ∈ ks', k ∈ ks) : noMent ks' d = true := by
  unfold noMent at *
  rw [List.all_eq_true] at *
  exact fun k hk => h k (hs k hk)
theorem opOk_eff {P : Program} {R : List (Nat × AObj) → List D → Prop} {ops : List Oper} {anc : List (Nat × Nat)} {i : Nat} {r : List Nat} {W W' : Wat} {o : Oper} {S : St} {e : Eff} (h : OpOk P R ops anc i r W W' o S e) : e.dst = o.dst ∧ (∀ k ∈ e.ks, k ∈ killOf o) ∧ (loud o.op = false → ∃ d, e = .q o.dst d) := by
  obtain ⟨run, _, h0, h1⟩ := h
  cases run with
  | false =>
    rw [h0 rfl]
    exact ⟨rfl, by simp [Eff.ks], fun _ => ⟨_, rfl⟩⟩
  | true =>
    rcases h1 rfl with ⟨hl, h2⟩ | ⟨hl, d, he, _⟩
    · exact ⟨h2.1.1, h2.1.2.1, fun q => by rw [hl] at q; cases q⟩
    · rw [he]
      exact ⟨rfl, by simp [Eff.ks], fun _ => ⟨_, rfl⟩⟩
theorem trOk_mem {P : Program} {R : List (Nat × AObj) → List D → Prop} {ops : List Oper} {anc : List (Nat × Nat)} : ∀ (W : Wat) (π : List Nat) (S : St) (es : List Eff), TrOk P R ops anc W π S es → ∀ p ∈ π.zip es, p.1 ∈ π ∧ ∃ o, ops[p.1]? = some o ∧ p.2.dst = o.dst ∧ (∀ k ∈ p.2.ks, k ∈ killOf o) ∧ (loud o.op = false → ∃ d, p.2 = .q o.dst d)
  | _, [], S, es, h, p, hp => by simp at hp
  | _, i :: r, S, [], h, p, hp => by simp at hp
  | W, i :: r, S, e :: es, h, p, hp => by
    obtain ⟨W', ⟨o, ho, h1⟩, _, h2⟩ := h
    rw [List.zip_cons_cons] at hp
    rcases List.mem_cons.1 hp with rfl | hp
    · rw [look?_eq] at ho
      exact ⟨by simp, o, ho, opOk_eff h1⟩
    · obtain ⟨q1, q2⟩ := trOk_mem W' r _ es h2 p hp
      exact ⟨List.mem_cons_of_mem _ q1, q2⟩
theorem trOk_split {P : Program} {R : List (Nat × AObj) → List D → Prop} {ops : List Oper} {anc : List (Nat × Nat)} : ∀ (W : Wat) (π : List Nat) (S : St) (es : List Eff), TrOk P R ops anc W π S es → ∀ i ∈ π, ∃ π1 π2 es1 e es2, π = π1 ++ i :: π2 ∧ es = es1 ++ e :: es2 ∧ es1.length = π1.length ∧ ∃ o, ops[i]? = some o ∧ ∃ W1 W2, OpOk P R ops anc i π2 W1 W2 o (foldE es1 S) e ∧ TrOk P R ops anc W2 π2 (e.app (foldE es1 S)) es2
  | _, [], S, es, h, i, hi => by simp at hi
  | _, j :: r, S, [], h, i, hi => h.elim
  | W, j :: r, S, e :: es, h, i, hi => by
    obtain ⟨W', ⟨o, ho, h1⟩, h3, h2⟩ := h
    by_cases hij : i = j
    · subst hij
      rw [look?_eq] at ho
      exact ⟨[], r, [], e, es, rfl, rfl, rfl, o, ho, W, W', h1, h2⟩
    · rcases List.mem_cons.1 hi with q | hi
      · exact absurd q hij
      · obtain ⟨π1, π2, es1, e', es2, q1, q2, q3, o', q4, W1, W2, q5, q6⟩ := trOk_split W' r _ es h2 i hi
        exact ⟨j :: π1, π2, e :: es1, e', es2, by simp [q1], by simp [q2], by simp [q3], o', q4, W1, W2, q5, q6⟩
/-- What is watched stays, while those behind run. -/
theorem watch_ob {P : Program} {R : List (Nat × AObj) → List D → Prop} {ops : List Oper} {anc : List (Nat × Nat)} {J : Nat → Bool} {k : Nat} {U : List Nat} : ∀ (W : Wat) (π : List Nat) (S : St) (es : List Eff) (X : St), TrOk P R ops anc W π S es → X.ob = S.ob → (k, U) ∈ W → (∀ i ∈ π, J i = true → Nat.testBit (getA anc i) k = false) →
    (∀ a i b, π = a ++ i :: b → ∀ p, ops[i]? = some p → loud p.op = true → J i = false → ∀ j ∈ b, ∀ q, ops[j]? = some q → loud q.op = true → J j = false) → ∀ id ∈ U, look (sel J (π.zip es) X).ob id = look S.ob id
  | W, [], S, es, X, _, hX, _, _, _, id, _ => by simp [sel_nil, hX]
  | W, i :: r, S, [], X, h, _, _, _, _, _, _ => h.elim
  | W, i :: r, S, e :: es, X, h, hX, hk, hb, hlo, id, hid => by
    obtain ⟨W', ⟨o, ho, h1⟩, h3, h2⟩ := h
    rw [look?_eq] at ho
    rw [List.zip_cons_cons, sel_cons]
    have hlo' : ∀ a i b, r = a ++ i :: b → ∀ p, ops[i]? = some p → loud p.op = true → J i = false → ∀ j ∈ b, ∀ q, ops[j]? = some q → loud q.op = true → J j = false := fun a i' b e' => hlo (i :: a) i' b (by rw [e']; rfl)
    have eff := opOk_eff h1
    cases hq : loud o.op with
    | false =>
      obtain ⟨d, hd⟩ := eff.2.2 hq
      have e1 : (e.app S).ob = S.ob := by rw [hd]; exact ob_app_q _ _ _
      have e2 : (e.app X).ob = X.ob := by rw [hd]; exact ob_app_q _ _ _
      split
      · rw [watch_ob W' r _ es (e.app X) h2 (by rw [e1, e2, hX]) (h3 _ hk) (fun i' hi' => hb i' (List.mem_cons_of_mem _ hi')) hlo' id hid, e1]
      · rw [watch_ob W' r _ es X h2 (by rw [e1, hX]) (h3 _ hk) (fun i' hi' => hb i' (List.mem_cons_of_mem _ hi')) hlo' id hid, e1]
    | true =>
      split
      · rename_i hj
        obtain ⟨run, _, h5, h6⟩ := h1
        have e1 : (e.app X).ob = (e.app S).ob := app_ob e hX
        rw [watch_ob W' r _ es (e.app X) h2 e1 (h3 _ hk) (fun i' hi' => hb i' (List.mem_cons_of_mem _ hi')) hlo' id hid]
        cases run with
        | false => rw [h5 rfl, ob_app_q]
        | true =>
          rcases h6 rfl with ⟨_, _, hw⟩ | ⟨q, _⟩
          · rcases hw k U hk with q | q
            · rw [hb i (by simp) hj] at q; cases q
            · exact q id hid
          · rw [hq] at q; cases q
      · rename_i hj
        have hj : J i = false := by simpa using hj
        have none := hlo [] i r rfl o ho hq hj
        have mem := trOk_mem W' r _ es h2
        rw [sel_behind_ob J _ X ?_, hX]
        intro p hp hjp
        obtain ⟨hin, o', q1, q2, q3, q4⟩ := mem p hp
        cases hb2 : loud o'.op with
        | true => have := none p.1 hin o' q1 hb2; rw [hjp] at this; cases this
        | false =>
          obtain ⟨d, hd⟩ := q4 hb2
          exact ⟨_, d, hd⟩
theorem look_restrict {ob : List (Nat × AObj)} : ∀ {U : List Nat} {id : Nat} {o : AObj}, look (restrict ob U) id = some o → id ∈ U ∧ look ob id = some o
  | [], id, o, h => by simp [restrict, look] at h
  | u :: r, id, o, h => by
    unfold restrict at h
    split at h
    · rename_i p hp
      simp only [look] at h
      split at h
      · rename_i e; subst e; cases h; exact ⟨by simp, hp⟩
      · obtain ⟨q1, q2⟩ := look_restrict h; exact ⟨List.mem_cons_of_mem _ q1, q2⟩
    · obtain ⟨q1, q2⟩ := look_restrict h; exact ⟨List.mem_cons_of_mem _ q1, q2⟩
end Go.Proofs.Ythioccbgjkbmdaa.AM

/-
  The abstract machine, part 21h: a region in any order: what an operation meets.
-/
set_option linter.unusedVariables false
set_option linter.unusedSimpArgs false
set_option linter.unusedSectionVars false
namespace Go.Proofs.Ythioccbgjkbmdaa.AM
open Go Go.RowKit

theorem sel_true : ∀ (π : List Nat) (es : List Eff) (S : St), es.length = π.length → sel (fun _ => true) (π.zip es) S = foldE es S
  | [], [], S, _ => rfl
  | i :: π, e :: es, S, h => by
    rw [List.zip_cons_cons, sel_cons, if_pos rfl, sel_true π es _ (by simpa using h)]; rfl
  | [], _ :: _, S, h => by simp at h
  | _ :: _, [], S, h => by simp at h
theorem zip_split {π1 π2 : List Nat} {k : Nat} {es1 es2 : List Eff} {e : Eff} (h : es1.length = π1.length) : (π1 ++ k :: π2).zip (es1 ++ e :: es2) = π1.zip es1 ++ (k, e) :: π2.zip es2 := by
  rw [List.zip_append h.symm, List.zip_cons_cons]
section
variable {P : Program} {R : List (Nat × AObj) → List D → Prop} {ops : List Oper} {anc : List (Nat × Nat)} {π1 π2 : List Nat} {k : Nat} {es1 es2 : List Eff} {e : Eff} {S0 : St}
/-- Where an operation stands that may run now. -/
structure At (ops : List Oper) (anc : List (Nat × Nat)) (π1 π2 : List Nat) (k : Nat) (J : Nat → Bool) (o : Oper) : Prop where
  plan : Plan ops anc (π1 ++ k :: π2)
  closed : ∀ i o, J i = true → ops[i]? = some o → ∀ e ∈ o.after.toList, bindsA e = true → J e.on = true
  not : J k = false
  op : ops[k]? = some o
  deps : ∀ e ∈ o.after.toList, bindsA e = true → J e.on = true
theorem At.ne {J : Nat → Bool} {o : Oper} (h : At ops anc π1 π2 k J o) : k ∉ π1 ∧ k ∉ π2 ∧ ∀ i ∈ π1, i ∉ π2 := by
  have := h.plan.nodup
  rw [List.nodup_append] at this
  obtain ⟨h1, h2, h3⟩ := this
  have h4 := List.nodup_cons.1 h2
  exact ⟨fun q => h3 k q k (by simp) rfl, h4.1, fun i hi hj => h3 i hi i (List.mem_cons_of_mem _ hj) rfl⟩
/-- Who has not run, of those in front, is no predecessor, and has not k in front of him. -/
theorem At.front {J : Nat → Bool} {o : Oper} (h : At ops anc π1 π2 k J o) {i : Nat} (hi : i ∈ π1) (hj : J i = false) : Nat.testBit (getA anc k) i = false ∧ Nat.testBit (getA anc i) k = false := by
  constructor
  · cases hb : Nat.testBit (getA anc k) i with
    | false => rfl
    | true =>
      have := anc_in h.plan.anc (J := fun i => J i = true) h.closed k o h.op h.deps i hb
      rw [hj] at this; cases this
  · cases hb : Nat.testBit (getA anc i) k with
    | false => rfl
    | true =>
      obtain ⟨a, b, rfl⟩ := List.append_of_mem hi
      have := anc_front h.plan (π1 := a) (i := i) (π2 := b ++ k :: π2) (by simp) hb
      exact absurd (List.mem_append_left _ this) h.ne.1
/-- Who has run, of those behind, has k not in front of him either. -/
theorem At.behind {J : Nat → Bool} {o : Oper} (h : At ops anc π1 π2 k J o) {i : Nat} (hi : i ∈ π2) (hj : J i = true) : Nat.testBit (getA anc k) i = false ∧ Nat.testBit (getA anc i) k = false := by
  constructor
  · cases hb : Nat.testBit (getA anc k) i with
    | false => rfl
    | true => exact absurd hi (h.ne.2.2 i (anc_front h.plan rfl hb))
  · cases hb : Nat.testBit (getA anc i) k with
    | false => rfl
    | true =>
      have hlt := h.plan.lt i (by simp [hi])
      have := anc_in h.plan.anc (J := fun i => J i = true) h.closed i _ (List.getElem?_eq_getElem hlt) (fun e he hb => h.closed i _ hj (List.getElem?_eq_getElem hlt) e he hb) k hb
      rw [h.not] at this; cases this
/-- Loud ones in front have run. -/
theorem At.loudFront {J : Nat → Bool} {o : Oper} (h : At ops anc π1 π2 k J o) {i : Nat} (hi : i ∈ π1) {p : Oper} (hp : ops[i]? = some p) (hl : loud p.op = true) : J i = true := by
  cases hj : J i with
  | true => rfl
  | false =>
    obtain ⟨a, b, rfl⟩ := List.append_of_mem hi
    obtain ⟨o', q1, _, q3⟩ := h.plan.pos a i (b ++ k :: π2) (by simp)
    rw [hp] at q1; cases q1
    have := q3 hl k (by simp)
    rw [(h.front hi hj).1] at this; cases this
end
end Go.Proofs.Ythioccbgjkbmdaa.AM

/-
  The abstract machine, part 21i: a region in any order: one operation runs.
-/
set_option linter.unusedVariables false
set_option linter.unusedSimpArgs false
set_option linter.unusedSectionVars false
namespace Go.Proofs.Ythioccbgjkbmdaa.AM
open Go Go.RowKit
section
variable {P : Program} {R : List (Nat × AObj) → List D → Prop} {ops : List Oper} {anc : List (Nat × Nat)} {π1 π2 : List Nat} {k : Nat} {es1 es2 : List Eff} {e : Eff} {S0 : St} {J : Nat → Bool} {o : Oper} {W W1 W2 : Wat}

theorem meets_of {o p : Oper} {t : Nat} (h : (o.dst = some t ∧ (p.dst = some t ∨ t ∈ looks ops p)) ∨ (p.dst = some t ∧ t ∈ looks ops o)) : meets ops o p = true := by
  unfold meets
  rcases h with ⟨h1, h2⟩ | ⟨h1, h2⟩
  · rw [h1]
    rcases h2 with h2 | h2
    · simp [h2]
    · simp [h2]
  · rw [h1]; simp [h2]

/-- A slot that the operation looks at, in the state of those that have run. -/
theorem At.slot (h : At ops anc π1 π2 k J o) (hl : es1.length = π1.length) (tr : TrOk P R ops anc W (π1 ++ k :: π2) S0 (es1 ++ e :: es2)) {t : Nat} (ht : t ∈ looks ops o)
    (hm : ∀ i ∈ π2, J i = true → ∀ p, ops[i]? = some p → loud p.op = true → noMent (killOf p) ((foldE es1 S0).get t) = true) : (sel J ((π1 ++ k :: π2).zip (es1 ++ e :: es2)) S0).get t = (foldE es1 S0).get t := by
  rw [zip_split hl, sel_append, sel_cons, if_neg (by simp [h.not])]
  have mem := trOk_mem _ _ _ _ tr
  rw [zip_split hl] at mem
  have e1 : (sel J (π1.zip es1) S0).get t = (foldE es1 S0).get t := by
    rw [← sel_true π1 es1 S0 hl]
    refine sel_skip J _ rfl rfl fun p hp hj => ?_
    obtain ⟨hin, o', q1, q2, q3, q4⟩ := mem p (List.mem_append_left _ hp)
    have hp1 : p.1 ∈ π1 := (List.of_mem_zip hp).1
    have hnl : loud o'.op = false := by
      cases hb : loud o'.op with
      | false => rfl
      | true => have := h.loudFront hp1 q1 hb; rw [hj] at this; cases this
    obtain ⟨d, hd⟩ := q4 hnl
    refine ⟨_, d, hd, fun hdt => ?_⟩
    have hne : k ≠ p.1 := fun q => by rw [← q] at hp1; exact h.ne.1 hp1
    have := h.plan.meet k p.1 o o' hne h.op q1 (meets_of (.inr ⟨hdt, ht⟩))
    obtain ⟨f1, f2⟩ := h.front hp1 hj
    rw [f1, f2] at this
    simp at this
  rw [sel_behind J _ _ ?_, e1]
  intro p hp hj
  obtain ⟨hin, o', q1, q2, q3, q4⟩ := mem p (List.mem_append_right _ (List.mem_cons_of_mem _ hp))
  have hp2 : p.1 ∈ π2 := (List.of_mem_zip hp).1
  rw [e1]
  constructor
  · rw [q2]
    intro hdt
    have hne : k ≠ p.1 := fun q => by rw [← q] at hp2; exact h.ne.2.1 hp2
    have := h.plan.meet k p.1 o o' hne h.op q1 (meets_of (.inr ⟨hdt, ht⟩))
    obtain ⟨f1, f2⟩ := h.behind hp2 hj
    rw [f1, f2] at this
    simp at this
  · cases hb : loud o'.op with
    | true => exact noMent_sub (hm _ hp2 hj o' q1 hb) q3
    | false =>
      obtain ⟨d, hd⟩ := q4 hb
      rw [hd]; rfl
theorem At.obFront (h : At ops anc π1 π2 k J o) (hl : es1.length = π1.length) (tr : TrOk P R ops anc W (π1 ++ k :: π2) S0 (es1 ++ e :: es2)) : (sel J (π1.zip es1) S0).ob = (foldE es1 S0).ob := by
  have mem := trOk_mem _ _ _ _ tr
  rw [zip_split hl] at mem
  rw [← sel_true π1 es1 S0 hl]
  refine sel_skip_ob J _ rfl fun p hp hj => ?_
  obtain ⟨hin, o', q1, q2, q3, q4⟩ := mem p (List.mem_append_left _ hp)
  have hp1 : p.1 ∈ π1 := (List.of_mem_zip hp).1
  have hnl : loud o'.op = false := by
    cases hb : loud o'.op with
    | false => rfl
    | true => have := h.loudFront hp1 q1 hb; rw [hj] at this; cases this
  obtain ⟨d, hd⟩ := q4 hnl
  exact ⟨_, d, hd⟩
/-- What is watched is as it was. -/
theorem At.watch (h : At ops anc π1 π2 k J o) (hl : es1.length = π1.length) (tr : TrOk P R ops anc W (π1 ++ k :: π2) S0 (es1 ++ e :: es2)) {d : D} (he : e = .q o.dst d) (tr2 : TrOk P R ops anc W2 π2 (e.app (foldE es1 S0)) es2) {U : List Nat} (hU : (k, U) ∈ W2) : ∀ id ∈ U, look (sel J ((π1 ++ k :: π2).zip (es1 ++ e :: es2)) S0).ob id = look (foldE es1 S0).ob id := by
  intro id hid
  rw [zip_split hl, sel_append, sel_cons, if_neg (by simp [h.not])]
  have e1 : (e.app (foldE es1 S0)).ob = (foldE es1 S0).ob := by rw [he]; exact ob_app_q _ _ _
  rw [watch_ob W2 π2 _ es2 _ tr2 ((h.obFront hl tr).trans e1.symm) hU (fun i hi hj => (h.behind hi hj).2) (fun a i b hab p hp hlp hj j hjb q hq hlq => ?_) id hid, e1]
  cases hjj : J j with
  | false => rfl
  | true =>
    exfalso
    have hlt := (List.getElem?_eq_some_iff.1 hq).1
    obtain ⟨o', q1, _, q3⟩ := h.plan.pos (π1 ++ k :: a) i b (by rw [hab]; simp)
    rw [hp] at q1; cases q1
    have hb := q3 hlp j hjb
    have := anc_in h.plan.anc (J := fun i => J i = true) h.closed j _ (List.getElem?_eq_getElem hlt) (fun e he hb => h.closed j _ hjj (List.getElem?_eq_getElem hlt) e he hb) i hb
    rw [hj] at this; cases this
theorem At.ob (h : At ops anc π1 π2 k J o) (hl : es1.length = π1.length) (tr : TrOk P R ops anc W (π1 ++ k :: π2) S0 (es1 ++ e :: es2))
    (hm : ∀ i ∈ π2, J i = true → ∀ p, ops[i]? = some p → loud p.op = true → False) : (sel J ((π1 ++ k :: π2).zip (es1 ++ e :: es2)) S0).ob = (foldE es1 S0).ob := by
  rw [zip_split hl, sel_append, sel_cons, if_neg (by simp [h.not])]
  have mem := trOk_mem _ _ _ _ tr
  rw [zip_split hl] at mem
  rw [sel_behind_ob J _ _ ?_, ← sel_true π1 es1 S0 hl]
  · refine sel_skip_ob J _ rfl fun p hp hj => ?_
    obtain ⟨hin, o', q1, q2, q3, q4⟩ := mem p (List.mem_append_left _ hp)
    have hp1 : p.1 ∈ π1 := (List.of_mem_zip hp).1
    have hnl : loud o'.op = false := by
      cases hb : loud o'.op with
      | false => rfl
      | true => have := h.loudFront hp1 q1 hb; rw [hj] at this; cases this
    obtain ⟨d, hd⟩ := q4 hnl
    exact ⟨_, d, hd⟩
  · intro p hp hj
    obtain ⟨hin, o', q1, q2, q3, q4⟩ := mem p (List.mem_append_right _ (List.mem_cons_of_mem _ hp))
    have hp2 : p.1 ∈ π2 := (List.of_mem_zip hp).1
    cases hb : loud o'.op with
    | true => exact (hm _ hp2 hj o' q1 hb).elim
    | false =>
      obtain ⟨d, hd⟩ := q4 hb
      exact ⟨_, d, hd⟩
def addJ (J : Nat → Bool) (k : Nat) : Nat → Bool := fun i => i == k || J i
theorem sel_none (J : Nat → Bool) : ∀ (L : List (Nat × Eff)) (S : St), (∀ p ∈ L, J p.1 = false) → sel J L S = S
  | [], S, _ => rfl
  | p :: L, S, h => by
    rw [sel_cons, if_neg (by simp [h p (by simp)])]
    exact sel_none J L S fun q hq => h q (List.mem_cons_of_mem _ hq)
/-- With one more: his effect comes last. -/
theorem At.add (h : At ops anc π1 π2 k J o) (hl : es1.length = π1.length) (tr : TrOk P R ops anc W (π1 ++ k :: π2) S0 (es1 ++ e :: es2)) {S : St} (hop : OpOk P R ops anc k π2 W1 W2 o S e) :
    Eqv (sel (addJ J k) ((π1 ++ k :: π2).zip (es1 ++ e :: es2)) S0) (e.app (sel J ((π1 ++ k :: π2).zip (es1 ++ e :: es2)) S0)) := by
  have mem := trOk_mem _ _ _ _ tr
  rw [zip_split hl] at mem ⊢
  rw [sel_append, sel_append, sel_cons, sel_cons, if_pos (by simp [addJ]), if_neg (by simp [h.not])]
  have c1 : sel (addJ J k) (π1.zip es1) S0 = sel J (π1.zip es1) S0 := sel_congr _ _ fun p hp => by
    have hp1 : p.1 ∈ π1 := (List.of_mem_zip hp).1
    have : p.1 ≠ k := fun q => h.ne.1 (q ▸ hp1)
    simp [addJ, this]
  have c2 : ∀ X, sel (addJ J k) (π2.zip es2) X = sel J (π2.zip es2) X := fun X => sel_congr _ _ fun p hp => by
    have hp2 : p.1 ∈ π2 := (List.of_mem_zip hp).1
    have : p.1 ≠ k := fun q => h.ne.2.1 (q ▸ hp2)
    simp [addJ, this]
  rw [c1, c2]
  have hdst := (opOk_eff hop).1
  have quiet : ∀ d, e = .q o.dst d → (∀ i ∈ π2, J i = true → ∀ p, ops[i]? = some p → loud p.op = true → noMent (killOf p) d = true) → Eqv (sel J (π2.zip es2) (e.app (sel J (π1.zip es1) S0))) (e.app (sel J (π2.zip es2) (sel J (π1.zip es1) S0))) := by
    intro d he hno
    rw [he]
    refine sel_comm J _ _ fun p hp hj => ?_
    obtain ⟨hin, o', q1, q2, q3, q4⟩ := mem p (List.mem_append_right _ (List.mem_cons_of_mem _ hp))
    have hp2 : p.1 ∈ π2 := (List.of_mem_zip hp).1
    have hne : k ≠ p.1 := fun q => by rw [← q] at hp2; exact h.ne.2.1 hp2
    constructor
    · intro t ht hdt
      rw [q2] at hdt
      have := h.plan.meet k p.1 o o' hne h.op q1 (meets_of (.inl ⟨ht, .inl hdt⟩))
      obtain ⟨f1, f2⟩ := h.behind hp2 hj
      rw [f1, f2] at this
      simp at this
    · cases hb : loud o'.op with
      | true => exact noMent_sub (hno _ hp2 hj o' q1 hb) q3
      | false =>
        obtain ⟨d', hd⟩ := q4 hb
        rw [hd]; rfl
  obtain ⟨run, _, h0, h1⟩ := hop
  cases run with
  | false => exact quiet _ (h0 rfl) fun i hi hj p hp hlp => by simp [noMent, mentions]
  | true =>
    rcases h1 rfl with ⟨hlo, _⟩ | ⟨_, d, he, hq⟩
    · have none : ∀ p ∈ π2.zip es2, J p.1 = false := fun p hp => by
        have hp2 : p.1 ∈ π2 := (List.of_mem_zip hp).1
        cases hj : J p.1 with
        | false => rfl
        | true =>
          obtain ⟨o', q1, _, q3⟩ := h.plan.pos π1 k π2 rfl
          rw [h.op] at q1; cases q1
          have := q3 hlo _ hp2
          rw [(h.behind hp2 hj).2] at this; cases this
      rw [sel_none J _ _ none, sel_none J _ _ none]
      exact Eqv.refl _
    · refine quiet d he fun i hi hj p hp hlp => ?_
      obtain ⟨_, f2⟩ := h.behind hi hj
      rcases hq with ⟨hf, _⟩ | ⟨ks, hf, _, hd, _⟩
      · have := freeOf_none hf i hi p hp hlp
        rw [f2] at this; cases this
      · exact noMent_sub hd (freeOf_some hf i hi p hp hlp f2)
end
end Go.Proofs.Ythioccbgjkbmdaa.AM

/-
  The abstract machine, part 21j: a region in any order: soundness.
-/
set_option linter.unusedVariables false
set_option linter.unusedSimpArgs false
set_option linter.unusedSectionVars false
namespace Go.Proofs.Ythioccbgjkbmdaa.AM
open Go Go.RowKit
def Inv (G : Gh) (L : List (Nat × Eff)) (S0 : St) (J : Nat → Bool) (a : Act) (w : World) : Prop := ∃ E ok S', Eqv S' (sel J L S0) ∧ Conc G E ok S' a w
section
variable {P : Program} {R : List (Nat × AObj) → List D → Prop} (hT : tableOf P = T) {ops : List Oper} {anc : List (Nat × Nat)} {π1 π2 : List Nat} {k : Nat} {es1 es2 : List Eff} {e : Eff} {S0 : St} {J : Nat → Bool} {o : Oper} {W W1 W2 : Wat}
include hT
theorem At.step {G : Gh} {E : Env} {ok : Oks} {S' : St} {a : Act} {w : World} (h : At ops anc π1 π2 k J o) (hl : es1.length = π1.length) (tr : TrOk P R ops anc W (π1 ++ k :: π2) S0 (es1 ++ e :: es2)) (hop : OpOk P R ops anc k π2 W1 W2 o (foldE es1 S0) e) (tr2 : TrOk P R ops anc W2 π2 (e.app (foldE es1 S0)) es2)
    (he : Eqv S' (sel J ((π1 ++ k :: π2).zip (es1 ++ e :: es2)) S0)) (c : Conc G E ok S' a w) (Q : Exit → Act → World → Prop) :
    ∃ run, GOk ops o (foldE es1 S0) run ∧ (run = true → o.wp P a w (Inv G ((π1 ++ k :: π2).zip (es1 ++ e :: es2)) S0 (addJ J k)) Q) ∧ (run = false → Inv G ((π1 ++ k :: π2).zip (es1 ++ e :: es2)) S0 (addJ J k) (a.put o.dst undef) w) := by
  have hadd := h.add hl tr hop
  have fin : ∀ {S'' : St} {E' : Env} {ok' : Oks} {a' : Act} {w' : World}, Eqv S'' (e.app S') → Conc G E' ok' S'' a' w' → Inv G ((π1 ++ k :: π2).zip (es1 ++ e :: es2)) S0 (addJ J k) a' w' := fun q c' => ⟨_, _, _, (q.trans (he.app e)).trans hadd.symm, c'⟩
  obtain ⟨run, hg, h0, h1⟩ := hop
  refine ⟨run, hg, fun hr => ?_, fun hr => ?_⟩
  · rcases h1 hr with ⟨hlo, hld⟩ | ⟨hlo, d, hd, hq⟩
    · have noLoud : ∀ i ∈ π2, J i = true → False := fun i hi hj => by
        obtain ⟨o', q1, _, q3⟩ := h.plan.pos π1 k π2 rfl
        rw [h.op] at q1; cases q1
        have := q3 hlo _ hi
        rw [(h.behind hi hj).2] at this; cases this
      have hev : ∀ x ∈ o.op.operands.toList, S'.ev x = (foldE es1 S0).ev x := fun x hx => by
        cases x with
        | tmp t => exact (he.get t).trans (h.slot hl tr (by unfold looks; exact List.mem_append_left _ (List.mem_filterMap.2 ⟨_, hx, rfl⟩)) fun i hi hj p _ _ => (noLoud i hi hj).elim)
        | _ => rfl
      have hn : S'.n = (foldE es1 S0).n := by rw [he.n, sel_n, ← sel_true π1 es1 S0 hl, sel_n]
      have hw := hld.1.2.2 S' hn (he.ob.trans (h.ob hl tr fun i hi hj p _ _ => noLoud i hi hj)) hev (fun S'' => S'' = e.app S') rfl
      exact Oper.wp_mono (fun a' w' ⟨E', ok', S'', q, c'⟩ => by subst q; exact fin (Eqv.refl _) c') (h_sound hT c hw Q)
    · subst hd
      have hev : (∀ x ∈ o.op.operands.toList, ∀ i ∈ π2, J i = true → ∀ p, ops[i]? = some p → loud p.op = true → noMent (killOf p) ((foldE es1 S0).ev x) = true) → ∀ x ∈ o.op.operands.toList, S'.ev x = (foldE es1 S0).ev x := fun hm x hx => by
        cases x with
        | tmp t => exact (he.get t).trans (h.slot hl tr (by unfold looks; exact List.mem_append_left _ (List.mem_filterMap.2 ⟨_, hx, rfl⟩)) (hm _ hx))
        | _ => rfl
      have go : ∀ ob, (∀ id o, look ob id = some o → ObjRep E ok w id o) → QuietOk P ob o (foldE es1 S0) d → (∀ x ∈ o.op.operands.toList, S'.ev x = (foldE es1 S0).ev x) → o.wp P a w (Inv G ((π1 ++ k :: π2).zip (es1 ++ Eff.q o.dst d :: es2)) S0 (addJ J k)) Q := by
        rintro ob hob ⟨d0, hc, hdd⟩ hx
        refine hc E ok w a o rfl ⟨fun x hxm => by rw [← hx x (by simpa using hxm)]; exact ev_rep c x, hob, c.okb⟩ _ Q fun v w' ok' g r => ?_
        refine fin (Eqv.refl _) ((c.grow g).put o.dst ?_)
        rcases hdd with rfl | ⟨b, rfl, rfl⟩
        · exact r
        · rw [repD_bool r]; exact .lit b
      rcases hq with ⟨hf, hq⟩ | ⟨ks, hf, hop', _, U, hU, hq⟩
      · have none : ∀ i ∈ π2, J i = true → ∀ p, ops[i]? = some p → loud p.op = true → False := fun i hi hj p hp hlp => by
          have := freeOf_none hf i hi p hp hlp
          rw [(h.behind hi hj).2] at this; cases this
        refine go _ ?_ hq (hev fun x hx i hi hj p hp hlp => (none i hi hj p hp hlp).elim)
        rw [← h.ob hl tr none, ← he.ob]; exact c.obj
      · refine go _ (fun id o' hlk => ?_) hq (hev fun x hx i hi hj p hp hlp => noMent_sub (hop' x hx) (freeOf_some hf i hi p hp hlp (h.behind hi hj).2))
        obtain ⟨k1, k2⟩ := look_restrict hlk
        exact c.obj id o' (by rw [he.ob, h.watch hl tr rfl tr2 hU id k1]; exact k2)
  · have heq := h0 hr
    subst heq
    exact fin (Eqv.refl _) (c.put o.dst (.v _ _ (Rep.tup (ok := ok) (w := w) [] [] rfl (by simp))))
end
end Go.Proofs.Ythioccbgjkbmdaa.AM

/-
  The abstract machine, part 21k: a region in any order: all of it.
-/
set_option linter.unusedVariables false
set_option linter.unusedSimpArgs false
set_option linter.unusedSectionVars false
namespace Go.Proofs.Ythioccbgjkbmdaa.AM
open Go Go.RowKit
theorem yielded_of {ops : List Oper} {j t : Nat} {p : Oper} (h : look? ops j = some p) (hp : p.dst = some t) {tmps : Array Value} :
    (∀ b, tmps.getD t undef = .bool b → yielded ops.toArray tmps j = some b) ∧ ((∀ b, tmps.getD t undef ≠ .bool b) → yielded ops.toArray tmps j = none) := by
  rw [look?_eq] at h
  have h1 : (ops.toArray[j]?).bind (·.dst) = some t := by simp [h, hp]
  unfold yielded
  rw [h1]
  simp only [Option.bind_some]
  constructor
  · intro b hb
    cases ht : tmps[t]? with
    | none =>
      have : tmps.getD t undef = undef := by simp [Array.getD_eq_getD_getElem?, ht]
      rw [this] at hb; simp [undef] at hb
    | some v =>
      have : tmps.getD t undef = v := by simp [Array.getD_eq_getD_getElem?, ht]
      rw [this] at hb; subst hb; rfl
  · intro hb
    cases ht : tmps[t]? with
    | none => rfl
    | some v =>
      have : tmps.getD t undef = v := by simp [Array.getD_eq_getD_getElem?, ht]
      cases v with
      | bool b => exact absurd this (hb b)
      | _ => rfl
/-- How a guard decides, in the machine. -/
theorem wanted_of {G : Gh} {E : Env} {ok : Oks} {ops : List Oper} {o : Oper} {S S' : St} {a : Act} {w : World} {run : Bool} (c : Conc G E ok S' a w) (hg : GOk ops o S run) (hs : ∀ t ∈ looks ops o, (∀ ks, noMent ks (S.get t) = true) → S'.get t = S.get t) : Region.wanted o (yielded ops.toArray a.tmps) = run := by
  rcases hg with ⟨h1, h2⟩ | ⟨j, want, p, t, h1, h2, h3, h4⟩
  · rw [h2]; simp [Region.wanted, h1]
  · have ht : t ∈ looks ops o := by
      unfold looks
      refine List.mem_append_right _ ?_
      rw [h1]; simp only [h2, h3]; simp
    have hno : ∀ ks, noMent ks (S.get t) = true := fun ks => by
      rcases h4 with ⟨b, h5, _⟩ | ⟨h5, _⟩ <;> rw [h5] <;> simp [noMent, mentions]
    have hv := c.slot t
    rw [hs t ht hno] at hv
    obtain ⟨y1, y2⟩ := yielded_of (tmps := a.tmps) h2 h3
    rcases h4 with ⟨b, h5, h6⟩ | ⟨h5, h6⟩
    · rw [h5] at hv
      rw [h6]
      simp [Region.wanted, h1, y1 b (repD_lit hv)]
    · rw [h5] at hv
      rw [h6]
      have : ∀ b, a.tmps.getD t undef ≠ .bool b := by
        intro b hb
        rw [hb] at hv
        cases hv; rename_i q; cases q
      simp [Region.wanted, h1, y2 this]
/-- The first of the order that has not run may run. -/
theorem first_ready {ops : List Oper} {anc : List (Nat × Nat)} {π : List Nat} (p : Plan ops anc π) {J : Nat → Bool} : ∀ (π1 π2 : List Nat), π = π1 ++ π2 → (∀ i ∈ π1, J i = true) → (∀ i ∈ π2, J i = true) ∨ ∃ a k b o, π = a ++ k :: b ∧ J k = false ∧ ops[k]? = some o ∧ ∀ e ∈ o.after.toList, bindsA e = true → J e.on = true
  | π1, [], _, _ => .inl (by simp)
  | π1, k :: r, e, h => by
    cases hk : J k with
    | true =>
      rcases first_ready p (π1 ++ [k]) r (by simp [e]) (fun i hi => by
        rcases List.mem_append.1 hi with hi | hi
        · exact h i hi
        · simp at hi; subst hi; exact hk) with q | q
      · exact .inl fun i hi => by
          rcases List.mem_cons.1 hi with rfl | hi
          · exact hk
          · exact q i hi
      · exact .inr q
    | false =>
      obtain ⟨o, ho, hd, _⟩ := p.pos π1 k r e
      exact .inr ⟨π1, k, r, o, e, hk, ho, fun x hx hb => h _ (hd x hx hb)⟩
end Go.Proofs.Ythioccbgjkbmdaa.AM

/-
  The abstract machine, part 21l: a region in any order: all orders.
-/
set_option linter.unusedVariables false
set_option linter.unusedSimpArgs false
set_option linter.unusedSectionVars false
namespace Go.Proofs.Ythioccbgjkbmdaa.AM
open Go Go.RowKit
/-- How many have not run. -/
def left (n : Nat) (listed : Array Bool) : Nat := ((List.range n).filter fun i => !listed.getD i true).length
theorem getD_lt {listed : Array Bool} {i : Nat} (h : i < listed.size) (d : Bool) : listed.getD i d = listed[i] := by simp [h]
theorem left_pos {n : Nat} {listed : Array Bool} {i : Nat} (hi : i < n) (h : listed.getD i true = false) : 0 < left n listed :=
  List.length_pos_of_mem (List.mem_filter.2 ⟨List.mem_range.2 hi, by simpa using h⟩)
theorem left_set {n : Nat} {listed : Array Bool} {i : Nat} (hi : i < n) (hs : listed.size = n) (h : listed.getD i true = false) : left n (listed.setIfInBounds i true) < left n listed := by
  unfold left
  have h1 : ((List.range n).filter fun j => !(listed.setIfInBounds i true).getD j true) = ((List.range n).filter fun j => !listed.getD j true).filter fun j => !(j == i) := by
    rw [List.filter_filter]
    refine List.filter_congr fun j hj => ?_
    have hj' := List.mem_range.1 hj
    by_cases e : j = i
    · subst e
      simp [Array.getD_eq_getD_getElem?, hs, hj']
    · rw [getD_set_ne true (Ne.symm e)]
      simp [e]
  rw [h1]
  refine List.length_filter_lt_length_iff_exists.2 ⟨i, List.mem_filter.2 ⟨List.mem_range.2 hi, by simpa using h⟩, by simp⟩
section
variable {P : Program} {R : List (Nat × AObj) → List D → Prop} (hT : tableOf P = T) {ops : List Oper} {anc : List (Nat × Nat)} {π : List Nat} {es : List Eff} {S0 : St}
include hT
theorem any_sound {G : Gh} (p : Plan ops anc π) {W : Wat} (tr : TrOk P R ops anc W π S0 es) {Q : Exit → Act → World → Prop} (hQ : ∀ a w J, (∀ i ∈ π, J i = true) → Inv G (π.zip es) S0 J a w → Q .normal a w) :
    ∀ (fuel : Nat) (listed : Array Bool) (a : Act) (w : World), listed.size = ops.length → (∀ i o, listed.getD i false = true → ops[i]? = some o → ∀ e ∈ o.after.toList, bindsA e = true → listed.getD e.on false = true) → left ops.length listed ≤ fuel →
      Inv G (π.zip es) S0 (fun i => listed.getD i false) a w → wpAny P .any ops.toArray Q fuel listed a w := by
  intro fuel
  induction fuel using Nat.strongRecOn with
  | _ fuel ih =>
    intro listed a w hs hc hn hi
    have bit : ∀ i, i < ops.length → listed.getD i true = listed.getD i false := fun i h => by rw [getD_lt (by omega), getD_lt (by omega)]
    have done : Region.ready .any ops.toArray listed = [] → Q .normal a w := fun hr => by
      rcases first_ready p (J := fun i => listed.getD i false) [] π rfl (by simp) with q | ⟨x, k, y, o, e, hk, ho, hd⟩
      · exact hQ a w _ q hi
      · have hlt := (List.getElem?_eq_some_iff.1 ho).1
        have : k ∈ Region.ready .any ops.toArray listed := mem_ready.2 ⟨by rw [bit k hlt]; exact hk, o, by simpa using ho, fun e he hb => hd e (by simpa using he) (by rw [← bindsA_eq]; exact hb)⟩
        rw [hr] at this; cases this
    cases hf : fuel with
    | zero =>
      have hr : Region.ready .any ops.toArray listed = [] := by
        cases hr : Region.ready .any ops.toArray listed with
        | nil => rfl
        | cons i r =>
          obtain ⟨h1, o, h2, _⟩ := mem_ready.1 (hr ▸ List.mem_cons_self : i ∈ Region.ready .any ops.toArray listed)
          have hlt : i < ops.length := by have := (Array.getElem?_eq_some_iff.1 h2).1; simpa using this
          have := left_pos hlt h1
          omega
      exact ⟨hr, done hr⟩
    | succ m =>
      refine ⟨done, fun i hri => ?_⟩
      obtain ⟨h1, o, h2, h3⟩ := mem_ready.1 hri
      have ho : ops[i]? = some o := by simpa using h2
      have hlt := (List.getElem?_eq_some_iff.1 ho).1
      obtain ⟨π1, π2, es1, e, es2, rfl, rfl, hl, o', ho', W1, W2, hop, tr2⟩ := trOk_split W π S0 es tr i (p.all i hlt)
      rw [ho] at ho'; cases ho'
      have hat : At ops anc π1 π2 i (fun i => listed.getD i false) o := ⟨p, hc, by rw [← bit i hlt]; exact h1, ho, fun e he hb => h3 e (by simpa using he) (by rw [bindsA_eq]; exact hb)⟩
      obtain ⟨E, ok, S', he, c⟩ := hi
      obtain ⟨run, hg, k1, k2⟩ := hat.step hT hl tr hop tr2 he c Q
      have hw := wanted_of c hg fun t ht hno => (he.get t).trans (hat.slot hl tr ht fun _ _ _ _ _ _ => hno _)
      have next : ∀ a' w', Inv G ((π1 ++ i :: π2).zip (es1 ++ e :: es2)) S0 (addJ (fun i => listed.getD i false) i) a' w' → wpAny P .any ops.toArray Q m (listed.setIfInBounds i true) a' w' := fun a' w' q => by
        have hJ : (fun j => (listed.setIfInBounds i true).getD j false) = addJ (fun j => listed.getD j false) i := by
          funext j
          by_cases e : i = j
          · subst e; simp [addJ, Array.getD_eq_getD_getElem?, hs, hlt]
          · rw [getD_set_ne false e]; simp [addJ, Ne.symm e]
        refine ih m (by omega) _ a' w' (by simpa using hs) (fun j o2 hj ho2 e2 he2 hb2 => ?_) (by have := left_set hlt hs h1; omega) (by rw [hJ]; exact q)
        by_cases e : i = j
        · subst e
          rw [ho] at ho2; cases ho2
          exact getD_set_true (hat.deps e2 he2 hb2)
        · rw [getD_set_ne false e] at hj
          exact getD_set_true (hc j o2 hj ho2 e2 he2 hb2)
      unfold wpOp
      rw [h2]
      simp only
      rw [hw]
      cases run with
      | true => rw [if_pos rfl]; exact .inl (Oper.wp_mono (fun a' w' q => next a' w' q) (k1 rfl))
      | false => rw [if_neg (by simp)]; exact next _ _ (k2 rfl)
end
end Go.Proofs.Ythioccbgjkbmdaa.AM

/-
  The abstract machine, part 21m: what stands behind all others of a region whose order is open, is done one behind the other.
-/
set_option linter.unusedVariables false
set_option linter.unusedSimpArgs false
set_option linter.unusedSectionVars false
namespace Go.Proofs.Ythioccbgjkbmdaa.AM
open Go Go.RowKit

section
variable {P : Program}
theorem wp_monoQ {o : Oper} {a : Act} {w : World} {K K' : Act → World → Prop} {Q Q' : Exit → Act → World → Prop} (h : ∀ a w, K a w → K' a w) (hQ : ∀ e a w, e ≠ .normal → Q e a w → Q' e a w) (hh : o.wp P a w K Q) : o.wp P a w K' Q' := by
  have hL : LetsOut Q → LetsOut Q' := fun ⟨a, w, q⟩ => ⟨a, w, hQ _ _ _ (by simp) q⟩
  unfold Oper.wp at *
  generalize (execOp a.eval o).run P w = r at *
  cases r with
  | ok n w' =>
    cases n <;> simp only [Oper.upon] at hh ⊢ <;>
      first
        | exact h _ _ hh
        | exact Calls.mono hh (fun e w'' he => by cases e <;> first | exact h _ _ he | exact hQ _ _ _ (by simp) he | exact hL he)
        | exact Rows.mono hh (fun _ _ he => h _ _ he)
  | halt x w' => cases x <;> simp only [Oper.upon] at hh ⊢ <;> first | exact hQ _ _ _ (by simp) hh | exact hh

/-- From a place on, each one stands behind all others ahead. -/
structure Tails (ops : List Oper) (anc : List (Nat × Nat)) (k : Nat) : Prop where
  ok : AncOk ops anc
  dep : ∀ i o, k ≤ i → ops[i]? = some o → ∀ e ∈ o.after.toList, bindsA e = true → e.on < i
  dep0 : ∀ i o, i < k → ops[i]? = some o → ∀ e ∈ o.after.toList, bindsA e = true → e.on < k
  all : ∀ i j, k ≤ i → i < ops.length → j < i → Nat.testBit (getA anc i) j = true
  grd : ∀ i o j want, i < k → ops[i]? = some o → o.guard = some (j, want) → j < k
def Closed (ops : List Oper) (listed : Array Bool) : Prop := ∀ i o, listed.getD i false = true → ops[i]? = some o → ∀ e ∈ o.after.toList, bindsA e = true → listed.getD e.on false = true
theorem closed_anc {ops : List Oper} {anc : List (Nat × Nat)} (ha : AncOk ops anc) {listed : Array Bool} (hc : Closed ops listed) : ∀ i j, listed.getD i false = true → Nat.testBit (getA anc i) j = true → listed.getD j false = true := by
  intro i
  induction i using Nat.strongRecOn with
  | _ i ih =>
    intro j hi hj
    obtain ⟨o, ho, e, h1, h2, h3⟩ := ha i j hj
    have h4 := hc i o hi ho e h1 h2
    rcases h3 with h3 | ⟨h3, h5⟩
    · rw [← h3]; exact h4
    · exact ih e.on h3 j h4 h5
/-- One that waits for one that has not run, does not run. -/
theorem not_ready {ops : List Oper} {anc : List (Nat × Nat)} (ha : AncOk ops anc) {listed : Array Bool} (hc : Closed ops listed) {i j : Nat} (hj : Nat.testBit (getA anc i) j = true) (hl : listed.getD j false = false) : i ∉ Region.ready .any ops.toArray listed := by
  intro h
  obtain ⟨_, o, ho, hd⟩ := mem_ready.1 h
  have ho : ops[i]? = some o := by simpa using ho
  obtain ⟨o', ho', e, h1, h2, h3⟩ := ha i j hj
  rw [ho] at ho'; cases ho'
  have h4 := hd e (by simpa using h1) (by rw [bindsA_eq]; exact h2)
  have : listed.getD j false = true := by
    rcases h3 with h3 | ⟨_, h5⟩
    · rw [← h3]; exact h4
    · exact closed_anc ha hc _ _ h4 h5
  rw [hl] at this; cases this
theorem any_suffix {ops : List Oper} {anc : List (Nat × Nat)} {k : Nat} (tl : Tails ops anc k) {Q : Exit → Act → World → Prop} : ∀ (m i fuel : Nat) (listed : Array Bool) (a : Act) (w : World), k ≤ i → i + m = ops.length → listed.size = ops.length → (∀ j, j < ops.length → (listed.getD j false = true ↔ j < i)) → m ≤ fuel →
    wpList P ops.toArray Q (ops.drop i) a w → wpAny P .any ops.toArray Q fuel listed a w
  | m, i, fuel, listed, a, w, hk, hm, hs, hl, hf, h => by
    have bit : ∀ j, j < ops.length → listed.getD j true = listed.getD j false := fun j h => by rw [getD_lt (by omega), getD_lt (by omega)]
    have out : ∀ j, ¬ j < ops.length → listed.getD j false = false := fun j h => by simp [Array.getD_eq_getD_getElem?, show listed[j]? = none from Array.getElem?_eq_none (by omega)]
    have hlt : ∀ j, listed.getD j false = true → j < i := fun j hj => by
      by_cases q : j < ops.length
      · exact (hl j q).1 hj
      · rw [out j q] at hj; cases hj
    match m with
    | 0 =>
      have hr : Region.ready .any ops.toArray listed = [] := by
        cases q : Region.ready .any ops.toArray listed with
        | nil => rfl
        | cons j r =>
          obtain ⟨h1, o, h2, _⟩ := mem_ready.1 (q ▸ List.mem_cons_self : j ∈ Region.ready .any ops.toArray listed)
          have h3 : j < ops.length := by have := (Array.getElem?_eq_some_iff.1 h2).1; simpa using this
          rw [bit j h3, (hl j h3).2 (by omega)] at h1; cases h1
      have hd : ops.drop i = [] := List.drop_of_length_le (by omega)
      rw [hd] at h
      cases fuel with
      | zero => exact ⟨hr, h⟩
      | succ f => exact ⟨fun _ => h, fun j hj => by rw [hr] at hj; cases hj⟩
    | m + 1 =>
      have hi : i < ops.length := by omega
      obtain ⟨f, rfl⟩ : ∃ f, fuel = f + 1 := ⟨fuel - 1, by omega⟩
      have hc : Closed ops listed := by
        intro j o hj ho e he hb
        have hji := hlt j hj
        by_cases q : k ≤ j
        · have := tl.dep j o q ho e he hb
          exact (hl _ (by omega)).2 (by omega)
        · have := tl.dep0 j o (by omega) ho e he hb
          exact (hl _ (by omega)).2 (by omega)
      obtain ⟨o, ho⟩ : ∃ o, ops[i]? = some o := ⟨_, List.getElem?_eq_getElem hi⟩
      have hin : i ∈ Region.ready .any ops.toArray listed := mem_ready.2 ⟨by
        rw [bit i hi]
        cases q : listed.getD i false with
        | false => rfl
        | true => have := (hl i hi).1 q; omega, o, by simpa using ho, fun e he hb => (hl _ (by have := tl.dep i o hk ho e (by simpa using he) (by rw [← bindsA_eq]; exact hb); omega)).2 (tl.dep i o hk ho e (by simpa using he) (by rw [← bindsA_eq]; exact hb))⟩
      have only : ∀ j ∈ Region.ready .any ops.toArray listed, j = i := by
        intro j hj
        obtain ⟨h1, o', h2, _⟩ := mem_ready.1 hj
        have h3 : j < ops.length := by have := (Array.getElem?_eq_some_iff.1 h2).1; simpa using this
        rcases Nat.lt_trichotomy j i with q | q | q
        · rw [bit j h3, (hl j h3).2 q] at h1; cases h1
        · exact q
        · exact absurd hj (not_ready tl.ok hc (tl.all j i (by omega) h3 q) (by
            cases q2 : listed.getD i false with
            | false => rfl
            | true => have := (hl i hi).1 q2; omega))
      refine ⟨fun hr => by rw [hr] at hin; (cases hin), fun j hj => ?_⟩
      obtain rfl := only j hj
      have hd : ops.drop j = o :: ops.drop (j + 1) := by
        rw [List.drop_eq_getElem_cons hi]
        rw [List.getElem?_eq_getElem hi] at ho
        cases ho; rfl
      rw [hd] at h
      unfold wpList at h
      have next : ∀ a' w', wpList P ops.toArray Q (ops.drop (j + 1)) a' w' → wpAny P .any ops.toArray Q f (listed.setIfInBounds j true) a' w' := fun a' w' q =>
        any_suffix tl m (j + 1) f _ a' w' (by omega) (by omega) (by simpa using hs) (fun x hx => by
          by_cases e : j = x
          · subst e; simp [Array.getD_eq_getD_getElem?, hs, hx]
          · rw [getD_set_ne false e, hl x hx]; omega) (by omega) q
      unfold wpOp
      rw [show ops.toArray[j]? = some o from by simpa using ho]
      simp only
      split
      · rename_i hw
        rw [if_pos hw] at h
        exact h.imp (Oper.wp_mono next) id
      · rename_i hw
        rw [if_neg hw] at h
        exact next _ _ h
theorem any_prefix {ops : List Oper} {anc : List (Nat × Nat)} {k : Nat} (tl : Tails ops anc k) (hk : k ≤ ops.length) (hfr : ∀ J : Nat → Bool, (∀ i, i < k → J i = true) ∨ ∃ i o, i < k ∧ J i = false ∧ ops[i]? = some o ∧ ∀ e ∈ o.after.toList, bindsA e = true → J e.on = true) {Q Qm : Exit → Act → World → Prop} (hQ : ∀ e a w, e ≠ .normal → Qm e a w → Q e a w) (hn : ∀ a w, Qm .normal a w → wpList P ops.toArray Q (ops.drop k) a w) : ∀ (fuel : Nat) (listed l1 : Array Bool) (a : Act) (w : World), listed.size = ops.length → l1.size = k → (∀ j, j < k → listed.getD j false = l1.getD j false) → (∀ j, k ≤ j → listed.getD j false = false) → Closed ops listed →
    wpAny P .any (ops.take k).toArray Qm fuel l1 a w → wpAny P .any ops.toArray Q (fuel + (ops.length - k)) listed a w
  | fuel, listed, l1, a, w, hs, hs1, hj, hj2, hc, h => by
    have bit : ∀ j, j < ops.length → listed.getD j true = listed.getD j false := fun j h => by rw [getD_lt (by omega), getD_lt (by omega)]
    have bit1 : ∀ j, j < k → l1.getD j true = l1.getD j false := fun j h => by rw [getD_lt (by omega), getD_lt (by omega)]
    have at1 : ∀ j, j < k → (ops.take k)[j]? = ops[j]? := fun j hj => by simp [List.getElem?_take, hj]
    have rd : ∀ j, j < k → (j ∈ Region.ready .any ops.toArray listed ↔ j ∈ Region.ready .any (ops.take k).toArray l1) := by
      intro j hjk
      rw [mem_ready, mem_ready, bit j (by omega), bit1 j hjk, hj j hjk]
      refine and_congr Iff.rfl ⟨fun ⟨o, ho, hd⟩ => ⟨o, ?_, fun e he hb => ?_⟩, fun ⟨o, ho, hd⟩ => ⟨o, ?_, fun e he hb => ?_⟩⟩
      · have := at1 j hjk; simpa [this] using ho
      · rw [← hj _ (tl.dep0 j o hjk (by simpa using ho) e (by simpa using he) (by rw [← bindsA_eq]; exact hb))]; exact hd e he hb
      · have := at1 j hjk; simpa [this] using ho
      · have ho' : ops[j]? = some o := by have := at1 j hjk; simpa [this] using ho
        rw [hj _ (tl.dep0 j o hjk ho' e (by simpa using he) (by rw [← bindsA_eq]; exact hb))]; exact hd e he hb
    have all1 : (∀ j, j < k → listed.getD j false = true) → Region.ready .any (ops.take k).toArray l1 = [] := fun q => by
      cases q2 : Region.ready .any (ops.take k).toArray l1 with
      | nil => rfl
      | cons j r =>
        obtain ⟨h1, o, h2, _⟩ := mem_ready.1 (q2 ▸ List.mem_cons_self : j ∈ Region.ready .any (ops.take k).toArray l1)
        have h3 : j < k := by have := (Array.getElem?_eq_some_iff.1 h2).1; simp at this; omega
        rw [bit1 j h3, ← hj j h3, q j h3] at h1; cases h1
    have fin : (∀ j, j < k → listed.getD j false = true) → Qm .normal a w → wpAny P .any ops.toArray Q (fuel + (ops.length - k)) listed a w := fun q h0 =>
      any_suffix tl (ops.length - k) k _ listed a w (Nat.le_refl _) (by omega) hs (fun j hjl => by
        by_cases e : j < k
        · simp [q j e, e]
        · rw [hj2 j (by omega)]; simp [e]) (by omega) (hn _ _ h0)
    have late : ∀ j0, j0 < k → listed.getD j0 false = false → ∀ j, k ≤ j → j ∉ Region.ready .any ops.toArray listed := fun j0 h0 h1 j hkj hjr => by
      obtain ⟨_, o, h2, _⟩ := mem_ready.1 hjr
      have h3 : j < ops.length := by have := (Array.getElem?_eq_some_iff.1 h2).1; simpa using this
      exact not_ready tl.ok hc (tl.all j j0 hkj h3 (by omega)) h1 hjr
    by_cases hall : ∀ j, j < k → listed.getD j false = true
    · refine fin hall ?_
      cases fuel with
      | zero => exact h.2
      | succ f => exact h.1 (all1 hall)
    · obtain ⟨j0, hj0⟩ := Classical.not_forall.1 hall
      obtain ⟨hj0k, hj0l⟩ := Classical.not_imp.1 hj0
      have hj0l : listed.getD j0 false = false := by simpa using hj0l
      have same : ∀ j, j ∈ Region.ready .any ops.toArray listed → j < k := fun j hjr => Nat.lt_of_not_le fun q => late j0 hj0k hj0l j q hjr
      have some1 : Region.ready .any (ops.take k).toArray l1 ≠ [] := fun hr => by
        rcases hfr (fun j => l1.getD j false) with q | ⟨i, o, hik, hl, ho, hd⟩
        · have := q j0 hj0k; rw [← hj j0 hj0k, hj0l] at this; cases this
        · have : i ∈ Region.ready .any (ops.take k).toArray l1 := mem_ready.2 ⟨by rw [bit1 i hik]; exact hl, o, by have := at1 i hik; simpa [this] using ho, fun e he hb => hd e (by simpa using he) (by rw [← bindsA_eq]; exact hb)⟩
          rw [hr] at this; cases this
      cases fuel with
      | zero => exact absurd h.1 some1
      | succ f =>
        rw [show f + 1 + (ops.length - k) = (f + (ops.length - k)) + 1 from by omega]
        refine ⟨fun hr => ?_, fun i hri => ?_⟩
        · cases q2 : Region.ready .any (ops.take k).toArray l1 with
          | nil => exact absurd q2 some1
          | cons j r =>
            have hjr : j ∈ Region.ready .any (ops.take k).toArray l1 := q2 ▸ List.mem_cons_self
            have h3 : j < k := by
              obtain ⟨_, o, h2, _⟩ := mem_ready.1 hjr
              have := (Array.getElem?_eq_some_iff.1 h2).1; simp at this; omega
            have := (rd j h3).2 hjr
            rw [hr] at this; cases this
        · have hik := same i hri
          have h1 := h.2 i ((rd i hik).1 hri)
          obtain ⟨o, ho⟩ : ∃ o, ops[i]? = some o := ⟨_, List.getElem?_eq_getElem (by omega)⟩
          obtain ⟨hnl, o', ho', hdp⟩ := mem_ready.1 hri
          have next : ∀ a' w', wpAny P .any (ops.take k).toArray Qm f (l1.setIfInBounds i true) a' w' → wpAny P .any ops.toArray Q (f + (ops.length - k)) (listed.setIfInBounds i true) a' w' := fun a' w' q => by
            refine any_prefix tl hk hfr hQ hn f _ _ a' w' (by simpa using hs) (by simpa using hs1) (fun j hjk => ?_) (fun j hkj => ?_) (fun j o2 hjl ho2 e2 he2 hb2 => ?_) q
            · by_cases e : i = j
              · subst e; simp [Array.getD_eq_getD_getElem?, hs, hs1, hjk, show i < ops.length from by omega]
              · rw [getD_set_ne false e, getD_set_ne false e, hj j hjk]
            · rw [getD_set_ne false (by omega), hj2 j hkj]
            · by_cases e : i = j
              · subst e
                rw [ho] at ho2; cases ho2
                have ho3 : ops[i]? = some o' := by simpa using ho'
                rw [ho] at ho3; cases ho3
                exact getD_set_true (hdp e2 (by simpa using he2) (by rw [bindsA_eq]; exact hb2))
              · rw [getD_set_ne false e] at hjl
                exact getD_set_true (hc j o2 hjl ho2 e2 he2 hb2)
          have hwant : ∀ tmps, Region.wanted o (yielded (ops.take k).toArray tmps) = Region.wanted o (yielded ops.toArray tmps) := fun tmps => by
            unfold Region.wanted
            cases hg : o.guard with
            | none => rfl
            | some g =>
              obtain ⟨j, want⟩ := g
              have hjk := tl.grd i o j want hik ho hg
              have : yielded (ops.take k).toArray tmps j = yielded ops.toArray tmps j := by
                unfold yielded
                have e := at1 j hjk
                have e2 : (ops.take k).toArray[j]? = ops.toArray[j]? := by simpa using e
                rw [e2]
              simp only [this]
          unfold wpOp at h1 ⊢
          rw [show (ops.take k).toArray[i]? = some o from by have := at1 i hik; simpa [this] using ho] at h1
          rw [show ops.toArray[i]? = some o from by simpa using ho]
          simp only at h1 ⊢
          rw [hwant] at h1
          split
          · rename_i hw
            rw [if_pos hw] at h1
            refine h1.imp (wp_monoQ next hQ) fun ⟨q1, q2⟩ => ⟨q1, ?_⟩
            obtain ⟨a0, w0, q2⟩ := q2
            exact ⟨a0, w0, hQ _ _ _ (by simp) q2⟩
          · rename_i hw
            rw [if_neg hw] at h1
            exact next _ _ h1
end
end Go.Proofs.Ythioccbgjkbmdaa.AM
