/-
 The abstract machine, part 21e: what the check of a region's order gives.
-/
import Derived.Test.YthioccbgjkbmdaaGreatM09e7f1a246
set_option linter.unusedVariables false
set_option linter.unusedSimpArgs false
set_option linter.unusedSectionVars false
namespace Go.Proofs.YthioccbgjkbmdaaGreat.AM
open Go Go.RowKit
theorem bindsA_eq (e : Edge) : Region.binds .any e = bindsA e := by
 unfold Region.binds bindsA
 split <;> simp_all
theorem testBit_bset (n i : Nat) : Nat.testBit (bset n) i = decide (n = i) := by
 unfold bset
 show Nat.testBit (1 <<< n) i = _
 rw [Nat.one_shiftLeft, Nat.testBit_two_pow]
theorem depSet_mem {l : List Edge} {i : Nat} : Nat.testBit (depSet l) i = true ↔ ∃ e ∈ l, bindsA e = true ∧ e.on = i := by
 induction l with
 | nil => simp [depSet]
 | cons e r ih =>
  unfold depSet
  cases hb : bindsA e with
  | true =>
   show Nat.testBit (bset e.on ||| depSet r) i = true ↔ _
   rw [Nat.testBit_or, Bool.or_eq_true, ih, testBit_bset]
   simp [hb]
  | false => rw [ih]; simp [hb]
def AncOk (ops : List Oper) (anc : List (Nat × Nat)) : Prop :=
 ∀ i j, Nat.testBit (getA anc i) j = true → ∃ o, ops[i]? = some o ∧ ∃ e ∈ o.after.toList, bindsA e = true ∧ (e.on = j ∨ (e.on < i ∧ Nat.testBit (getA anc e.on) j = true))
theorem ancOf_mem {acc : List (Nat × Nat)} {l : List Edge} {j : Nat} : Nat.testBit (ancOf acc l) j = true → ∃ e ∈ l, bindsA e = true ∧ (e.on = j ∨ Nat.testBit (getA acc e.on) j = true) := by
 induction l with
 | nil => simp [ancOf]
 | cons e r ih =>
  unfold ancOf
  cases hb : bindsA e with
  | true =>
   show Nat.testBit ((bset e.on ||| getA acc e.on) ||| ancOf acc r) j = true → _
   rw [Nat.testBit_or, Nat.testBit_or, Bool.or_eq_true, Bool.or_eq_true, testBit_bset]
   rintro ((h | h) | h)
   ·exact ⟨e, by simp, hb, .inl (by simpa using h)⟩
   ·exact ⟨e, by simp, hb, .inr h⟩
   ·obtain ⟨e', h1, h2⟩ := ih h
    exact ⟨e', List.mem_cons_of_mem _ h1, h2⟩
  | false =>
   intro h
   obtain ⟨e', h1, h2⟩ := ih h
   exact ⟨e', List.mem_cons_of_mem _ h1, h2⟩
theorem ancGo_ok (ops : List Oper) : ∀ (l : List Oper) (i : Nat) (acc : List (Nat × Nat)), (∀ k, l[k]? = ops[i + k]?) → (∀ k, i ≤ k → getA acc k = 0) → AncOk ops acc → AncOk ops (ancGo i acc l)
 | [], i, acc, _, _, h => h
 | o :: r, i, acc, hl, h0, h => by
  unfold ancGo
  refine ancGo_ok ops r (i + 1) _ (fun k => by have := hl (k + 1); simpa [Nat.add_assoc, Nat.add_comm 1 k] using this) (fun k hk => ?_) (fun k j hj => ?_)
  ·simp only [getA]
   have : Nat.beq i k = false := by
    cases hb : Nat.beq i k with
    | false => rfl
    | true => have := Nat.eq_of_beq_eq_true hb; omega
   rw [this]; exact h0 k (by omega)
  ·have ho : ops[i]? = some o := by have := hl 0; simpa using this.symm
   have lift : ∀ m j, Nat.testBit (getA acc m) j = true → m < i ∧ Nat.testBit (getA ((i, ancOf acc o.after.toList) :: acc) m) j = true := by
    intro m j hm
    have hmi : m < i := by
     rcases Nat.lt_or_ge m i with q | q
     ·exact q
     ·rw [h0 m q] at hm; simp at hm
    refine ⟨hmi, ?_⟩
    simp only [getA]
    have : Nat.beq i m = false := by
     cases hb : Nat.beq i m with
     | false => rfl
     | true => have := Nat.eq_of_beq_eq_true hb; omega
    rw [this]; exact hm
   simp only [getA] at hj
   cases hb : Nat.beq i k with
   | true =>
    rw [hb] at hj
    have hik : i = k := Nat.eq_of_beq_eq_true hb
    subst hik
    obtain ⟨e, h1, h2, h3⟩ := ancOf_mem hj
    exact ⟨o, ho, e, h1, h2, h3.imp id fun h3 => lift _ _ h3⟩
   | false =>
    rw [hb] at hj
    obtain ⟨o', q1, e, q2, q3, q4⟩ := h k j hj
    exact ⟨o', q1, e, q2, q3, q4.imp id fun q4 => ⟨q4.1, (lift _ _ q4.2).2⟩⟩
structure Plan (ops : List Oper) (anc : List (Nat × Nat)) (π : List Nat) : Prop where
 nodup : π.Nodup
 lt : ∀ i ∈ π, i < ops.length
 all : ∀ i, i < ops.length → i ∈ π
 pos : ∀ π1 i π2, π = π1 ++ i :: π2 → ∃ o, ops[i]? = some o ∧ (∀ e ∈ o.after.toList, bindsA e = true → e.on ∈ π1) ∧ (loud o.op = true → ∀ k ∈ π2, Nat.testBit (getA anc k) i = true)
 meet : ∀ i j o p, i ≠ j → ops[i]? = some o → ops[j]? = some p → meets ops o p = true → Nat.testBit (getA anc i) j = true ∨ Nat.testBit (getA anc j) i = true
 anc : AncOk ops anc
theorem posOk_spec {ops : List Oper} {anc : List (Nat × Nat)} : ∀ (π : List Nat) (done : Nat) (d : List Nat), (∀ i, Nat.testBit done i = true → i ∈ d) → posOk ops anc done π = true → ∀ π1 i π2, π = π1 ++ i :: π2 →
  ∃ o, ops[i]? = some o ∧ (∀ e ∈ o.after.toList, bindsA e = true → e.on ∈ d ++ π1) ∧ (loud o.op = true → ∀ k ∈ π2, Nat.testBit (getA anc k) i = true)
 | [], done, d, hd, h, π1, i, π2, e => by simp at e
 | j :: r, done, d, hd, h, π1, i, π2, e => by
  unfold posOk at h
  split at h
  ·rename_i o ho
   rw [look?_eq] at ho
   simp only [Bool.and_eq_true, Bool.or_eq_true, Bool.not_eq_true'] at h
   obtain ⟨⟨⟨_, h1⟩, h2⟩, h3⟩ := h
   cases π1 with
   | nil =>
    simp only [List.nil_append, List.cons.injEq] at e
    obtain ⟨rfl, rfl⟩ := e
    refine ⟨o, ho, fun x hx hb => ?_, fun hl k hk => ?_⟩
    ·have h4 : Nat.land (depSet o.after.toList) done = depSet o.after.toList := Nat.eq_of_beq_eq_true h1
     have h5 : Nat.testBit (depSet o.after.toList) x.on = true := depSet_mem.2 ⟨x, hx, hb, rfl⟩
     rw [← h4] at h5
     have h6 : Nat.testBit (depSet o.after.toList &&& done) x.on = true := h5
     rw [Nat.testBit_and, Bool.and_eq_true] at h6
     rw [List.append_nil]
     exact hd _ h6.2
    ·rcases h2 with h2 | h2
     ·rw [hl] at h2; cases h2
     ·exact List.all_eq_true.1 h2 k hk
   | cons x π1 =>
    simp only [List.cons_append, List.cons.injEq] at e
    obtain ⟨rfl, rfl⟩ := e
    obtain ⟨o', q1, q2, q3⟩ := posOk_spec _ _ (d ++ [j]) (fun m hm => by
     have hm' : Nat.testBit (done ||| bset j) m = true := hm
     rw [Nat.testBit_or, Bool.or_eq_true, testBit_bset] at hm'
     rcases hm' with q | q
     ·exact List.mem_append_left _ (hd m q)
     ·simp at q; simp [q]) h3 π1 i π2 rfl
    exact ⟨o', q1, fun e he hb => by have := q2 e he hb; simpa using this, q3⟩
  ·cases h
theorem posOk_nodup {ops : List Oper} {anc : List (Nat × Nat)} : ∀ (π : List Nat) (done : Nat), posOk ops anc done π = true → π.Nodup ∧ (∀ i ∈ π, Nat.testBit done i = false ∧ i < ops.length)
 | [], done, h => ⟨List.nodup_nil, by simp⟩
 | j :: r, done, h => by
  unfold posOk at h
  split at h
  ·rename_i o ho
   rw [look?_eq] at ho
   simp only [Bool.and_eq_true, Bool.or_eq_true, Bool.not_eq_true'] at h
   obtain ⟨⟨⟨h0, _⟩, _⟩, h3⟩ := h
   obtain ⟨k1, k2⟩ := posOk_nodup r _ h3
   have hbit : ∀ i, Nat.testBit (Nat.lor done (bset j)) i = (Nat.testBit done i || decide (j = i)) := fun i => by
    show Nat.testBit (done ||| bset j) i = _
    rw [Nat.testBit_or, testBit_bset]
   refine ⟨List.nodup_cons.2 ⟨fun hj => ?_, k1⟩, fun i hi => ?_⟩
   ·have := (k2 j hj).1
    rw [hbit] at this
    simp at this
   ·rcases List.mem_cons.1 hi with rfl | hi
    ·exact ⟨h0, (List.getElem?_eq_some_iff.1 ho).1⟩
    ·have := (k2 i hi).1
     rw [hbit, Bool.or_eq_false_iff] at this
     exact ⟨this.1, (k2 i hi).2⟩
  ·cases h
theorem plan_of {ops : List Oper} (h : drawOk ops = true) : Plan ops (ancGo 0 [] ops) (orderOf ops) := by
 unfold drawOk at h
 simp only [Bool.and_eq_true] at h
 obtain ⟨⟨⟨_, h2⟩, h3⟩, h4⟩ := h
 obtain ⟨n1, n2⟩ := posOk_nodup _ _ h3
 refine ⟨n1, fun i hi => (n2 i hi).2, fun i hi => ?_, fun π1 i π2 e => ?_, fun i j o p hij hi hj hm => ?_, ?_⟩
 ·have := List.all_eq_true.1 h2 i (List.mem_range.2 hi)
  simpa using this
 ·obtain ⟨o, q1, q2, q3⟩ := posOk_spec _ 0 [] (fun i hi => by simp at hi) h3 π1 i π2 e
  exact ⟨o, q1, fun e he hb => by have := q2 e he hb; simpa using this, q3⟩
 ·have hi' := (List.getElem?_eq_some_iff.1 hi).1
  have hj' := (List.getElem?_eq_some_iff.1 hj).1
  have h5 := List.all_eq_true.1 (List.all_eq_true.1 h4 i (List.mem_range.2 hi')) j (List.mem_range.2 hj')
  rw [look?_eq, look?_eq, hi, hj] at h5
  simp only [Bool.or_eq_true, Bool.not_eq_true'] at h5
  rcases h5 with ((h5 | h5) | h5) | h5
  ·exact absurd (Nat.eq_of_beq_eq_true h5) hij
  ·rw [hm] at h5; cases h5
  ·exact .inl h5
  ·exact .inr h5
 ·exact ancGo_ok ops ops 0 [] (fun k => by simp) (fun k _ => rfl) (fun i j hj => by simp [getA] at hj)
theorem anc_in {ops : List Oper} {anc : List (Nat × Nat)} (ha : AncOk ops anc) {J : Nat → Prop} (hJ : ∀ i o, J i → ops[i]? = some o → ∀ e ∈ o.after.toList, bindsA e = true → J e.on) : ∀ (i : Nat) (o : Oper), ops[i]? = some o → (∀ e ∈ o.after.toList, bindsA e = true → J e.on) → ∀ j, Nat.testBit (getA anc i) j = true → J j := by
 intro i
 induction i using Nat.strongRecOn with
 | _ i ih =>
  intro o ho hd j hj
  obtain ⟨o', q1, e, q2, q3, q4⟩ := ha i j hj
  rw [ho] at q1; cases q1
  rcases q4 with rfl | ⟨hlt, q4⟩
  ·exact hd e q2 q3
  ·obtain ⟨o2, r1, _⟩ := ha e.on j q4
   exact ih e.on hlt o2 r1 (fun e2 he2 hb2 => hJ _ _ (hd e q2 q3) r1 e2 he2 hb2) j q4
theorem anc_front {ops : List Oper} {anc : List (Nat × Nat)} {π : List Nat} (p : Plan ops anc π) {π1 π2 : List Nat} {i j : Nat} (e : π = π1 ++ i :: π2) (h : Nat.testBit (getA anc i) j = true) : j ∈ π1 := by
 obtain ⟨o, ho, hd, _⟩ := p.pos π1 i π2 e
 refine anc_in p.anc (J := fun k => k ∈ π1) (fun k ok hk hok x hx hb => ?_) i o ho hd j h
 obtain ⟨a, b, rfl⟩ := List.append_of_mem hk
 obtain ⟨o', q1, q2, _⟩ := p.pos a k (b ++ i :: π2) (by simp [e])
 rw [hok] at q1; cases q1
 exact List.mem_append_left _ (q2 x hx hb)
open Go Go.RowKit
def sel (J : Nat → Bool) (L : List (Nat × Eff)) (S : St) : St := foldE ((L.filter fun p => J p.1).map (·.2)) S
theorem sel_nil (J : Nat → Bool) (S : St) : sel J [] S = S := rfl
theorem sel_cons (J : Nat → Bool) (p : Nat × Eff) (L : List (Nat × Eff)) (S : St) : sel J (p :: L) S = if J p.1 = true then sel J L (p.2.app S) else sel J L S := by
 unfold sel foldE
 by_cases h : J p.1 = true
 ·simp [List.filter_cons, h]
 ·simp [List.filter_cons, h]
theorem sel_append (J : Nat → Bool) (L1 L2 : List (Nat × Eff)) (S : St) : sel J (L1 ++ L2) S = sel J L2 (sel J L1 S) := by
 unfold sel foldE
 simp [List.filter_append, List.foldl_append]
theorem sel_eqv (J : Nat → Bool) : ∀ (L : List (Nat × Eff)) {S S' : St}, Eqv S S' → Eqv (sel J L S) (sel J L S')
 | [], S, S', h => h
 | p :: L, S, S', h => by
  rw [sel_cons, sel_cons]
  split
  ·exact sel_eqv J L (h.app p.2)
  ·exact sel_eqv J L h
theorem sel_congr {J J' : Nat → Bool} : ∀ (L : List (Nat × Eff)) (S : St), (∀ p ∈ L, J p.1 = J' p.1) → sel J L S = sel J' L S
 | [], S, h => rfl
 | p :: L, S, h => by
  rw [sel_cons, sel_cons, h p (by simp)]
  split
  ·exact sel_congr L _ fun q hq => h q (List.mem_cons_of_mem _ hq)
  ·exact sel_congr L _ fun q hq => h q (List.mem_cons_of_mem _ hq)
theorem sel_n (J : Nat → Bool) : ∀ (L : List (Nat × Eff)) (S : St), (sel J L S).n = S.n
 | [], S => rfl
 | p :: L, S => by
  rw [sel_cons]
  split
  ·rw [sel_n J L, n_app]
  ·exact sel_n J L S
theorem sel_comm (J : Nat → Bool) {dst : Option Nat} {d : D} : ∀ (L : List (Nat × Eff)) (S : St), (∀ p ∈ L, J p.1 = true → (∀ t, dst = some t → p.2.dst ≠ some t) ∧ noMent p.2.ks d = true) → Eqv (sel J L ((Eff.q dst d).app S)) ((Eff.q dst d).app (sel J L S))
 | [], S, h => Eqv.refl _
 | p :: L, S, h => by
  rw [sel_cons, sel_cons]
  split
  ·rename_i hp
   obtain ⟨h1, h2⟩ := h p (by simp) hp
   exact (sel_eqv J L (comm h1 h2 S)).trans (sel_comm J L _ fun q hq => h q (List.mem_cons_of_mem _ hq))
  ·exact sel_comm J L _ fun q hq => h q (List.mem_cons_of_mem _ hq)
theorem sel_skip (J : Nat → Bool) {t : Nat} : ∀ (L : List (Nat × Eff)) {S S' : St}, S.n = S'.n → S.get t = S'.get t → (∀ p ∈ L, J p.1 = false → ∃ dst d, p.2 = .q dst d ∧ dst ≠ some t) → (sel J L S).get t = (sel (fun _ => true) L S').get t
 | [], S, S', hn, h, _ => h
 | p :: L, S, S', hn, h, hs => by
  rw [sel_cons, sel_cons, if_pos rfl]
  split
  ·exact sel_skip J L (by rw [n_app, n_app]; exact hn) (app_get p.2 hn h) fun q hq => hs q (List.mem_cons_of_mem _ hq)
  ·rename_i hp
   obtain ⟨dst, d, e, hd⟩ := hs p (by simp) (by simpa using hp)
   refine sel_skip J L (by rw [n_app]; exact hn) ?_ fun q hq => hs q (List.mem_cons_of_mem _ hq)
   rw [e]
   simp only [Eff.app, get_put]
   rw [if_neg (fun q => hd q.1)]
   exact h
theorem sel_skip_ob (J : Nat → Bool) : ∀ (L : List (Nat × Eff)) {S S' : St}, S.ob = S'.ob → (∀ p ∈ L, J p.1 = false → ∃ dst d, p.2 = .q dst d) → (sel J L S).ob = (sel (fun _ => true) L S').ob
 | [], S, S', h, _ => h
 | p :: L, S, S', h, hs => by
  rw [sel_cons, sel_cons, if_pos rfl]
  split
  ·exact sel_skip_ob J L (app_ob p.2 h) fun q hq => hs q (List.mem_cons_of_mem _ hq)
  ·rename_i hp
   obtain ⟨dst, d, e⟩ := hs p (by simp) (by simpa using hp)
   refine sel_skip_ob J L ?_ fun q hq => hs q (List.mem_cons_of_mem _ hq)
   rw [e, ob_app_q]; exact h
theorem sel_behind (J : Nat → Bool) {t : Nat} : ∀ (L : List (Nat × Eff)) (S : St), (∀ p ∈ L, J p.1 = true → p.2.dst ≠ some t ∧ noMent p.2.ks (S.get t) = true) → (sel J L S).get t = S.get t
 | [], S, _ => rfl
 | p :: L, S, h => by
  rw [sel_cons]
  split
  ·rename_i hp
   obtain ⟨h1, h2⟩ := h p (by simp) hp
   have e : (p.2.app S).get t = S.get t := by
    cases he : p.2 with
    | q dst d =>
     rw [he] at h1
     simp only [Eff.app, get_put]
     rw [if_neg (fun q => h1 q.1)]
    | l dst d ks ob =>
     rw [he] at h1 h2
     rw [get_app_l, if_neg (fun q => h1 q.1)]
     exact unDs_same ks _ h2
   rw [sel_behind J L _ (fun q hq hj => by rw [e]; exact h q (List.mem_cons_of_mem _ hq) hj), e]
  ·exact sel_behind J L S fun q hq => h q (List.mem_cons_of_mem _ hq)
theorem sel_behind_ob (J : Nat → Bool) : ∀ (L : List (Nat × Eff)) (S : St), (∀ p ∈ L, J p.1 = true → ∃ dst d, p.2 = .q dst d) → (sel J L S).ob = S.ob
 | [], S, _ => rfl
 | p :: L, S, h => by
  rw [sel_cons]
  split
  ·rename_i hp
   obtain ⟨dst, d, e⟩ := h p (by simp) hp
   rw [sel_behind_ob J L _ fun q hq => h q (List.mem_cons_of_mem _ hq), e, ob_app_q]
  ·exact sel_behind_ob J L S fun q hq => h q (List.mem_cons_of_mem _ hq)
open Go Go.RowKit
theorem freeOf_none {ops : List Oper} {anc : List (Nat × Nat)} {i : Nat} : ∀ {r : List Nat}, freeOf ops anc i r = none → ∀ l ∈ r, ∀ o, ops[l]? = some o → loud o.op = true → Nat.testBit (getA anc l) i = true
 | [], _, l, hl, _, _, _ => by simp at hl
 | m :: r, h, l, hl, o, ho, hlo => by
  unfold freeOf at h
  rcases List.mem_cons.1 hl with rfl | hl
  ·rw [look?_eq, ho] at h
   simp only [hlo, Bool.true_and] at h
   cases hb : Nat.testBit (getA anc l) i with
   | true => rfl
   | false =>
    rw [hb] at h
    simp only [Bool.not_false] at h
    split at h <;> cases h
  ·split at h
   ·split at h
    ·split at h <;> cases h
    ·exact freeOf_none h l hl o ho hlo
   ·exact freeOf_none h l hl o ho hlo
theorem freeOf_some {ops : List Oper} {anc : List (Nat × Nat)} {i : Nat} : ∀ {r : List Nat} {ks : List Nat}, freeOf ops anc i r = some ks → ∀ l ∈ r, ∀ o, ops[l]? = some o → loud o.op = true → Nat.testBit (getA anc l) i = false → ∀ k ∈ killOf o, k ∈ ks
 | [], ks, h, l, hl, _, _, _, _ => by simp at hl
 | m :: r, ks, h, l, hl, o, ho, hlo, hb => by
  unfold freeOf at h
  rcases List.mem_cons.1 hl with rfl | hl
  ·rw [look?_eq, ho] at h
   simp only [hlo, Bool.true_and, hb, Bool.not_false] at h
   split at h
   ·cases h; exact fun k hk => List.mem_append_left _ hk
   ·cases h; exact fun k hk => hk
  ·split at h
   ·split at h
    ·split at h
     ·rename_i ks' hf
      cases h
      exact fun k hk => List.mem_append_right _ (freeOf_some hf l hl o ho hlo hb k hk)
     ·rename_i hf
      have := freeOf_none hf l hl o ho hlo
      rw [hb] at this; cases this
    ·exact freeOf_some h l hl o ho hlo hb
   ·exact freeOf_some h l hl o ho hlo hb
theorem noMent_sub {ks ks' : List Nat} {d : D} (h : noMent ks d = true) (hs : ∀ k ∈ ks', k ∈ ks) : noMent ks' d = true := by
 unfold noMent at *
 rw [List.all_eq_true] at *
 exact fun k hk => h k (hs k hk)
theorem opOk_eff {P : Program} {R : List (Nat × AObj) → List D → Prop} {ops : List Oper} {anc : List (Nat × Nat)} {i : Nat} {r : List Nat} {W W' : Wat} {o : Oper} {S : St} {e : Eff} (h : OpOk P R ops anc i r W W' o S e) : e.dst = o.dst ∧ (∀ k ∈ e.ks, k ∈ killOf o) ∧ (loud o.op = false → ∃ d, e = .q o.dst d) := by
 obtain ⟨run, _, h0, h1⟩ := h
 cases run with
 | false =>
  rw [h0 rfl]
  exact ⟨rfl, by simp [Eff.ks], fun _ => ⟨_, rfl⟩⟩
 | true =>
  rcases h1 rfl with ⟨hl, h2⟩ | ⟨hl, d, he, _⟩
  ·exact ⟨h2.1.1, h2.1.2.1, fun q => by rw [hl] at q; cases q⟩
  ·rw [he]
   exact ⟨rfl, by simp [Eff.ks], fun _ => ⟨_, rfl⟩⟩
theorem trOk_mem {P : Program} {R : List (Nat × AObj) → List D → Prop} {ops : List Oper} {anc : List (Nat × Nat)} : ∀ (W : Wat) (π : List Nat) (S : St) (es : List Eff), TrOk P R ops anc W π S es → ∀ p ∈ π.zip es, p.1 ∈ π ∧ ∃ o, ops[p.1]? = some o ∧ p.2.dst = o.dst ∧ (∀ k ∈ p.2.ks, k ∈ killOf o) ∧ (loud o.op = false → ∃ d, p.2 = .q o.dst d)
 | _, [], S, es, h, p, hp => by simp at hp
 | _, i :: r, S, [], h, p, hp => by simp at hp
 | W, i :: r, S, e :: es, h, p, hp => by
  obtain ⟨W', ⟨o, ho, h1⟩, _, h2⟩ := h
  rw [List.zip_cons_cons] at hp
  rcases List.mem_cons.1 hp with rfl | hp
  ·rw [look?_eq] at ho
   exact ⟨by simp, o, ho, opOk_eff h1⟩
  ·obtain ⟨q1, q2⟩ := trOk_mem W' r _ es h2 p hp
   exact ⟨List.mem_cons_of_mem _ q1, q2⟩
theorem trOk_split {P : Program} {R : List (Nat × AObj) → List D → Prop} {ops : List Oper} {anc : List (Nat × Nat)} : ∀ (W : Wat) (π : List Nat) (S : St) (es : List Eff), TrOk P R ops anc W π S es → ∀ i ∈ π, ∃ π1 π2 es1 e es2, π = π1 ++ i :: π2 ∧ es = es1 ++ e :: es2 ∧ es1.length = π1.length ∧ ∃ o, ops[i]? = some o ∧ ∃ W1 W2, OpOk P R ops anc i π2 W1 W2 o (foldE es1 S) e ∧ TrOk P R ops anc W2 π2 (e.app (foldE es1 S)) es2
 | _, [], S, es, h, i, hi => by simp at hi
 | _, j :: r, S, [], h, i, hi => h.elim
 | W, j :: r, S, e :: es, h, i, hi => by
  obtain ⟨W', ⟨o, ho, h1⟩, h3, h2⟩ := h
  by_cases hij : i = j
  ·subst hij
   rw [look?_eq] at ho
   exact ⟨[], r, [], e, es, rfl, rfl, rfl, o, ho, W, W', h1, h2⟩
  ·rcases List.mem_cons.1 hi with q | hi
   ·exact absurd q hij
   ·obtain ⟨π1, π2, es1, e', es2, q1, q2, q3, o', q4, W1, W2, q5, q6⟩ := trOk_split W' r _ es h2 i hi
    exact ⟨j :: π1, π2, e :: es1, e', es2, by simp [q1], by simp [q2], by simp [q3], o', q4, W1, W2, q5, q6⟩
theorem watch_ob {P : Program} {R : List (Nat × AObj) → List D → Prop} {ops : List Oper} {anc : List (Nat × Nat)} {J : Nat → Bool} {k : Nat} {U : List Nat} : ∀ (W : Wat) (π : List Nat) (S : St) (es : List Eff) (X : St), TrOk P R ops anc W π S es → X.ob = S.ob → (k, U) ∈ W → (∀ i ∈ π, J i = true → Nat.testBit (getA anc i) k = false) →
  (∀ a i b, π = a ++ i :: b → ∀ p, ops[i]? = some p → loud p.op = true → J i = false → ∀ j ∈ b, ∀ q, ops[j]? = some q → loud q.op = true → J j = false) → ∀ id ∈ U, look (sel J (π.zip es) X).ob id = look S.ob id
 | W, [], S, es, X, _, hX, _, _, _, id, _ => by simp [sel_nil, hX]
 | W, i :: r, S, [], X, h, _, _, _, _, _, _ => h.elim
 | W, i :: r, S, e :: es, X, h, hX, hk, hb, hlo, id, hid => by
  obtain ⟨W', ⟨o, ho, h1⟩, h3, h2⟩ := h
  rw [look?_eq] at ho
  rw [List.zip_cons_cons, sel_cons]
  have hlo' : ∀ a i b, r = a ++ i :: b → ∀ p, ops[i]? = some p → loud p.op = true → J i = false → ∀ j ∈ b, ∀ q, ops[j]? = some q → loud q.op = true → J j = false := fun a i' b e' => hlo (i :: a) i' b (by rw [e']; rfl)
  have eff := opOk_eff h1
  cases hq : loud o.op with
  | false =>
   obtain ⟨d, hd⟩ := eff.2.2 hq
   have e1 : (e.app S).ob = S.ob := by rw [hd]; exact ob_app_q _ _ _
   have e2 : (e.app X).ob = X.ob := by rw [hd]; exact ob_app_q _ _ _
   split
   ·rw [watch_ob W' r _ es (e.app X) h2 (by rw [e1, e2, hX]) (h3 _ hk) (fun i' hi' => hb i' (List.mem_cons_of_mem _ hi')) hlo' id hid, e1]
   ·rw [watch_ob W' r _ es X h2 (by rw [e1, hX]) (h3 _ hk) (fun i' hi' => hb i' (List.mem_cons_of_mem _ hi')) hlo' id hid, e1]
  | true =>
   split
   ·rename_i hj
    obtain ⟨run, _, h5, h6⟩ := h1
    have e1 : (e.app X).ob = (e.app S).ob := app_ob e hX
    rw [watch_ob W' r _ es (e.app X) h2 e1 (h3 _ hk) (fun i' hi' => hb i' (List.mem_cons_of_mem _ hi')) hlo' id hid]
    cases run with
    | false => rw [h5 rfl, ob_app_q]
    | true =>
     rcases h6 rfl with ⟨_, _, hw⟩ | ⟨q, _⟩
     ·rcases hw k U hk with q | q
      ·rw [hb i (by simp) hj] at q; cases q
      ·exact q id hid
     ·rw [hq] at q; cases q
   ·rename_i hj
    have hj : J i = false := by simpa using hj
    have none := hlo [] i r rfl o ho hq hj
    have mem := trOk_mem W' r _ es h2
    rw [sel_behind_ob J _ X ?_, hX]
    intro p hp hjp
    obtain ⟨hin, o', q1, q2, q3, q4⟩ := mem p hp
    cases hb2 : loud o'.op with
    | true => have := none p.1 hin o' q1 hb2; rw [hjp] at this; cases this
    | false =>
     obtain ⟨d, hd⟩ := q4 hb2
     exact ⟨_, d, hd⟩
theorem look_restrict {ob : List (Nat × AObj)} : ∀ {U : List Nat} {id : Nat} {o : AObj}, look (restrict ob U) id = some o → id ∈ U ∧ look ob id = some o
 | [], id, o, h => by simp [restrict, look] at h
 | u :: r, id, o, h => by
  unfold restrict at h
  split at h
  ·rename_i p hp
   simp only [look] at h
   split at h
   ·rename_i e; subst e; cases h; exact ⟨by simp, hp⟩
   ·obtain ⟨q1, q2⟩ := look_restrict h; exact ⟨List.mem_cons_of_mem _ q1, q2⟩
  ·obtain ⟨q1, q2⟩ := look_restrict h; exact ⟨List.mem_cons_of_mem _ q1, q2⟩
open Go Go.RowKit
theorem sel_true : ∀ (π : List Nat) (es : List Eff) (S : St), es.length = π.length → sel (fun _ => true) (π.zip es) S = foldE es S
 | [], [], S, _ => rfl
 | i :: π, e :: es, S, h => by
  rw [List.zip_cons_cons, sel_cons, if_pos rfl, sel_true π es _ (by simpa using h)]; rfl
 | [], _ :: _, S, h => by simp at h
 | _ :: _, [], S, h => by simp at h
theorem zip_split {π1 π2 : List Nat} {k : Nat} {es1 es2 : List Eff} {e : Eff} (h : es1.length = π1.length) : (π1 ++ k :: π2).zip (es1 ++ e :: es2) = π1.zip es1 ++ (k, e) :: π2.zip es2 := by
 rw [List.zip_append h.symm, List.zip_cons_cons]
section
variable {P : Program} {R : List (Nat × AObj) → List D → Prop} {ops : List Oper} {anc : List (Nat × Nat)} {π1 π2 : List Nat} {k : Nat} {es1 es2 : List Eff} {e : Eff} {S0 : St}
structure At (ops : List Oper) (anc : List (Nat × Nat)) (π1 π2 : List Nat) (k : Nat) (J : Nat → Bool) (o : Oper) : Prop where
 plan : Plan ops anc (π1 ++ k :: π2)
 closed : ∀ i o, J i = true → ops[i]? = some o → ∀ e ∈ o.after.toList, bindsA e = true → J e.on = true
 not : J k = false
 op : ops[k]? = some o
 deps : ∀ e ∈ o.after.toList, bindsA e = true → J e.on = true
theorem At.ne {J : Nat → Bool} {o : Oper} (h : At ops anc π1 π2 k J o) : k ∉ π1 ∧ k ∉ π2 ∧ ∀ i ∈ π1, i ∉ π2 := by
 have := h.plan.nodup
 rw [List.nodup_append] at this
 obtain ⟨h1, h2, h3⟩ := this
 have h4 := List.nodup_cons.1 h2
 exact ⟨fun q => h3 k q k (by simp) rfl, h4.1, fun i hi hj => h3 i hi i (List.mem_cons_of_mem _ hj) rfl⟩
theorem At.front {J : Nat → Bool} {o : Oper} (h : At ops anc π1 π2 k J o) {i : Nat} (hi : i ∈ π1) (hj : J i = false) : Nat.testBit (getA anc k) i = false ∧ Nat.testBit (getA anc i) k = false := by
 constructor
 ·cases hb : Nat.testBit (getA anc k) i with
  | false => rfl
  | true =>
   have := anc_in h.plan.anc (J := fun i => J i = true) h.closed k o h.op h.deps i hb
   rw [hj] at this; cases this
 ·cases hb : Nat.testBit (getA anc i) k with
  | false => rfl
  | true =>
   obtain ⟨a, b, rfl⟩ := List.append_of_mem hi
   have := anc_front h.plan (π1 := a) (i := i) (π2 := b ++ k :: π2) (by simp) hb
   exact absurd (List.mem_append_left _ this) h.ne.1
theorem At.behind {J : Nat → Bool} {o : Oper} (h : At ops anc π1 π2 k J o) {i : Nat} (hi : i ∈ π2) (hj : J i = true) : Nat.testBit (getA anc k) i = false ∧ Nat.testBit (getA anc i) k = false := by
 constructor
 ·cases hb : Nat.testBit (getA anc k) i with
  | false => rfl
  | true => exact absurd hi (h.ne.2.2 i (anc_front h.plan rfl hb))
 ·cases hb : Nat.testBit (getA anc i) k with
  | false => rfl
  | true =>
   have hlt := h.plan.lt i (by simp [hi])
   have := anc_in h.plan.anc (J := fun i => J i = true) h.closed i _ (List.getElem?_eq_getElem hlt) (fun e he hb => h.closed i _ hj (List.getElem?_eq_getElem hlt) e he hb) k hb
   rw [h.not] at this; cases this
theorem At.loudFront {J : Nat → Bool} {o : Oper} (h : At ops anc π1 π2 k J o) {i : Nat} (hi : i ∈ π1) {p : Oper} (hp : ops[i]? = some p) (hl : loud p.op = true) : J i = true := by
 cases hj : J i with
 | true => rfl
 | false =>
  obtain ⟨a, b, rfl⟩ := List.append_of_mem hi
  obtain ⟨o', q1, _, q3⟩ := h.plan.pos a i (b ++ k :: π2) (by simp)
  rw [hp] at q1; cases q1
  have := q3 hl k (by simp)
  rw [(h.front hi hj).1] at this; cases this
end
open Go Go.RowKit
section
variable {P : Program} {R : List (Nat × AObj) → List D → Prop} {ops : List Oper} {anc : List (Nat × Nat)} {π1 π2 : List Nat} {k : Nat} {es1 es2 : List Eff} {e : Eff} {S0 : St} {J : Nat → Bool} {o : Oper} {W W1 W2 : Wat}
theorem meets_of {o p : Oper} {t : Nat} (h : (o.dst = some t ∧ (p.dst = some t ∨ t ∈ looks ops p)) ∨ (p.dst = some t ∧ t ∈ looks ops o)) : meets ops o p = true := by
 unfold meets
 rcases h with ⟨h1, h2⟩ | ⟨h1, h2⟩
 ·rw [h1]
  rcases h2 with h2 | h2
  ·simp [h2]
  ·simp [h2]
 ·rw [h1]; simp [h2]
theorem At.slot (h : At ops anc π1 π2 k J o) (hl : es1.length = π1.length) (tr : TrOk P R ops anc W (π1 ++ k :: π2) S0 (es1 ++ e :: es2)) {t : Nat} (ht : t ∈ looks ops o)
  (hm : ∀ i ∈ π2, J i = true → ∀ p, ops[i]? = some p → loud p.op = true → noMent (killOf p) ((foldE es1 S0).get t) = true) : (sel J ((π1 ++ k :: π2).zip (es1 ++ e :: es2)) S0).get t = (foldE es1 S0).get t := by
 rw [zip_split hl, sel_append, sel_cons, if_neg (by simp [h.not])]
 have mem := trOk_mem _ _ _ _ tr
 rw [zip_split hl] at mem
 have e1 : (sel J (π1.zip es1) S0).get t = (foldE es1 S0).get t := by
  rw [← sel_true π1 es1 S0 hl]
  refine sel_skip J _ rfl rfl fun p hp hj => ?_
  obtain ⟨hin, o', q1, q2, q3, q4⟩ := mem p (List.mem_append_left _ hp)
  have hp1 : p.1 ∈ π1 := (List.of_mem_zip hp).1
  have hnl : loud o'.op = false := by
   cases hb : loud o'.op with
   | false => rfl
   | true => have := h.loudFront hp1 q1 hb; rw [hj] at this; cases this
  obtain ⟨d, hd⟩ := q4 hnl
  refine ⟨_, d, hd, fun hdt => ?_⟩
  have hne : k ≠ p.1 := fun q => by rw [← q] at hp1; exact h.ne.1 hp1
  have := h.plan.meet k p.1 o o' hne h.op q1 (meets_of (.inr ⟨hdt, ht⟩))
  obtain ⟨f1, f2⟩ := h.front hp1 hj
  rw [f1, f2] at this
  simp at this
 rw [sel_behind J _ _ ?_, e1]
 intro p hp hj
 obtain ⟨hin, o', q1, q2, q3, q4⟩ := mem p (List.mem_append_right _ (List.mem_cons_of_mem _ hp))
 have hp2 : p.1 ∈ π2 := (List.of_mem_zip hp).1
 rw [e1]
 constructor
 ·rw [q2]
  intro hdt
  have hne : k ≠ p.1 := fun q => by rw [← q] at hp2; exact h.ne.2.1 hp2
  have := h.plan.meet k p.1 o o' hne h.op q1 (meets_of (.inr ⟨hdt, ht⟩))
  obtain ⟨f1, f2⟩ := h.behind hp2 hj
  rw [f1, f2] at this
  simp at this
 ·cases hb : loud o'.op with
  | true => exact noMent_sub (hm _ hp2 hj o' q1 hb) q3
  | false =>
   obtain ⟨d, hd⟩ := q4 hb
   rw [hd]; rfl
theorem At.obFront (h : At ops anc π1 π2 k J o) (hl : es1.length = π1.length) (tr : TrOk P R ops anc W (π1 ++ k :: π2) S0 (es1 ++ e :: es2)) : (sel J (π1.zip es1) S0).ob = (foldE es1 S0).ob := by
 have mem := trOk_mem _ _ _ _ tr
 rw [zip_split hl] at mem
 rw [← sel_true π1 es1 S0 hl]
 refine sel_skip_ob J _ rfl fun p hp hj => ?_
 obtain ⟨hin, o', q1, q2, q3, q4⟩ := mem p (List.mem_append_left _ hp)
 have hp1 : p.1 ∈ π1 := (List.of_mem_zip hp).1
 have hnl : loud o'.op = false := by
  cases hb : loud o'.op with
  | false => rfl
  | true => have := h.loudFront hp1 q1 hb; rw [hj] at this; cases this
 obtain ⟨d, hd⟩ := q4 hnl
 exact ⟨_, d, hd⟩
theorem At.watch (h : At ops anc π1 π2 k J o) (hl : es1.length = π1.length) (tr : TrOk P R ops anc W (π1 ++ k :: π2) S0 (es1 ++ e :: es2)) {d : D} (he : e = .q o.dst d) (tr2 : TrOk P R ops anc W2 π2 (e.app (foldE es1 S0)) es2) {U : List Nat} (hU : (k, U) ∈ W2) : ∀ id ∈ U, look (sel J ((π1 ++ k :: π2).zip (es1 ++ e :: es2)) S0).ob id = look (foldE es1 S0).ob id := by
 intro id hid
 rw [zip_split hl, sel_append, sel_cons, if_neg (by simp [h.not])]
 have e1 : (e.app (foldE es1 S0)).ob = (foldE es1 S0).ob := by rw [he]; exact ob_app_q _ _ _
 rw [watch_ob W2 π2 _ es2 _ tr2 ((h.obFront hl tr).trans e1.symm) hU (fun i hi hj => (h.behind hi hj).2) (fun a i b hab p hp hlp hj j hjb q hq hlq => ?_) id hid, e1]
 cases hjj : J j with
 | false => rfl
 | true =>
  exfalso
  have hlt := (List.getElem?_eq_some_iff.1 hq).1
  obtain ⟨o', q1, _, q3⟩ := h.plan.pos (π1 ++ k :: a) i b (by rw [hab]; simp)
  rw [hp] at q1; cases q1
  have hb := q3 hlp j hjb
  have := anc_in h.plan.anc (J := fun i => J i = true) h.closed j _ (List.getElem?_eq_getElem hlt) (fun e he hb => h.closed j _ hjj (List.getElem?_eq_getElem hlt) e he hb) i hb
  rw [hj] at this; cases this
theorem At.ob (h : At ops anc π1 π2 k J o) (hl : es1.length = π1.length) (tr : TrOk P R ops anc W (π1 ++ k :: π2) S0 (es1 ++ e :: es2))
  (hm : ∀ i ∈ π2, J i = true → ∀ p, ops[i]? = some p → loud p.op = true → False) : (sel J ((π1 ++ k :: π2).zip (es1 ++ e :: es2)) S0).ob = (foldE es1 S0).ob := by
 rw [zip_split hl, sel_append, sel_cons, if_neg (by simp [h.not])]
 have mem := trOk_mem _ _ _ _ tr
 rw [zip_split hl] at mem
 rw [sel_behind_ob J _ _ ?_, ← sel_true π1 es1 S0 hl]
 ·refine sel_skip_ob J _ rfl fun p hp hj => ?_
  obtain ⟨hin, o', q1, q2, q3, q4⟩ := mem p (List.mem_append_left _ hp)
  have hp1 : p.1 ∈ π1 := (List.of_mem_zip hp).1
  have hnl : loud o'.op = false := by
   cases hb : loud o'.op with
   | false => rfl
   | true => have := h.loudFront hp1 q1 hb; rw [hj] at this; cases this
  obtain ⟨d, hd⟩ := q4 hnl
  exact ⟨_, d, hd⟩
 ·intro p hp hj
  obtain ⟨hin, o', q1, q2, q3, q4⟩ := mem p (List.mem_append_right _ (List.mem_cons_of_mem _ hp))
  have hp2 : p.1 ∈ π2 := (List.of_mem_zip hp).1
  cases hb : loud o'.op with
  | true => exact (hm _ hp2 hj o' q1 hb).elim
  | false =>
   obtain ⟨d, hd⟩ := q4 hb
   exact ⟨_, d, hd⟩
def addJ (J : Nat → Bool) (k : Nat) : Nat → Bool := fun i => i == k || J i
theorem sel_none (J : Nat → Bool) : ∀ (L : List (Nat × Eff)) (S : St), (∀ p ∈ L, J p.1 = false) → sel J L S = S
 | [], S, _ => rfl
 | p :: L, S, h => by
  rw [sel_cons, if_neg (by simp [h p (by simp)])]
  exact sel_none J L S fun q hq => h q (List.mem_cons_of_mem _ hq)
theorem At.add (h : At ops anc π1 π2 k J o) (hl : es1.length = π1.length) (tr : TrOk P R ops anc W (π1 ++ k :: π2) S0 (es1 ++ e :: es2)) {S : St} (hop : OpOk P R ops anc k π2 W1 W2 o S e) :
  Eqv (sel (addJ J k) ((π1 ++ k :: π2).zip (es1 ++ e :: es2)) S0) (e.app (sel J ((π1 ++ k :: π2).zip (es1 ++ e :: es2)) S0)) := by
 have mem := trOk_mem _ _ _ _ tr
 rw [zip_split hl] at mem ⊢
 rw [sel_append, sel_append, sel_cons, sel_cons, if_pos (by simp [addJ]), if_neg (by simp [h.not])]
 have c1 : sel (addJ J k) (π1.zip es1) S0 = sel J (π1.zip es1) S0 := sel_congr _ _ fun p hp => by
  have hp1 : p.1 ∈ π1 := (List.of_mem_zip hp).1
  have : p.1 ≠ k := fun q => h.ne.1 (q ▸ hp1)
  simp [addJ, this]
 have c2 : ∀ X, sel (addJ J k) (π2.zip es2) X = sel J (π2.zip es2) X := fun X => sel_congr _ _ fun p hp => by
  have hp2 : p.1 ∈ π2 := (List.of_mem_zip hp).1
  have : p.1 ≠ k := fun q => h.ne.2.1 (q ▸ hp2)
  simp [addJ, this]
 rw [c1, c2]
 have hdst := (opOk_eff hop).1
 have quiet : ∀ d, e = .q o.dst d → (∀ i ∈ π2, J i = true → ∀ p, ops[i]? = some p → loud p.op = true → noMent (killOf p) d = true) → Eqv (sel J (π2.zip es2) (e.app (sel J (π1.zip es1) S0))) (e.app (sel J (π2.zip es2) (sel J (π1.zip es1) S0))) := by
  intro d he hno
  rw [he]
  refine sel_comm J _ _ fun p hp hj => ?_
  obtain ⟨hin, o', q1, q2, q3, q4⟩ := mem p (List.mem_append_right _ (List.mem_cons_of_mem _ hp))
  have hp2 : p.1 ∈ π2 := (List.of_mem_zip hp).1
  have hne : k ≠ p.1 := fun q => by rw [← q] at hp2; exact h.ne.2.1 hp2
  constructor
  ·intro t ht hdt
   rw [q2] at hdt
   have := h.plan.meet k p.1 o o' hne h.op q1 (meets_of (.inl ⟨ht, .inl hdt⟩))
   obtain ⟨f1, f2⟩ := h.behind hp2 hj
   rw [f1, f2] at this
   simp at this
  ·cases hb : loud o'.op with
   | true => exact noMent_sub (hno _ hp2 hj o' q1 hb) q3
   | false =>
    obtain ⟨d', hd⟩ := q4 hb
    rw [hd]; rfl
 obtain ⟨run, _, h0, h1⟩ := hop
 cases run with
 | false => exact quiet _ (h0 rfl) fun i hi hj p hp hlp => by simp [noMent, mentions]
 | true =>
  rcases h1 rfl with ⟨hlo, _⟩ | ⟨_, d, he, hq⟩
  ·have none : ∀ p ∈ π2.zip es2, J p.1 = false := fun p hp => by
    have hp2 : p.1 ∈ π2 := (List.of_mem_zip hp).1
    cases hj : J p.1 with
    | false => rfl
    | true =>
     obtain ⟨o', q1, _, q3⟩ := h.plan.pos π1 k π2 rfl
     rw [h.op] at q1; cases q1
     have := q3 hlo _ hp2
     rw [(h.behind hp2 hj).2] at this; cases this
   rw [sel_none J _ _ none, sel_none J _ _ none]
   exact Eqv.refl _
  ·refine quiet d he fun i hi hj p hp hlp => ?_
   obtain ⟨_, f2⟩ := h.behind hi hj
   rcases hq with ⟨hf, _⟩ | ⟨ks, hf, _, hd, _⟩
   ·have := freeOf_none hf i hi p hp hlp
    rw [f2] at this; cases this
   ·exact noMent_sub hd (freeOf_some hf i hi p hp hlp f2)
end
open Go Go.RowKit
def Inv (G : Gh) (L : List (Nat × Eff)) (S0 : St) (J : Nat → Bool) (a : Act) (w : World) : Prop := ∃ E ok S', Eqv S' (sel J L S0) ∧ Conc G E ok S' a w
section
variable {P : Program} {R : List (Nat × AObj) → List D → Prop} (hT : tableOf P = T) {ops : List Oper} {anc : List (Nat × Nat)} {π1 π2 : List Nat} {k : Nat} {es1 es2 : List Eff} {e : Eff} {S0 : St} {J : Nat → Bool} {o : Oper} {W W1 W2 : Wat}
include hT
theorem At.step {G : Gh} {E : Env} {ok : Oks} {S' : St} {a : Act} {w : World} (h : At ops anc π1 π2 k J o) (hl : es1.length = π1.length) (tr : TrOk P R ops anc W (π1 ++ k :: π2) S0 (es1 ++ e :: es2)) (hop : OpOk P R ops anc k π2 W1 W2 o (foldE es1 S0) e) (tr2 : TrOk P R ops anc W2 π2 (e.app (foldE es1 S0)) es2)
  (he : Eqv S' (sel J ((π1 ++ k :: π2).zip (es1 ++ e :: es2)) S0)) (c : Conc G E ok S' a w) (Q : Exit → Act → World → Prop) :
  ∃ run, GOk ops o (foldE es1 S0) run ∧ (run = true → o.wp P a w (Inv G ((π1 ++ k :: π2).zip (es1 ++ e :: es2)) S0 (addJ J k)) Q) ∧ (run = false → Inv G ((π1 ++ k :: π2).zip (es1 ++ e :: es2)) S0 (addJ J k) (a.put o.dst undef) w) := by
 have hadd := h.add hl tr hop
 have fin : ∀ {S'' : St} {E' : Env} {ok' : Oks} {a' : Act} {w' : World}, Eqv S'' (e.app S') → Conc G E' ok' S'' a' w' → Inv G ((π1 ++ k :: π2).zip (es1 ++ e :: es2)) S0 (addJ J k) a' w' := fun q c' => ⟨_, _, _, (q.trans (he.app e)).trans hadd.symm, c'⟩
 obtain ⟨run, hg, h0, h1⟩ := hop
 refine ⟨run, hg, fun hr => ?_, fun hr => ?_⟩
 ·rcases h1 hr with ⟨hlo, hld⟩ | ⟨hlo, d, hd, hq⟩
  ·have noLoud : ∀ i ∈ π2, J i = true → False := fun i hi hj => by
    obtain ⟨o', q1, _, q3⟩ := h.plan.pos π1 k π2 rfl
    rw [h.op] at q1; cases q1
    have := q3 hlo _ hi
    rw [(h.behind hi hj).2] at this; cases this
   have hev : ∀ x ∈ o.op.operands.toList, S'.ev x = (foldE es1 S0).ev x := fun x hx => by
    cases x with
    | tmp t => exact (he.get t).trans (h.slot hl tr (by unfold looks; exact List.mem_append_left _ (List.mem_filterMap.2 ⟨_, hx, rfl⟩)) fun i hi hj p _ _ => (noLoud i hi hj).elim)
    | _ => rfl
   have hn : S'.n = (foldE es1 S0).n := by rw [he.n, sel_n, ← sel_true π1 es1 S0 hl, sel_n]
   have hw := hld.1.2.2 S' hn (he.ob.trans (h.ob hl tr fun i hi hj p _ _ => noLoud i hi hj)) hev (fun S'' => S'' = e.app S') rfl
   exact Oper.wp_mono (fun a' w' ⟨E', ok', S'', q, c'⟩ => by subst q; exact fin (Eqv.refl _) c') (h_sound hT c hw Q)
  ·subst hd
   have hev : (∀ x ∈ o.op.operands.toList, ∀ i ∈ π2, J i = true → ∀ p, ops[i]? = some p → loud p.op = true → noMent (killOf p) ((foldE es1 S0).ev x) = true) → ∀ x ∈ o.op.operands.toList, S'.ev x = (foldE es1 S0).ev x := fun hm x hx => by
    cases x with
    | tmp t => exact (he.get t).trans (h.slot hl tr (by unfold looks; exact List.mem_append_left _ (List.mem_filterMap.2 ⟨_, hx, rfl⟩)) (hm _ hx))
    | _ => rfl
   have go : ∀ ob, (∀ id o, look ob id = some o → ObjRep E ok w id o) → QuietOk P ob o (foldE es1 S0) d → (∀ x ∈ o.op.operands.toList, S'.ev x = (foldE es1 S0).ev x) → o.wp P a w (Inv G ((π1 ++ k :: π2).zip (es1 ++ Eff.q o.dst d :: es2)) S0 (addJ J k)) Q := by
    rintro ob hob ⟨d0, hc, hdd⟩ hx
    refine hc E ok w a o rfl ⟨fun x hxm => by rw [← hx x (by simpa using hxm)]; exact ev_rep c x, hob, c.okb⟩ _ Q fun v w' ok' g r => ?_
    refine fin (Eqv.refl _) ((c.grow g).put o.dst ?_)
    rcases hdd with rfl | ⟨b, rfl, rfl⟩
    ·exact r
    ·rw [repD_bool r]; exact .lit b
   rcases hq with ⟨hf, hq⟩ | ⟨ks, hf, hop', _, U, hU, hq⟩
   ·have none : ∀ i ∈ π2, J i = true → ∀ p, ops[i]? = some p → loud p.op = true → False := fun i hi hj p hp hlp => by
     have := freeOf_none hf i hi p hp hlp
     rw [(h.behind hi hj).2] at this; cases this
    refine go _ ?_ hq (hev fun x hx i hi hj p hp hlp => (none i hi hj p hp hlp).elim)
    rw [← h.ob hl tr none, ← he.ob]; exact c.obj
   ·refine go _ (fun id o' hlk => ?_) hq (hev fun x hx i hi hj p hp hlp => noMent_sub (hop' x hx) (freeOf_some hf i hi p hp hlp (h.behind hi hj).2))
    obtain ⟨k1, k2⟩ := look_restrict hlk
    exact c.obj id o' (by rw [he.ob, h.watch hl tr rfl tr2 hU id k1]; exact k2)
 ·have heq := h0 hr
  subst heq
  exact fin (Eqv.refl _) (c.put o.dst (.v _ _ (Rep.tup (ok := ok) (w := w) [] [] rfl (by simp))))
end
open Go Go.RowKit
theorem yielded_of {ops : List Oper} {j t : Nat} {p : Oper} (h : look? ops j = some p) (hp : p.dst = some t) {tmps : Array Value} :
  (∀ b, tmps.getD t undef = .bool b → yielded ops.toArray tmps j = some b) ∧ ((∀ b, tmps.getD t undef ≠ .bool b) → yielded ops.toArray tmps j = none) := by
 rw [look?_eq] at h
 have h1 : (ops.toArray[j]?).bind (·.dst) = some t := by simp [h, hp]
 unfold yielded
 rw [h1]
 simp only [Option.bind_some]
 constructor
 ·intro b hb
  cases ht : tmps[t]? with
  | none =>
   have : tmps.getD t undef = undef := by simp [Array.getD_eq_getD_getElem?, ht]
   rw [this] at hb; simp [undef] at hb
  | some v =>
   have : tmps.getD t undef = v := by simp [Array.getD_eq_getD_getElem?, ht]
   rw [this] at hb; subst hb; rfl
 ·intro hb
  cases ht : tmps[t]? with
  | none => rfl
  | some v =>
   have : tmps.getD t undef = v := by simp [Array.getD_eq_getD_getElem?, ht]
   cases v with
   | bool b => exact absurd this (hb b)
   | _ => rfl
theorem wanted_of {G : Gh} {E : Env} {ok : Oks} {ops : List Oper} {o : Oper} {S S' : St} {a : Act} {w : World} {run : Bool} (c : Conc G E ok S' a w) (hg : GOk ops o S run) (hs : ∀ t ∈ looks ops o, (∀ ks, noMent ks (S.get t) = true) → S'.get t = S.get t) : Region.wanted o (yielded ops.toArray a.tmps) = run := by
 rcases hg with ⟨h1, h2⟩ | ⟨j, want, p, t, h1, h2, h3, h4⟩
 ·rw [h2]; simp [Region.wanted, h1]
 ·have ht : t ∈ looks ops o := by
   unfold looks
   refine List.mem_append_right _ ?_
   rw [h1]; simp only [h2, h3]; simp
  have hno : ∀ ks, noMent ks (S.get t) = true := fun ks => by
   rcases h4 with ⟨b, h5, _⟩ | ⟨h5, _⟩ <;> rw [h5] <;> simp [noMent, mentions]
  have hv := c.slot t
  rw [hs t ht hno] at hv
  obtain ⟨y1, y2⟩ := yielded_of (tmps := a.tmps) h2 h3
  rcases h4 with ⟨b, h5, h6⟩ | ⟨h5, h6⟩
  ·rw [h5] at hv
   rw [h6]
   simp [Region.wanted, h1, y1 b (repD_lit hv)]
  ·rw [h5] at hv
   rw [h6]
   have : ∀ b, a.tmps.getD t undef ≠ .bool b := by
    intro b hb
    rw [hb] at hv
    cases hv; rename_i q; cases q
   simp [Region.wanted, h1, y2 this]
theorem first_ready {ops : List Oper} {anc : List (Nat × Nat)} {π : List Nat} (p : Plan ops anc π) {J : Nat → Bool} : ∀ (π1 π2 : List Nat), π = π1 ++ π2 → (∀ i ∈ π1, J i = true) → (∀ i ∈ π2, J i = true) ∨ ∃ a k b o, π = a ++ k :: b ∧ J k = false ∧ ops[k]? = some o ∧ ∀ e ∈ o.after.toList, bindsA e = true → J e.on = true
 | π1, [], _, _ => .inl (by simp)
 | π1, k :: r, e, h => by
  cases hk : J k with
  | true =>
   rcases first_ready p (π1 ++ [k]) r (by simp [e]) (fun i hi => by
    rcases List.mem_append.1 hi with hi | hi
    ·exact h i hi
    ·simp at hi; subst hi; exact hk) with q | q
   ·exact .inl fun i hi => by
     rcases List.mem_cons.1 hi with rfl | hi
     ·exact hk
     ·exact q i hi
   ·exact .inr q
  | false =>
   obtain ⟨o, ho, hd, _⟩ := p.pos π1 k r e
   exact .inr ⟨π1, k, r, o, e, hk, ho, fun x hx hb => h _ (hd x hx hb)⟩
open Go Go.RowKit
def left (n : Nat) (listed : Array Bool) : Nat := ((List.range n).filter fun i => !listed.getD i true).length
theorem getD_lt {listed : Array Bool} {i : Nat} (h : i < listed.size) (d : Bool) : listed.getD i d = listed[i] := by simp [h]
theorem left_pos {n : Nat} {listed : Array Bool} {i : Nat} (hi : i < n) (h : listed.getD i true = false) : 0 < left n listed :=
 List.length_pos_of_mem (List.mem_filter.2 ⟨List.mem_range.2 hi, by simpa using h⟩)
theorem left_set {n : Nat} {listed : Array Bool} {i : Nat} (hi : i < n) (hs : listed.size = n) (h : listed.getD i true = false) : left n (listed.setIfInBounds i true) < left n listed := by
 unfold left
 have h1 : ((List.range n).filter fun j => !(listed.setIfInBounds i true).getD j true) = ((List.range n).filter fun j => !listed.getD j true).filter fun j => !(j == i) := by
  rw [List.filter_filter]
  refine List.filter_congr fun j hj => ?_
  have hj' := List.mem_range.1 hj
  by_cases e : j = i
  ·subst e
   simp [Array.getD_eq_getD_getElem?, hs, hj']
  ·rw [getD_set_ne true (Ne.symm e)]
   simp [e]
 rw [h1]
 refine List.length_filter_lt_length_iff_exists.2 ⟨i, List.mem_filter.2 ⟨List.mem_range.2 hi, by simpa using h⟩, by simp⟩
section
variable {P : Program} {R : List (Nat × AObj) → List D → Prop} (hT : tableOf P = T) {ops : List Oper} {anc : List (Nat × Nat)} {π : List Nat} {es : List Eff} {S0 : St}
include hT
theorem any_sound {G : Gh} (p : Plan ops anc π) {W : Wat} (tr : TrOk P R ops anc W π S0 es) {Q : Exit → Act → World → Prop} (hQ : ∀ a w J, (∀ i ∈ π, J i = true) → Inv G (π.zip es) S0 J a w → Q .normal a w) :
  ∀ (fuel : Nat) (listed : Array Bool) (a : Act) (w : World), listed.size = ops.length → (∀ i o, listed.getD i false = true → ops[i]? = some o → ∀ e ∈ o.after.toList, bindsA e = true → listed.getD e.on false = true) → left ops.length listed ≤ fuel →
   Inv G (π.zip es) S0 (fun i => listed.getD i false) a w → wpAny P .any ops.toArray Q fuel listed a w := by
 intro fuel
 induction fuel using Nat.strongRecOn with
 | _ fuel ih =>
  intro listed a w hs hc hn hi
  have bit : ∀ i, i < ops.length → listed.getD i true = listed.getD i false := fun i h => by rw [getD_lt (by omega), getD_lt (by omega)]
  have done : Region.ready .any ops.toArray listed = [] → Q .normal a w := fun hr => by
   rcases first_ready p (J := fun i => listed.getD i false) [] π rfl (by simp) with q | ⟨x, k, y, o, e, hk, ho, hd⟩
   ·exact hQ a w _ q hi
   ·have hlt := (List.getElem?_eq_some_iff.1 ho).1
    have : k ∈ Region.ready .any ops.toArray listed := mem_ready.2 ⟨by rw [bit k hlt]; exact hk, o, by simpa using ho, fun e he hb => hd e (by simpa using he) (by rw [← bindsA_eq]; exact hb)⟩
    rw [hr] at this; cases this
  cases hf : fuel with
  | zero =>
   have hr : Region.ready .any ops.toArray listed = [] := by
    cases hr : Region.ready .any ops.toArray listed with
    | nil => rfl
    | cons i r =>
     obtain ⟨h1, o, h2, _⟩ := mem_ready.1 (hr ▸ List.mem_cons_self : i ∈ Region.ready .any ops.toArray listed)
     have hlt : i < ops.length := by have := (Array.getElem?_eq_some_iff.1 h2).1; simpa using this
     have := left_pos hlt h1
     omega
   exact ⟨hr, done hr⟩
  | succ m =>
   refine ⟨done, fun i hri => ?_⟩
   obtain ⟨h1, o, h2, h3⟩ := mem_ready.1 hri
   have ho : ops[i]? = some o := by simpa using h2
   have hlt := (List.getElem?_eq_some_iff.1 ho).1
   obtain ⟨π1, π2, es1, e, es2, rfl, rfl, hl, o', ho', W1, W2, hop, tr2⟩ := trOk_split W π S0 es tr i (p.all i hlt)
   rw [ho] at ho'; cases ho'
   have hat : At ops anc π1 π2 i (fun i => listed.getD i false) o := ⟨p, hc, by rw [← bit i hlt]; exact h1, ho, fun e he hb => h3 e (by simpa using he) (by rw [bindsA_eq]; exact hb)⟩
   obtain ⟨E, ok, S', he, c⟩ := hi
   obtain ⟨run, hg, k1, k2⟩ := hat.step hT hl tr hop tr2 he c Q
   have hw := wanted_of c hg fun t ht hno => (he.get t).trans (hat.slot hl tr ht fun _ _ _ _ _ _ => hno _)
   have next : ∀ a' w', Inv G ((π1 ++ i :: π2).zip (es1 ++ e :: es2)) S0 (addJ (fun i => listed.getD i false) i) a' w' → wpAny P .any ops.toArray Q m (listed.setIfInBounds i true) a' w' := fun a' w' q => by
    have hJ : (fun j => (listed.setIfInBounds i true).getD j false) = addJ (fun j => listed.getD j false) i := by
     funext j
     by_cases e : i = j
     ·subst e; simp [addJ, Array.getD_eq_getD_getElem?, hs, hlt]
     ·rw [getD_set_ne false e]; simp [addJ, Ne.symm e]
    refine ih m (by omega) _ a' w' (by simpa using hs) (fun j o2 hj ho2 e2 he2 hb2 => ?_) (by have := left_set hlt hs h1; omega) (by rw [hJ]; exact q)
    by_cases e : i = j
    ·subst e
     rw [ho] at ho2; cases ho2
     exact getD_set_true (hat.deps e2 he2 hb2)
    ·rw [getD_set_ne false e] at hj
     exact getD_set_true (hc j o2 hj ho2 e2 he2 hb2)
   unfold wpOp
   rw [h2]
   simp only
   rw [hw]
   cases run with
   | true => rw [if_pos rfl]; exact .inl (Oper.wp_mono (fun a' w' q => next a' w' q) (k1 rfl))
   | false => rw [if_neg (by simp)]; exact next _ _ (k2 rfl)
end
end Go.Proofs.YthioccbgjkbmdaaGreat.AM
