/-
  The abstract machine, part 21j: a region in any order: soundness.
-/
import Derived.Test.YtinckcpmkocakaaM1497e626ae
set_option linter.unusedVariables false
set_option linter.unusedSimpArgs false
set_option linter.unusedSectionVars false
namespace Go.Proofs.Ytinckcpmkocakaa.AM
open Go Go.RowKit
def Inv (G : Gh) (L : List (Nat × Eff)) (S0 : St) (J : Nat → Bool) (a : Act) (w : World) : Prop := ∃ E ok S', Eqv S' (sel J L S0) ∧ Conc G E ok S' a w
section
variable {P : Program} {R : List (Nat × AObj) → List D → Prop} (hT : tableOf P = T) {ops : List Oper} {anc : List (Nat × Nat)} {π1 π2 : List Nat} {k : Nat} {es1 es2 : List Eff} {e : Eff} {S0 : St} {J : Nat → Bool} {o : Oper} {W W1 W2 : Wat}
include hT
theorem At.step {G : Gh} {E : Env} {ok : Oks} {S' : St} {a : Act} {w : World} (h : At ops anc π1 π2 k J o) (hl : es1.length = π1.length) (tr : TrOk P R ops anc W (π1 ++ k :: π2) S0 (es1 ++ e :: es2)) (hop : OpOk P R ops anc k π2 W1 W2 o (foldE es1 S0) e) (tr2 : TrOk P R ops anc W2 π2 (e.app (foldE es1 S0)) es2)
    (he : Eqv S' (sel J ((π1 ++ k :: π2).zip (es1 ++ e :: es2)) S0)) (c : Conc G E ok S' a w) (Q : Exit → Act → World → Prop) :
    ∃ run, GOk ops o (foldE es1 S0) run ∧ (run = true → o.wp P a w (Inv G ((π1 ++ k :: π2).zip (es1 ++ e :: es2)) S0 (addJ J k)) Q) ∧ (run = false → Inv G ((π1 ++ k :: π2).zip (es1 ++ e :: es2)) S0 (addJ J k) (a.put o.dst undef) w) := by
  have hadd := h.add hl tr hop
  have fin : ∀ {S'' : St} {E' : Env} {ok' : Oks} {a' : Act} {w' : World}, Eqv S'' (e.app S') → Conc G E' ok' S'' a' w' → Inv G ((π1 ++ k :: π2).zip (es1 ++ e :: es2)) S0 (addJ J k) a' w' := fun q c' => ⟨_, _, _, (q.trans (he.app e)).trans hadd.symm, c'⟩
  obtain ⟨run, hg, h0, h1⟩ := hop
  refine ⟨run, hg, fun hr => ?_, fun hr => ?_⟩
  · rcases h1 hr with ⟨hlo, hld⟩ | ⟨hlo, d, hd, hq⟩
    · have noLoud : ∀ i ∈ π2, J i = true → False := fun i hi hj => by
        obtain ⟨o', q1, _, q3⟩ := h.plan.pos π1 k π2 rfl
        rw [h.op] at q1; cases q1
        have := q3 hlo _ hi
        rw [(h.behind hi hj).2] at this; cases this
      have hev : ∀ x ∈ o.op.operands.toList, S'.ev x = (foldE es1 S0).ev x := fun x hx => by
        cases x with
        | tmp t => exact (he.get t).trans (h.slot hl tr (by unfold looks; exact List.mem_append_left _ (List.mem_filterMap.2 ⟨_, hx, rfl⟩)) fun i hi hj p _ _ => (noLoud i hi hj).elim)
        | _ => rfl
      have hn : S'.n = (foldE es1 S0).n := by rw [he.n, sel_n, ← sel_true π1 es1 S0 hl, sel_n]
      have hw := hld.1.2.2 S' hn (he.ob.trans (h.ob hl tr fun i hi hj p _ _ => noLoud i hi hj)) hev (fun S'' => S'' = e.app S') rfl
      exact Oper.wp_mono (fun a' w' ⟨E', ok', S'', q, c'⟩ => by subst q; exact fin (Eqv.refl _) c') (h_sound hT c hw Q)
    · subst hd
      have hev : (∀ x ∈ o.op.operands.toList, ∀ i ∈ π2, J i = true → ∀ p, ops[i]? = some p → loud p.op = true → noMent (killOf p) ((foldE es1 S0).ev x) = true) → ∀ x ∈ o.op.operands.toList, S'.ev x = (foldE es1 S0).ev x := fun hm x hx => by
        cases x with
        | tmp t => exact (he.get t).trans (h.slot hl tr (by unfold looks; exact List.mem_append_left _ (List.mem_filterMap.2 ⟨_, hx, rfl⟩)) (hm _ hx))
        | _ => rfl
      have go : ∀ ob, (∀ id o, look ob id = some o → ObjRep E ok w id o) → QuietOk P ob o (foldE es1 S0) d → (∀ x ∈ o.op.operands.toList, S'.ev x = (foldE es1 S0).ev x) → o.wp P a w (Inv G ((π1 ++ k :: π2).zip (es1 ++ Eff.q o.dst d :: es2)) S0 (addJ J k)) Q := by
        rintro ob hob ⟨d0, hc, hdd⟩ hx
        refine hc E ok w a o rfl ⟨fun x hxm => by rw [← hx x (by simpa using hxm)]; exact ev_rep c x, hob, c.okb⟩ _ Q fun v w' ok' g r => ?_
        refine fin (Eqv.refl _) ((c.grow g).put o.dst ?_)
        rcases hdd with rfl | ⟨b, rfl, rfl⟩
        · exact r
        · rw [repD_bool r]; exact .lit b
      rcases hq with ⟨hf, hq⟩ | ⟨ks, hf, hop', _, U, hU, hq⟩
      · have none : ∀ i ∈ π2, J i = true → ∀ p, ops[i]? = some p → loud p.op = true → False := fun i hi hj p hp hlp => by
          have := freeOf_none hf i hi p hp hlp
          rw [(h.behind hi hj).2] at this; cases this
        refine go _ ?_ hq (hev fun x hx i hi hj p hp hlp => (none i hi hj p hp hlp).elim)
        rw [← h.ob hl tr none, ← he.ob]; exact c.obj
      · refine go _ (fun id o' hlk => ?_) hq (hev fun x hx i hi hj p hp hlp => noMent_sub (hop' x hx) (freeOf_some hf i hi p hp hlp (h.behind hi hj).2))
        obtain ⟨k1, k2⟩ := look_restrict hlk
        exact c.obj id o' (by rw [he.ob, h.watch hl tr rfl tr2 hU id k1]; exact k2)
  · have heq := h0 hr
    subst heq
    exact fin (Eqv.refl _) (c.put o.dst (.v _ _ (Rep.tup (ok := ok) (w := w) [] [] rfl (by simp))))
end
end Go.Proofs.Ytinckcpmkocakaa.AM

/-
  The abstract machine, part 21k: a region in any order: all of it.
-/
set_option linter.unusedVariables false
set_option linter.unusedSimpArgs false
set_option linter.unusedSectionVars false
namespace Go.Proofs.Ytinckcpmkocakaa.AM
open Go Go.RowKit
theorem yielded_of {ops : List Oper} {j t : Nat} {p : Oper} (h : look? ops j = some p) (hp : p.dst = some t) {tmps : Array Value} :
    (∀ b, tmps.getD t undef = .bool b → yielded ops.toArray tmps j = some b) ∧ ((∀ b, tmps.getD t undef ≠ .bool b) → yielded ops.toArray tmps j = none) := by
  rw [look?_eq] at h
  have h1 : (ops.toArray[j]?).bind (·.dst) = some t := by simp [h, hp]
  unfold yielded
  rw [h1]
  simp only [Option.bind_some]
  constructor
  · intro b hb
    cases ht : tmps[t]? with
    | none =>
      have : tmps.getD t undef = undef := by simp [Array.getD_eq_getD_getElem?, ht]
      rw [this] at hb; simp [undef] at hb
    | some v =>
      have : tmps.getD t undef = v := by simp [Array.getD_eq_getD_getElem?, ht]
      rw [this] at hb; subst hb; rfl
  · intro hb
    cases ht : tmps[t]? with
    | none => rfl
    | some v =>
      have : tmps.getD t undef = v := by simp [Array.getD_eq_getD_getElem?, ht]
      cases v with
      | bool b => exact absurd this (hb b)
      | _ => rfl
/-- How a guard decides, in the machine. -/
theorem wanted_of {G : Gh} {E : Env} {ok : Oks} {ops : List Oper} {o : Oper} {S S' : St} {a : Act} {w : World} {run : Bool} (c : Conc G E ok S' a w) (hg : GOk ops o S run) (hs : ∀ t ∈ looks ops o, (∀ ks, noMent ks (S.get t) = true) → S'.get t = S.get t) : Region.wanted o (yielded ops.toArray a.tmps) = run := by
  rcases hg with ⟨h1, h2⟩ | ⟨j, want, p, t, h1, h2, h3, h4⟩
  · rw [h2]; simp [Region.wanted, h1]
  · have ht : t ∈ looks ops o := by
      unfold looks
      refine List.mem_append_right _ ?_
      rw [h1]; simp only [h2, h3]; simp
    have hno : ∀ ks, noMent ks (S.get t) = true := fun ks => by
      rcases h4 with ⟨b, h5, _⟩ | ⟨h5, _⟩ <;> rw [h5] <;> simp [noMent, mentions]
    have hv := c.slot t
    rw [hs t ht hno] at hv
    obtain ⟨y1, y2⟩ := yielded_of (tmps := a.tmps) h2 h3
    rcases h4 with ⟨b, h5, h6⟩ | ⟨h5, h6⟩
    · rw [h5] at hv
      rw [h6]
      simp [Region.wanted, h1, y1 b (repD_lit hv)]
    · rw [h5] at hv
      rw [h6]
      have : ∀ b, a.tmps.getD t undef ≠ .bool b := by
        intro b hb
        rw [hb] at hv
        cases hv; rename_i q; cases q
      simp [Region.wanted, h1, y2 this]
/-- The first of the order that has not run may run. -/
theorem first_ready {ops : List Oper} {anc : List (Nat × Nat)} {π : List Nat} (p : Plan ops anc π) {J : Nat → Bool} : ∀ (π1 π2 : List Nat), π = π1 ++ π2 → (∀ i ∈ π1, J i = true) → (∀ i ∈ π2, J i = true) ∨ ∃ a k b o, π = a ++ k :: b ∧ J k = false ∧ ops[k]? = some o ∧ ∀ e ∈ o.after.toList, bindsA e = true → J e.on = true
  | π1, [], _, _ => .inl (by simp)
  | π1, k :: r, e, h => by
    cases hk : J k with
    | true =>
      rcases first_ready p (π1 ++ [k]) r (by simp [e]) (fun i hi => by
        rcases List.mem_append.1 hi with hi | hi
        · exact h i hi
        · simp at hi; subst hi; exact hk) with q | q
      · exact .inl fun i hi => by
          rcases List.mem_cons.1 hi with rfl | hi
          · exact hk
          · exact q i hi
      · exact .inr q
    | false =>
      obtain ⟨o, ho, hd, _⟩ := p.pos π1 k r e
      exact .inr ⟨π1, k, r, o, e, hk, ho, fun x hx hb => h _ (hd x hx hb)⟩
end Go.Proofs.Ytinckcpmkocakaa.AM

/-
  The abstract machine, part 21l: a region in any order: all orders.
-/
set_option linter.unusedVariables false
set_option linter.unusedSimpArgs false
set_option linter.unusedSectionVars false
namespace Go.Proofs.Ytinckcpmkocakaa.AM
open Go Go.RowKit
/-- How many have not run. -/
def left (n : Nat) (listed : Array Bool) : Nat := ((List.range n).filter fun i => !listed.getD i true).length
theorem getD_lt {listed : Array Bool} {i : Nat} (h : i < listed.size) (d : Bool) : listed.getD i d = listed[i] := by simp [h]
theorem left_pos {n : Nat} {listed : Array Bool} {i : Nat} (hi : i < n) (h : listed.getD i true = false) : 0 < left n listed :=
  List.length_pos_of_mem (List.mem_filter.2 ⟨List.mem_range.2 hi, by simpa using h⟩)
theorem left_set {n : Nat} {listed : Array Bool} {i : Nat} (hi : i < n) (hs : listed.size = n) (h : listed.getD i true = false) : left n (listed.setIfInBounds i true) < left n listed := by
  unfold left
  have h1 : ((List.range n).filter fun j => !(listed.setIfInBounds i true).getD j true) = ((List.range n).filter fun j => !listed.getD j true).filter fun j => !(j == i) := by
    rw [List.filter_filter]
    refine List.filter_congr fun j hj => ?_
    have hj' := List.mem_range.1 hj
    by_cases e : j = i
    · subst e
      simp [Array.getD_eq_getD_getElem?, hs, hj']
    · rw [getD_set_ne true (Ne.symm e)]
      simp [e]
  rw [h1]
  refine List.length_filter_lt_length_iff_exists.2 ⟨i, List.mem_filter.2 ⟨List.mem_range.2 hi, by simpa using h⟩, by simp⟩
section
variable {P : Program} {R : List (Nat × AObj) → List D → Prop} (hT : tableOf P = T) {ops : List Oper} {anc : List (Nat × Nat)} {π : List Nat} {es : List Eff} {S0 : St}
include hT
theorem any_sound {G : Gh} (p : Plan ops anc π) {W : Wat} (tr : TrOk P R ops anc W π S0 es) {Q : Exit → Act → World → Prop} (hQ : ∀ a w J, (∀ i ∈ π, J i = true) → Inv G (π.zip es) S0 J a w → Q .normal a w) :
    ∀ (fuel : Nat) (listed : Array Bool) (a : Act) (w : World), listed.size = ops.length → (∀ i o, listed.getD i false = true → ops[i]? = some o → ∀ e ∈ o.after.toList, bindsA e = true → listed.getD e.on false = true) → left ops.length listed ≤ fuel →
      Inv G (π.zip es) S0 (fun i => listed.getD i false) a w → wpAny P .any ops.toArray Q fuel listed a w := by
  intro fuel
  induction fuel using Nat.strongRecOn with
  | _ fuel ih =>
    intro listed a w hs hc hn hi
    have bit : ∀ i, i < ops.length → listed.getD i true = listed.getD i false := fun i h => by rw [getD_lt (by omega), getD_lt (by omega)]
    have done : Region.ready .any ops.toArray listed = [] → Q .normal a w := fun hr => by
      rcases first_ready p (J := fun i => listed.getD i false) [] π rfl (by simp) with q | ⟨x, k, y, o, e, hk, ho, hd⟩
      · exact hQ a w _ q hi
      · have hlt := (List.getElem?_eq_some_iff.1 ho).1
        have : k ∈ Region.ready .any ops.toArray listed := mem_ready.2 ⟨by rw [bit k hlt]; exact hk, o, by simpa using ho, fun e he hb => hd e (by simpa using he) (by rw [← bindsA_eq]; exact hb)⟩
        rw [hr] at this; cases this
    cases hf : fuel with
    | zero =>
      have hr : Region.ready .any ops.toArray listed = [] := by
        cases hr : Region.ready .any ops.toArray listed with
        | nil => rfl
        | cons i r =>
          obtain ⟨h1, o, h2, _⟩ := mem_ready.1 (hr ▸ List.mem_cons_self : i ∈ Region.ready .any ops.toArray listed)
          have hlt : i < ops.length := by have := (Array.getElem?_eq_some_iff.1 h2).1; simpa using this
          have := left_pos hlt h1
          omega
      exact ⟨hr, done hr⟩
    | succ m =>
      refine ⟨done, fun i hri => ?_⟩
      obtain ⟨h1, o, h2, h3⟩ := mem_ready.1 hri
      have ho : ops[i]? = some o := by simpa using h2
      have hlt := (List.getElem?_eq_some_iff.1 ho).1
      obtain ⟨π1, π2, es1, e, es2, rfl, rfl, hl, o', ho', W1, W2, hop, tr2⟩ := trOk_split W π S0 es tr i (p.all i hlt)
      rw [ho] at ho'; cases ho'
      have hat : At ops anc π1 π2 i (fun i => listed.getD i false) o := ⟨p, hc, by rw [← bit i hlt]; exact h1, ho, fun e he hb => h3 e (by simpa using he) (by rw [bindsA_eq]; exact hb)⟩
      obtain ⟨E, ok, S', he, c⟩ := hi
      obtain ⟨run, hg, k1, k2⟩ := hat.step hT hl tr hop tr2 he c Q
      have hw := wanted_of c hg fun t ht hno => (he.get t).trans (hat.slot hl tr ht fun _ _ _ _ _ _ => hno _)
      have next : ∀ a' w', Inv G ((π1 ++ i :: π2).zip (es1 ++ e :: es2)) S0 (addJ (fun i => listed.getD i false) i) a' w' → wpAny P .any ops.toArray Q m (listed.setIfInBounds i true) a' w' := fun a' w' q => by
        have hJ : (fun j => (listed.setIfInBounds i true).getD j false) = addJ (fun j => listed.getD j false) i := by
          funext j
          by_cases e : i = j
          · subst e; simp [addJ, Array.getD_eq_getD_getElem?, hs, hlt]
          · rw [getD_set_ne false e]; simp [addJ, Ne.symm e]
        refine ih m (by omega) _ a' w' (by simpa using hs) (fun j o2 hj ho2 e2 he2 hb2 => ?_) (by have := left_set hlt hs h1; omega) (by rw [hJ]; exact q)
        by_cases e : i = j
        · subst e
          rw [ho] at ho2; cases ho2
          exact getD_set_true (hat.deps e2 he2 hb2)
        · rw [getD_set_ne false e] at hj
          exact getD_set_true (hc j o2 hj ho2 e2 he2 hb2)
      unfold wpOp
      rw [h2]
      simp only
      rw [hw]
      cases run with
      | true => rw [if_pos rfl]; exact .inl (Oper.wp_mono (fun a' w' q => next a' w' q) (k1 rfl))
      | false => rw [if_neg (by simp)]; exact next _ _ (k2 rfl)
end
end Go.Proofs.Ytinckcpmkocakaa.AM

/-
  The abstract machine, part 21m: what stands behind all others of a region whose order is open, is done one behind the other.
-/
set_option linter.unusedVariables false
set_option linter.unusedSimpArgs false
set_option linter.unusedSectionVars false
namespace Go.Proofs.Ytinckcpmkocakaa.AM
open Go Go.RowKit

section
variable {P : Program}
theorem wp_monoQ {o : Oper} {a : Act} {w : World} {K K' : Act → World → Prop} {Q Q' : Exit → Act → World → Prop} (h : ∀ a w, K a w → K' a w) (hQ : ∀ e a w, e ≠ .normal → Q e a w → Q' e a w) (hh : o.wp P a w K Q) : o.wp P a w K' Q' := by
  have hL : LetsOut Q → LetsOut Q' := fun ⟨a, w, q⟩ => ⟨a, w, hQ _ _ _ (by simp) q⟩
  unfold Oper.wp at *
  generalize (execOp a.eval o).run P w = r at *
  cases r with
  | ok n w' =>
    cases n <;> simp only [Oper.upon] at hh ⊢ <;>
      first
        | exact h _ _ hh
        | exact Calls.mono hh (fun e w'' he => by cases e <;> first | exact h _ _ he | exact hQ _ _ _ (by simp) he | exact hL he)
        | exact Rows.mono hh (fun _ _ he => h _ _ he)
  | halt x w' => cases x <;> simp only [Oper.upon] at hh ⊢ <;> first | exact hQ _ _ _ (by simp) hh | exact hh

/-- From a place on, each one stands behind all others ahead. -/
structure Tails (ops : List Oper) (anc : List (Nat × Nat)) (k : Nat) : Prop where
  ok : AncOk ops anc
  dep : ∀ i o, k ≤ i → ops[i]? = some o → ∀ e ∈ o.after.toList, bindsA e = true → e.on < i
  dep0 : ∀ i o, i < k → ops[i]? = some o → ∀ e ∈ o.after.toList, bindsA e = true → e.on < k
  all : ∀ i j, k ≤ i → i < ops.length → j < i → Nat.testBit (getA anc i) j = true
  grd : ∀ i o j want, i < k → ops[i]? = some o → o.guard = some (j, want) → j < k
def Closed (ops : List Oper) (listed : Array Bool) : Prop := ∀ i o, listed.getD i false = true → ops[i]? = some o → ∀ e ∈ o.after.toList, bindsA e = true → listed.getD e.on false = true
theorem closed_anc {ops : List Oper} {anc : List (Nat × Nat)} (ha : AncOk ops anc) {listed : Array Bool} (hc : Closed ops listed) : ∀ i j, listed.getD i false = true → Nat.testBit (getA anc i) j = true → listed.getD j false = true := by
  intro i
  induction i using Nat.strongRecOn with
  | _ i ih =>
    intro j hi hj
    obtain ⟨o, ho, e, h1, h2, h3⟩ := ha i j hj
    have h4 := hc i o hi ho e h1 h2
    rcases h3 with h3 | ⟨h3, h5⟩
    · rw [← h3]; exact h4
    · exact ih e.on h3 j h4 h5
/-- One that waits for one that has not run, does not run. -/
theorem not_ready {ops : List Oper} {anc : List (Nat × Nat)} (ha : AncOk ops anc) {listed : Array Bool} (hc : Closed ops listed) {i j : Nat} (hj : Nat.testBit (getA anc i) j = true) (hl : listed.getD j false = false) : i ∉ Region.ready .any ops.toArray listed := by
  intro h
  obtain ⟨_, o, ho, hd⟩ := mem_ready.1 h
  have ho : ops[i]? = some o := by simpa using ho
  obtain ⟨o', ho', e, h1, h2, h3⟩ := ha i j hj
  rw [ho] at ho'; cases ho'
  have h4 := hd e (by simpa using h1) (by rw [bindsA_eq]; exact h2)
  have : listed.getD j false = true := by
    rcases h3 with h3 | ⟨_, h5⟩
    · rw [← h3]; exact h4
    · exact closed_anc ha hc _ _ h4 h5
  rw [hl] at this; cases this
theorem any_suffix {ops : List Oper} {anc : List (Nat × Nat)} {k : Nat} (tl : Tails ops anc k) {Q : Exit → Act → World → Prop} : ∀ (m i fuel : Nat) (listed : Array Bool) (a : Act) (w : World), k ≤ i → i + m = ops.length → listed.size = ops.length → (∀ j, j < ops.length → (listed.getD j false = true ↔ j < i)) → m ≤ fuel →
    wpList P ops.toArray Q (ops.drop i) a w → wpAny P .any ops.toArray Q fuel listed a w
  | m, i, fuel, listed, a, w, hk, hm, hs, hl, hf, h => by
    have bit : ∀ j, j < ops.length → listed.getD j true = listed.getD j false := fun j h => by rw [getD_lt (by omega), getD_lt (by omega)]
    have out : ∀ j, ¬ j < ops.length → listed.getD j false = false := fun j h => by simp [Array.getD_eq_getD_getElem?, show listed[j]? = none from Array.getElem?_eq_none (by omega)]
    have hlt : ∀ j, listed.getD j false = true → j < i := fun j hj => by
      by_cases q : j < ops.length
      · exact (hl j q).1 hj
      · rw [out j q] at hj; cases hj
    match m with
    | 0 =>
      have hr : Region.ready .any ops.toArray listed = [] := by
        cases q : Region.ready .any ops.toArray listed with
        | nil => rfl
        | cons j r =>
          obtain ⟨h1, o, h2, _⟩ := mem_ready.1 (q ▸ List.mem_cons_self : j ∈ Region.ready .any ops.toArray listed)
          have h3 : j < ops.length := by have := (Array.getElem?_eq_some_iff.1 h2).1; simpa using this
          rw [bit j h3, (hl j h3).2 (by omega)] at h1; cases h1
      have hd : ops.drop i = [] := List.drop_of_length_le (by omega)
      rw [hd] at h
      cases fuel with
      | zero => exact ⟨hr, h⟩
      | succ f => exact ⟨fun _ => h, fun j hj => by rw [hr] at hj; cases hj⟩
    | m + 1 =>
      have hi : i < ops.length := by omega
      obtain ⟨f, rfl⟩ : ∃ f, fuel = f + 1 := ⟨fuel - 1, by omega⟩
      have hc : Closed ops listed := by
        intro j o hj ho e he hb
        have hji := hlt j hj
        by_cases q : k ≤ j
        · have := tl.dep j o q ho e he hb
          exact (hl _ (by omega)).2 (by omega)
        · have := tl.dep0 j o (by omega) ho e he hb
          exact (hl _ (by omega)).2 (by omega)
      obtain ⟨o, ho⟩ : ∃ o, ops[i]? = some o := ⟨_, List.getElem?_eq_getElem hi⟩
      have hin : i ∈ Region.ready .any ops.toArray listed := mem_ready.2 ⟨by
        rw [bit i hi]
        cases q : listed.getD i false with
        | false => rfl
        | true => have := (hl i hi).1 q; omega, o, by simpa using ho, fun e he hb => (hl _ (by have := tl.dep i o hk ho e (by simpa using he) (by rw [← bindsA_eq]; exact hb); omega)).2 (tl.dep i o hk ho e (by simpa using he) (by rw [← bindsA_eq]; exact hb))⟩
      have only : ∀ j ∈ Region.ready .any ops.toArray listed, j = i := by
        intro j hj
        obtain ⟨h1, o', h2, _⟩ := mem_ready.1 hj
        have h3 : j < ops.length := by have := (Array.getElem?_eq_some_iff.1 h2).1; simpa using this
        rcases Nat.lt_trichotomy j i with q | q | q
        · rw [bit j h3, (hl j h3).2 q] at h1; cases h1
        · exact q
        · exact absurd hj (not_ready tl.ok hc (tl.all j i (by omega) h3 q) (by
            cases q2 : listed.getD i false with
            | false => rfl
            | true => have := (hl i hi).1 q2; omega))
      refine ⟨fun hr => by rw [hr] at hin; (cases hin), fun j hj => ?_⟩
      obtain rfl := only j hj
      have hd : ops.drop j = o :: ops.drop (j + 1) := by
        rw [List.drop_eq_getElem_cons hi]
        rw [List.getElem?_eq_getElem hi] at ho
        cases ho; rfl
      rw [hd] at h
      unfold wpList at h
      have next : ∀ a' w', wpList P ops.toArray Q (ops.drop (j + 1)) a' w' → wpAny P .any ops.toArray Q f (listed.setIfInBounds j true) a' w' := fun a' w' q =>
        any_suffix tl m (j + 1) f _ a' w' (by omega) (by omega) (by simpa using hs) (fun x hx => by
          by_cases e : j = x
          · subst e; simp [Array.getD_eq_getD_getElem?, hs, hx]
          · rw [getD_set_ne false e, hl x hx]; omega) (by omega) q
      unfold wpOp
      rw [show ops.toArray[j]? = some o from by simpa using ho]
      simp only
      split
      · rename_i hw
        rw [if_pos hw] at h
        exact h.imp (Oper.wp_mono next) id
      · rename_i hw
        rw [if_neg hw] at h
        exact next _ _ h
theorem any_prefix {ops : List Oper} {anc : List (Nat × Nat)} {k : Nat} (tl : Tails ops anc k) (hk : k ≤ ops.length) (hfr : ∀ J : Nat → Bool, (∀ i, i < k → J i = true) ∨ ∃ i o, i < k ∧ J i = false ∧ ops[i]? = some o ∧ ∀ e ∈ o.after.toList, bindsA e = true → J e.on = true) {Q Qm : Exit → Act → World → Prop} (hQ : ∀ e a w, e ≠ .normal → Qm e a w → Q e a w) (hn : ∀ a w, Qm .normal a w → wpList P ops.toArray Q (ops.drop k) a w) : ∀ (fuel : Nat) (listed l1 : Array Bool) (a : Act) (w : World), listed.size = ops.length → l1.size = k → (∀ j, j < k → listed.getD j false = l1.getD j false) → (∀ j, k ≤ j → listed.getD j false = false) → Closed ops listed →
    wpAny P .any (ops.take k).toArray Qm fuel l1 a w → wpAny P .any ops.toArray Q (fuel + (ops.length - k)) listed a w
  | fuel, listed, l1, a, w, hs, hs1, hj, hj2, hc, h => by
    have bit : ∀ j, j < ops.length → listed.getD j true = listed.getD j false := fun j h => by rw [getD_lt (by omega), getD_lt (by omega)]
    have bit1 : ∀ j, j < k → l1.getD j true = l1.getD j false := fun j h => by rw [getD_lt (by omega), getD_lt (by omega)]
    have at1 : ∀ j, j < k → (ops.take k)[j]? = ops[j]? := fun j hj => by simp [List.getElem?_take, hj]
    have rd : ∀ j, j < k → (j ∈ Region.ready .any ops.toArray listed ↔ j ∈ Region.ready .any (ops.take k).toArray l1) := by
      intro j hjk
      rw [mem_ready, mem_ready, bit j (by omega), bit1 j hjk, hj j hjk]
      refine and_congr Iff.rfl ⟨fun ⟨o, ho, hd⟩ => ⟨o, ?_, fun e he hb => ?_⟩, fun ⟨o, ho, hd⟩ => ⟨o, ?_, fun e he hb => ?_⟩⟩
      · have := at1 j hjk; simpa [this] using ho
      · rw [← hj _ (tl.dep0 j o hjk (by simpa using ho) e (by simpa using he) (by rw [← bindsA_eq]; exact hb))]; exact hd e he hb
      · have := at1 j hjk; simpa [this] using ho
      · have ho' : ops[j]? = some o := by have := at1 j hjk; simpa [this] using ho
        rw [hj _ (tl.dep0 j o hjk ho' e (by simpa using he) (by rw [← bindsA_eq]; exact hb))]; exact hd e he hb
    have all1 : (∀ j, j < k → listed.getD j false = true) → Region.ready .any (ops.take k).toArray l1 = [] := fun q => by
      cases q2 : Region.ready .any (ops.take k).toArray l1 with
      | nil => rfl
      | cons j r =>
        obtain ⟨h1, o, h2, _⟩ := mem_ready.1 (q2 ▸ List.mem_cons_self : j ∈ Region.ready .any (ops.take k).toArray l1)
        have h3 : j < k := by have := (Array.getElem?_eq_some_iff.1 h2).1; simp at this; omega
        rw [bit1 j h3, ← hj j h3, q j h3] at h1; cases h1
    have fin : (∀ j, j < k → listed.getD j false = true) → Qm .normal a w → wpAny P .any ops.toArray Q (fuel + (ops.length - k)) listed a w := fun q h0 =>
      any_suffix tl (ops.length - k) k _ listed a w (Nat.le_refl _) (by omega) hs (fun j hjl => by
        by_cases e : j < k
        · simp [q j e, e]
        · rw [hj2 j (by omega)]; simp [e]) (by omega) (hn _ _ h0)
    have late : ∀ j0, j0 < k → listed.getD j0 false = false → ∀ j, k ≤ j → j ∉ Region.ready .any ops.toArray listed := fun j0 h0 h1 j hkj hjr => by
      obtain ⟨_, o, h2, _⟩ := mem_ready.1 hjr
      have h3 : j < ops.length := by have := (Array.getElem?_eq_some_iff.1 h2).1; simpa using this
      exact not_ready tl.ok hc (tl.all j j0 hkj h3 (by omega)) h1 hjr
    by_cases hall : ∀ j, j < k → listed.getD j false = true
    · refine fin hall ?_
      cases fuel with
      | zero => exact h.2
      | succ f => exact h.1 (all1 hall)
    · obtain ⟨j0, hj0⟩ := Classical.not_forall.1 hall
      obtain ⟨hj0k, hj0l⟩ := Classical.not_imp.1 hj0
      have hj0l : listed.getD j0 false = false := by simpa using hj0l
      have same : ∀ j, j ∈ Region.ready .any ops.toArray listed → j < k := fun j hjr => Nat.lt_of_not_le fun q => late j0 hj0k hj0l j q hjr
      have some1 : Region.ready .any (ops.take k).toArray l1 ≠ [] := fun hr => by
        rcases hfr (fun j => l1.getD j false) with q | ⟨i, o, hik, hl, ho, hd⟩
        · have := q j0 hj0k; rw [← hj j0 hj0k, hj0l] at this; cases this
        · have : i ∈ Region.ready .any (ops.take k).toArray l1 := mem_ready.2 ⟨by rw [bit1 i hik]; exact hl, o, by have := at1 i hik; simpa [this] using ho, fun e he hb => hd e (by simpa using he) (by rw [← bindsA_eq]; exact hb)⟩
          rw [hr] at this; cases this
      cases fuel with
      | zero => exact absurd h.1 some1
      | succ f =>
        rw [show f + 1 + (ops.length - k) = (f + (ops.length - k)) + 1 from by omega]
        refine ⟨fun hr => ?_, fun i hri => ?_⟩
        · cases q2 : Region.ready .any (ops.take k).toArray l1 with
          | nil => exact absurd q2 some1
          | cons j r =>
            have hjr : j ∈ Region.ready .any (ops.take k).toArray l1 := q2 ▸ List.mem_cons_self
            have h3 : j < k := by
              obtain ⟨_, o, h2, _⟩ := mem_ready.1 hjr
              have := (Array.getElem?_eq_some_iff.1 h2).1; simp at this; omega
            have := (rd j h3).2 hjr
            rw [hr] at this; cases this
        · have hik := same i hri
          have h1 := h.2 i ((rd i hik).1 hri)
          obtain ⟨o, ho⟩ : ∃ o, ops[i]? = some o := ⟨_, List.getElem?_eq_getElem (by omega)⟩
          obtain ⟨hnl, o', ho', hdp⟩ := mem_ready.1 hri
          have next : ∀ a' w', wpAny P .any (ops.take k).toArray Qm f (l1.setIfInBounds i true) a' w' → wpAny P .any ops.toArray Q (f + (ops.length - k)) (listed.setIfInBounds i true) a' w' := fun a' w' q => by
            refine any_prefix tl hk hfr hQ hn f _ _ a' w' (by simpa using hs) (by simpa using hs1) (fun j hjk => ?_) (fun j hkj => ?_) (fun j o2 hjl ho2 e2 he2 hb2 => ?_) q
            · by_cases e : i = j
              · subst e; simp [Array.getD_eq_getD_getElem?, hs, hs1, hjk, show i < ops.length from by omega]
              · rw [getD_set_ne false e, getD_set_ne false e, hj j hjk]
            · rw [getD_set_ne false (by omega), hj2 j hkj]
            · by_cases e : i = j
              · subst e
                rw [ho] at ho2; cases ho2
                have ho3 : ops[i]? = some o' := by simpa using ho'
                rw [ho] at ho3; cases ho3
                exact getD_set_true (hdp e2 (by simpa using he2) (by rw [bindsA_eq]; exact hb2))
              · rw [getD_set_ne false e] at hjl
                exact getD_set_true (hc j o2 hjl ho2 e2 he2 hb2)
          have hwant : ∀ tmps, Region.wanted o (yielded (ops.take k).toArray tmps) = Region.wanted o (yielded ops.toArray tmps) := fun tmps => by
            unfold Region.wanted
            cases hg : o.guard with
            | none => rfl
            | some g =>
              obtain ⟨j, want⟩ := g
              have hjk := tl.grd i o j want hik ho hg
              have : yielded (ops.take k).toArray tmps j = yielded ops.toArray tmps j := by
                unfold yielded
                have e := at1 j hjk
                have e2 : (ops.take k).toArray[j]? = ops.toArray[j]? := by simpa using e
                rw [e2]
              simp only [this]
          unfold wpOp at h1 ⊢
          rw [show (ops.take k).toArray[i]? = some o from by have := at1 i hik; simpa [this] using ho] at h1
          rw [show ops.toArray[i]? = some o from by simpa using ho]
          simp only at h1 ⊢
          rw [hwant] at h1
          split
          · rename_i hw
            rw [if_pos hw] at h1
            refine h1.imp (wp_monoQ next hQ) fun ⟨q1, q2⟩ => ⟨q1, ?_⟩
            obtain ⟨a0, w0, q2⟩ := q2
            exact ⟨a0, w0, hQ _ _ _ (by simp) q2⟩
          · rename_i hw
            rw [if_neg hw] at h1
            exact next _ _ h1
end
end Go.Proofs.Ytinckcpmkocakaa.AM
