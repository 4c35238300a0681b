/-
 The abstract machine, part 21m: what stands behind all others of a region whose order is open, is done one behind the other.
-/
import Derived.Test.YthioccbgjkbmdaaGreatM10c9871752
set_option linter.unusedVariables false
set_option linter.unusedSimpArgs false
set_option linter.unusedSectionVars false
namespace Go.Proofs.YthioccbgjkbmdaaGreat.AM
open Go Go.RowKit
section
variable {P : Program}
theorem wp_monoQ {o : Oper} {a : Act} {w : World} {K K' : Act → World → Prop} {Q Q' : Exit → Act → World → Prop} (h : ∀ a w, K a w → K' a w) (hQ : ∀ e a w, e ≠ .normal → Q e a w → Q' e a w) (hh : o.wp P a w K Q) : o.wp P a w K' Q' := by
 have hL : LetsOut Q → LetsOut Q' := fun ⟨a, w, q⟩ => ⟨a, w, hQ _ _ _ (by simp) q⟩
 unfold Oper.wp at *
 generalize (execOp a.eval o).run P w = r at *
 cases r with
 | ok n w' =>
  cases n <;> simp only [Oper.upon] at hh ⊢ <;>
   first
    | exact h _ _ hh
    | exact Calls.mono hh (fun e w'' he => by cases e <;> first | exact h _ _ he | exact hQ _ _ _ (by simp) he | exact hL he)
    | exact Rows.mono hh (fun _ _ he => h _ _ he)
 | halt x w' => cases x <;> simp only [Oper.upon] at hh ⊢ <;> first | exact hQ _ _ _ (by simp) hh | exact hh
structure Tails (ops : List Oper) (anc : List (Nat × Nat)) (k : Nat) : Prop where
 ok : AncOk ops anc
 dep : ∀ i o, k ≤ i → ops[i]? = some o → ∀ e ∈ o.after.toList, bindsA e = true → e.on < i
 dep0 : ∀ i o, i < k → ops[i]? = some o → ∀ e ∈ o.after.toList, bindsA e = true → e.on < k
 all : ∀ i j, k ≤ i → i < ops.length → j < i → Nat.testBit (getA anc i) j = true
 grd : ∀ i o j want, i < k → ops[i]? = some o → o.guard = some (j, want) → j < k
def Closed (ops : List Oper) (listed : Array Bool) : Prop := ∀ i o, listed.getD i false = true → ops[i]? = some o → ∀ e ∈ o.after.toList, bindsA e = true → listed.getD e.on false = true
theorem closed_anc {ops : List Oper} {anc : List (Nat × Nat)} (ha : AncOk ops anc) {listed : Array Bool} (hc : Closed ops listed) : ∀ i j, listed.getD i false = true → Nat.testBit (getA anc i) j = true → listed.getD j false = true := by
 intro i
 induction i using Nat.strongRecOn with
 | _ i ih =>
  intro j hi hj
  obtain ⟨o, ho, e, h1, h2, h3⟩ := ha i j hj
  have h4 := hc i o hi ho e h1 h2
  rcases h3 with h3 | ⟨h3, h5⟩
  ·rw [← h3]; exact h4
  ·exact ih e.on h3 j h4 h5
theorem not_ready {ops : List Oper} {anc : List (Nat × Nat)} (ha : AncOk ops anc) {listed : Array Bool} (hc : Closed ops listed) {i j : Nat} (hj : Nat.testBit (getA anc i) j = true) (hl : listed.getD j false = false) : i ∉ Region.ready .any ops.toArray listed := by
 intro h
 obtain ⟨_, o, ho, hd⟩ := mem_ready.1 h
 have ho : ops[i]? = some o := by simpa using ho
 obtain ⟨o', ho', e, h1, h2, h3⟩ := ha i j hj
 rw [ho] at ho'; cases ho'
 have h4 := hd e (by simpa using h1) (by rw [bindsA_eq]; exact h2)
 have : listed.getD j false = true := by
  rcases h3 with h3 | ⟨_, h5⟩
  ·rw [← h3]; exact h4
  ·exact closed_anc ha hc _ _ h4 h5
 rw [hl] at this; cases this
theorem any_suffix {ops : List Oper} {anc : List (Nat × Nat)} {k : Nat} (tl : Tails ops anc k) {Q : Exit → Act → World → Prop} : ∀ (m i fuel : Nat) (listed : Array Bool) (a : Act) (w : World), k ≤ i → i + m = ops.length → listed.size = ops.length → (∀ j, j < ops.length → (listed.getD j false = true ↔ j < i)) → m ≤ fuel →
  wpList P ops.toArray Q (ops.drop i) a w → wpAny P .any ops.toArray Q fuel listed a w
 | m, i, fuel, listed, a, w, hk, hm, hs, hl, hf, h => by
  have bit : ∀ j, j < ops.length → listed.getD j true = listed.getD j false := fun j h => by rw [getD_lt (by omega), getD_lt (by omega)]
  have out : ∀ j, ¬ j < ops.length → listed.getD j false = false := fun j h => by simp [Array.getD_eq_getD_getElem?, show listed[j]? = none from Array.getElem?_eq_none (by omega)]
  have hlt : ∀ j, listed.getD j false = true → j < i := fun j hj => by
   by_cases q : j < ops.length
   ·exact (hl j q).1 hj
   ·rw [out j q] at hj; cases hj
  match m with
  | 0 =>
   have hr : Region.ready .any ops.toArray listed = [] := by
    cases q : Region.ready .any ops.toArray listed with
    | nil => rfl
    | cons j r =>
     obtain ⟨h1, o, h2, _⟩ := mem_ready.1 (q ▸ List.mem_cons_self : j ∈ Region.ready .any ops.toArray listed)
     have h3 : j < ops.length := by have := (Array.getElem?_eq_some_iff.1 h2).1; simpa using this
     rw [bit j h3, (hl j h3).2 (by omega)] at h1; cases h1
   have hd : ops.drop i = [] := List.drop_of_length_le (by omega)
   rw [hd] at h
   cases fuel with
   | zero => exact ⟨hr, h⟩
   | succ f => exact ⟨fun _ => h, fun j hj => by rw [hr] at hj; cases hj⟩
  | m + 1 =>
   have hi : i < ops.length := by omega
   obtain ⟨f, rfl⟩ : ∃ f, fuel = f + 1 := ⟨fuel - 1, by omega⟩
   have hc : Closed ops listed := by
    intro j o hj ho e he hb
    have hji := hlt j hj
    by_cases q : k ≤ j
    ·have := tl.dep j o q ho e he hb
     exact (hl _ (by omega)).2 (by omega)
    ·have := tl.dep0 j o (by omega) ho e he hb
     exact (hl _ (by omega)).2 (by omega)
   obtain ⟨o, ho⟩ : ∃ o, ops[i]? = some o := ⟨_, List.getElem?_eq_getElem hi⟩
   have hin : i ∈ Region.ready .any ops.toArray listed := mem_ready.2 ⟨by
    rw [bit i hi]
    cases q : listed.getD i false with
    | false => rfl
    | true => have := (hl i hi).1 q; omega, o, by simpa using ho, fun e he hb => (hl _ (by have := tl.dep i o hk ho e (by simpa using he) (by rw [← bindsA_eq]; exact hb); omega)).2 (tl.dep i o hk ho e (by simpa using he) (by rw [← bindsA_eq]; exact hb))⟩
   have only : ∀ j ∈ Region.ready .any ops.toArray listed, j = i := by
    intro j hj
    obtain ⟨h1, o', h2, _⟩ := mem_ready.1 hj
    have h3 : j < ops.length := by have := (Array.getElem?_eq_some_iff.1 h2).1; simpa using this
    rcases Nat.lt_trichotomy j i with q | q | q
    ·rw [bit j h3, (hl j h3).2 q] at h1; cases h1
    ·exact q
    ·exact absurd hj (not_ready tl.ok hc (tl.all j i (by omega) h3 q) (by
      cases q2 : listed.getD i false with
      | false => rfl
      | true => have := (hl i hi).1 q2; omega))
   refine ⟨fun hr => by rw [hr] at hin; (cases hin), fun j hj => ?_⟩
   obtain rfl := only j hj
   have hd : ops.drop j = o :: ops.drop (j + 1) := by
    rw [List.drop_eq_getElem_cons hi]
    rw [List.getElem?_eq_getElem hi] at ho
    cases ho; rfl
   rw [hd] at h
   unfold wpList at h
   have next : ∀ a' w', wpList P ops.toArray Q (ops.drop (j + 1)) a' w' → wpAny P .any ops.toArray Q f (listed.setIfInBounds j true) a' w' := fun a' w' q =>
    any_suffix tl m (j + 1) f _ a' w' (by omega) (by omega) (by simpa using hs) (fun x hx => by
     by_cases e : j = x
     ·subst e; simp [Array.getD_eq_getD_getElem?, hs, hx]
     ·rw [getD_set_ne false e, hl x hx]; omega) (by omega) q
   unfold wpOp
   rw [show ops.toArray[j]? = some o from by simpa using ho]
   simp only
   split
   ·rename_i hw
    rw [if_pos hw] at h
    exact h.imp (Oper.wp_mono next) id
   ·rename_i hw
    rw [if_neg hw] at h
    exact next _ _ h
theorem any_prefix {ops : List Oper} {anc : List (Nat × Nat)} {k : Nat} (tl : Tails ops anc k) (hk : k ≤ ops.length) (hfr : ∀ J : Nat → Bool, (∀ i, i < k → J i = true) ∨ ∃ i o, i < k ∧ J i = false ∧ ops[i]? = some o ∧ ∀ e ∈ o.after.toList, bindsA e = true → J e.on = true) {Q Qm : Exit → Act → World → Prop} (hQ : ∀ e a w, e ≠ .normal → Qm e a w → Q e a w) (hn : ∀ a w, Qm .normal a w → wpList P ops.toArray Q (ops.drop k) a w) : ∀ (fuel : Nat) (listed l1 : Array Bool) (a : Act) (w : World), listed.size = ops.length → l1.size = k → (∀ j, j < k → listed.getD j false = l1.getD j false) → (∀ j, k ≤ j → listed.getD j false = false) → Closed ops listed →
  wpAny P .any (ops.take k).toArray Qm fuel l1 a w → wpAny P .any ops.toArray Q (fuel + (ops.length - k)) listed a w
 | fuel, listed, l1, a, w, hs, hs1, hj, hj2, hc, h => by
  have bit : ∀ j, j < ops.length → listed.getD j true = listed.getD j false := fun j h => by rw [getD_lt (by omega), getD_lt (by omega)]
  have bit1 : ∀ j, j < k → l1.getD j true = l1.getD j false := fun j h => by rw [getD_lt (by omega), getD_lt (by omega)]
  have at1 : ∀ j, j < k → (ops.take k)[j]? = ops[j]? := fun j hj => by simp [List.getElem?_take, hj]
  have rd : ∀ j, j < k → (j ∈ Region.ready .any ops.toArray listed ↔ j ∈ Region.ready .any (ops.take k).toArray l1) := by
   intro j hjk
   rw [mem_ready, mem_ready, bit j (by omega), bit1 j hjk, hj j hjk]
   refine and_congr Iff.rfl ⟨fun ⟨o, ho, hd⟩ => ⟨o, ?_, fun e he hb => ?_⟩, fun ⟨o, ho, hd⟩ => ⟨o, ?_, fun e he hb => ?_⟩⟩
   ·have := at1 j hjk; simpa [this] using ho
   ·rw [← hj _ (tl.dep0 j o hjk (by simpa using ho) e (by simpa using he) (by rw [← bindsA_eq]; exact hb))]; exact hd e he hb
   ·have := at1 j hjk; simpa [this] using ho
   ·have ho' : ops[j]? = some o := by have := at1 j hjk; simpa [this] using ho
    rw [hj _ (tl.dep0 j o hjk ho' e (by simpa using he) (by rw [← bindsA_eq]; exact hb))]; exact hd e he hb
  have all1 : (∀ j, j < k → listed.getD j false = true) → Region.ready .any (ops.take k).toArray l1 = [] := fun q => by
   cases q2 : Region.ready .any (ops.take k).toArray l1 with
   | nil => rfl
   | cons j r =>
    obtain ⟨h1, o, h2, _⟩ := mem_ready.1 (q2 ▸ List.mem_cons_self : j ∈ Region.ready .any (ops.take k).toArray l1)
    have h3 : j < k := by have := (Array.getElem?_eq_some_iff.1 h2).1; simp at this; omega
    rw [bit1 j h3, ← hj j h3, q j h3] at h1; cases h1
  have fin : (∀ j, j < k → listed.getD j false = true) → Qm .normal a w → wpAny P .any ops.toArray Q (fuel + (ops.length - k)) listed a w := fun q h0 =>
   any_suffix tl (ops.length - k) k _ listed a w (Nat.le_refl _) (by omega) hs (fun j hjl => by
    by_cases e : j < k
    ·simp [q j e, e]
    ·rw [hj2 j (by omega)]; simp [e]) (by omega) (hn _ _ h0)
  have late : ∀ j0, j0 < k → listed.getD j0 false = false → ∀ j, k ≤ j → j ∉ Region.ready .any ops.toArray listed := fun j0 h0 h1 j hkj hjr => by
   obtain ⟨_, o, h2, _⟩ := mem_ready.1 hjr
   have h3 : j < ops.length := by have := (Array.getElem?_eq_some_iff.1 h2).1; simpa using this
   exact not_ready tl.ok hc (tl.all j j0 hkj h3 (by omega)) h1 hjr
  by_cases hall : ∀ j, j < k → listed.getD j false = true
  ·refine fin hall ?_
   cases fuel with
   | zero => exact h.2
   | succ f => exact h.1 (all1 hall)
  ·obtain ⟨j0, hj0⟩ := Classical.not_forall.1 hall
   obtain ⟨hj0k, hj0l⟩ := Classical.not_imp.1 hj0
   have hj0l : listed.getD j0 false = false := by simpa using hj0l
   have same : ∀ j, j ∈ Region.ready .any ops.toArray listed → j < k := fun j hjr => Nat.lt_of_not_le fun q => late j0 hj0k hj0l j q hjr
   have some1 : Region.ready .any (ops.take k).toArray l1 ≠ [] := fun hr => by
    rcases hfr (fun j => l1.getD j false) with q | ⟨i, o, hik, hl, ho, hd⟩
    ·have := q j0 hj0k; rw [← hj j0 hj0k, hj0l] at this; cases this
    ·have : i ∈ Region.ready .any (ops.take k).toArray l1 := mem_ready.2 ⟨by rw [bit1 i hik]; exact hl, o, by have := at1 i hik; simpa [this] using ho, fun e he hb => hd e (by simpa using he) (by rw [← bindsA_eq]; exact hb)⟩
     rw [hr] at this; cases this
   cases fuel with
   | zero => exact absurd h.1 some1
   | succ f =>
    rw [show f + 1 + (ops.length - k) = (f + (ops.length - k)) + 1 from by omega]
    refine ⟨fun hr => ?_, fun i hri => ?_⟩
    ·cases q2 : Region.ready .any (ops.take k).toArray l1 with
     | nil => exact absurd q2 some1
     | cons j r =>
      have hjr : j ∈ Region.ready .any (ops.take k).toArray l1 := q2 ▸ List.mem_cons_self
      have h3 : j < k := by
       obtain ⟨_, o, h2, _⟩ := mem_ready.1 hjr
       have := (Array.getElem?_eq_some_iff.1 h2).1; simp at this; omega
      have := (rd j h3).2 hjr
      rw [hr] at this; cases this
    ·have hik := same i hri
     have h1 := h.2 i ((rd i hik).1 hri)
     obtain ⟨o, ho⟩ : ∃ o, ops[i]? = some o := ⟨_, List.getElem?_eq_getElem (by omega)⟩
     obtain ⟨hnl, o', ho', hdp⟩ := mem_ready.1 hri
     have next : ∀ a' w', wpAny P .any (ops.take k).toArray Qm f (l1.setIfInBounds i true) a' w' → wpAny P .any ops.toArray Q (f + (ops.length - k)) (listed.setIfInBounds i true) a' w' := fun a' w' q => by
      refine any_prefix tl hk hfr hQ hn f _ _ a' w' (by simpa using hs) (by simpa using hs1) (fun j hjk => ?_) (fun j hkj => ?_) (fun j o2 hjl ho2 e2 he2 hb2 => ?_) q
      ·by_cases e : i = j
       ·subst e; simp [Array.getD_eq_getD_getElem?, hs, hs1, hjk, show i < ops.length from by omega]
       ·rw [getD_set_ne false e, getD_set_ne false e, hj j hjk]
      ·rw [getD_set_ne false (by omega), hj2 j hkj]
      ·by_cases e : i = j
       ·subst e
        rw [ho] at ho2; cases ho2
        have ho3 : ops[i]? = some o' := by simpa using ho'
        rw [ho] at ho3; cases ho3
        exact getD_set_true (hdp e2 (by simpa using he2) (by rw [bindsA_eq]; exact hb2))
       ·rw [getD_set_ne false e] at hjl
        exact getD_set_true (hc j o2 hjl ho2 e2 he2 hb2)
     have hwant : ∀ tmps, Region.wanted o (yielded (ops.take k).toArray tmps) = Region.wanted o (yielded ops.toArray tmps) := fun tmps => by
      unfold Region.wanted
      cases hg : o.guard with
      | none => rfl
      | some g =>
       obtain ⟨j, want⟩ := g
       have hjk := tl.grd i o j want hik ho hg
       have : yielded (ops.take k).toArray tmps j = yielded ops.toArray tmps j := by
        unfold yielded
        have e := at1 j hjk
        have e2 : (ops.take k).toArray[j]? = ops.toArray[j]? := by simpa using e
        rw [e2]
       simp only [this]
     unfold wpOp at h1 ⊢
     rw [show (ops.take k).toArray[i]? = some o from by have := at1 i hik; simpa [this] using ho] at h1
     rw [show ops.toArray[i]? = some o from by simpa using ho]
     simp only at h1 ⊢
     rw [hwant] at h1
     split
     ·rename_i hw
      rw [if_pos hw] at h1
      refine h1.imp (wp_monoQ next hQ) fun ⟨q1, q2⟩ => ⟨q1, ?_⟩
      obtain ⟨a0, w0, q2⟩ := q2
      exact ⟨a0, w0, hQ _ _ _ (by simp) q2⟩
     ·rename_i hw
      rw [if_neg hw] at h1
      exact next _ _ h1
end
open Go Go.RowKit
theorem Conc.refine {G : Gh} {E : Env} {ok : Oks} {S : St} {a : Act} {w : World} (c : Conc G E ok S a w) {t : Nat} {d : D} (r : RepD E ok w d (a.tmps.getD t undef)) : Conc G E ok (S.put (some t) d) a w := by
 refine { c with n := by rw [put_n]; exact c.n, slot := fun t' => ?_, obj := by rw [put_ob]; exact c.obj, apart := by rw [put_ob]; exact c.apart, reg := by rw [put_ob]; exact c.reg, hp := by rw [put_ob]; exact c.hp }
 rw [get_put]
 split
 ·rename_i h; obtain ⟨h, _⟩ := h; cases h; exact r
 ·exact c.slot t'
theorem After.mono {G : Gh} {K K' : St → Prop} {a : Act} {w : World} (h : ∀ S, K S → K' S) (x : After G K a w) : After G K' a w := by
 obtain ⟨E, ok, S, k, c⟩ := x; exact ⟨E, ok, S, h _ k, c⟩
theorem inv_lit {E : Env} {ok : Oks} {w : World} {b : Bool} {u : Value} (h : RepD E ok w (.lit b) u) : u = .bool b := by cases h; rfl
theorem inv_bool {E : Env} {ok : Oks} {w : World} {b : Bool} {u : Value} (h : RepD E ok w (.v (.bool b)) u) : u = .bool b := by cases h; rename_i q; cases q; rfl
def AftX (G : Gh) (Q : AExit → St → Prop) : Exit → Act → World → Prop
 | .normal, a, w => After G (Q .normal) a w
 | .exit id, a, w => After G (Q (.exit id)) a w
 | .ret, a, w => After G (Q .ret) a w
 | _, _, _ => False
theorem AftX.mono {G : Gh} {Q Q' : AExit → St → Prop} (h : ∀ e S, Q e S → Q' e S) {e : Exit} {a : Act} {w : World} (x : AftX G Q e a w) : AftX G Q' e a w := by
 cases e <;> simp only [AftX] at x ⊢ <;> first | exact x.mono (h _) | exact x
section
variable {P : Program} {R : List (Nat × AObj) → List D → Prop} (hT : tableOf P = T)
include hT
theorem w_ops {G : Gh} {E : Env} {ok : Oks} {S : St} {a : Act} {w : World} (c : Conc G E ok S a w) {o : Oper} {K : St → Prop} (h : wWp (std P R) o S K) (Q : Exit → Act → World → Prop) : o.wp P a w (fun a' w' => After G K a' w') Q := by
 unfold wWp at h
 split at h
 ·obtain ⟨S', hw, h'⟩ := h
  obtain ⟨E', ok', c'⟩ := hw G E ok a w c
  exact h_sound hT c' h' Q
 ·exact h_sound hT c h Q
theorem ops_sound {G : Gh} (ops : List Oper) {K : St → Prop} {Q : Exit → Act → World → Prop} (hQ : ∀ a w, After G K a w → Q .normal a w) : ∀ (l : List Oper) {E : Env} {ok : Oks} {S : St} {a : Act} {w : World}, Conc G E ok S a w → opsWp (std P R) ops l S K → wpList P ops.toArray Q l a w
 | [], E, ok, S, a, w, c, h => hQ _ _ ⟨E, ok, S, h, c⟩
 | o :: r, E, ok, S, a, w, c, h => by
  have run : ∀ {E ok S}, Conc G E ok S a w → wWp (std P R) o S (fun S => opsWp (std P R) ops r S K) → o.wp P a w (wpList P ops.toArray Q r) Q := fun c h =>
   Oper.wp_mono (fun a' w' ⟨E', ok', S', h', c'⟩ => ops_sound ops hQ r c' h') (w_ops hT c h Q)
  have skip : ∀ {E ok S}, Conc G E ok S a w → opsWp (std P R) ops r (S.put o.dst (.v (.tup []))) K → wpList P ops.toArray Q r (a.put o.dst undef) w := fun {E ok S} c h =>
   ops_sound ops hQ r (c.put o.dst (.v _ _ (Rep.tup (ok := ok) (w := w) [] [] rfl (by simp)))) h
  unfold opsWp at h
  unfold gWp at h
  unfold wpList
  split at h
  ·rename_i hg
   rw [if_pos (by simp [Region.wanted, hg])]
   exact .inl (run c h)
  ·rename_i j want hg
   have hw : ∀ v, yielded ops.toArray a.tmps j = v → Region.wanted o (yielded ops.toArray a.tmps) = (v == some want) := fun v hv => by simp [Region.wanted, hg, hv]
   split at h
   ·rename_i p hp
    split at h
    ·rename_i t ht
     obtain ⟨y1, y2⟩ := yielded_of (tmps := a.tmps) hp ht
     have hs := c.slot t
     split at h
     ·rename_i b hb
      rw [hb] at hs
      have hv : a.tmps.getD t undef = .bool b := inv_lit hs
      rw [hw _ (y1 _ hv)]
      split at h
      ·rename_i e
       rw [if_pos (by simpa using e)]
       exact .inl (run c h)
      ·rename_i e
       rw [if_neg (by simpa using e)]
       exact skip c h
     ·rename_i b hb
      rw [hb] at hs
      have hv : a.tmps.getD t undef = .bool b := inv_bool hs
      have h := h b rfl
      simp only at h
      have c' : Conc G E ok (S.put (some t) (.lit b)) a w := c.refine (by rw [hv]; exact .lit b)
      rw [hw _ (y1 _ hv)]
      split at h
      ·rename_i e
       rw [if_pos (by simpa using e)]
       exact .inl (run c' h)
      ·rename_i e
       rw [if_neg (by simpa using e)]
       exact skip c' h
     ·rename_i hb
      rw [hb] at hs
      have hv : ∀ b, a.tmps.getD t undef ≠ .bool b := by
       intro b hv
       rw [hv] at hs
       cases hs; rename_i q; cases q
      rw [hw _ (y2 hv)]
      exact skip c h
     ·exact h.elim
    ·exact h.elim
   ·exact h.elim
omit hT in
theorem Conc.drawn {G : Gh} {E : Env} {ok : Oks} {S : St} {a : Act} {w : World} (c : Conc G E ok S a w) (n : Nat) : Conc G E ok S a { w with drawn := n } :=
 c.step { same := ⟨fun _ _ h => h, fun _ _ _ => rfl, .refl _⟩, env := .refl _, blocks := fun _ _ _ _ _ => ⟨rfl, fun _ h => h⟩, okb := c.okb, newk := fun _ _ h => .inl h, os := rfl, tape := rfl, output := rfl, size := Nat.le_refl _, old := fun _ _ _ => rfl }
omit hT in
theorem trOk_len {ops : List Oper} {anc : List (Nat × Nat)} : ∀ (W : Wat) (π : List Nat) (S : St) (es : List Eff), TrOk P R ops anc W π S es → es.length = π.length
 | _, [], S, [], _ => rfl
 | _, i :: r, S, e :: es, h => by obtain ⟨W', _, _, h2⟩ := h; simp [trOk_len W' r _ es h2]
 | _, [], S, _ :: _, h => h.elim
 | _, _ :: _, S, [], h => h.elim
theorem condW_sound {G : Gh} {E : Env} {ok : Oks} {S : St} {a : Act} {w : World} (c : Conc G E ok S a w) {x : Operand} {K : Bool → Prop} (h : condW (std P R) (S.ev x) K) : ∃ t, a.eval x = .bool t ∧ K t := by
 have hx := ev_rep c x
 unfold condW at h
 split at h
 ·rename_i hb
  rw [hb] at hx
  cases e : a.eval x <;> rw [e] at hx <;> cases hx
  rename_i b
  exact ⟨b, rfl, by cases b; exact h.2; exact h.1⟩
 ·rename_i b hb
  rw [hb] at hx
  exact ⟨b, inv_lit hx, h⟩
 ·rename_i b hb
  rw [hb] at hx
  exact ⟨b, inv_bool hx, h b rfl⟩
 ·exact h.elim
theorem draw_sound {G : Gh} {ops : List Oper} (hck : drawOk ops = true) {K : St → Prop} {Qx : Exit → Act → World → Prop} {E : Env} {ok : Oks} {S : St} {a : Act} {w : World} (c : Conc G E ok S a w) (h : dWp (std P R) ops (ancGo 0 [] ops) [] (orderOf ops) (S.soft (preIds ops S ops)) K) (hQ : ∀ a w, After G K a w → Qx .normal a w) : wpAny P .any ops.toArray Qx ops.length (Array.replicate ops.length false) a w := by
 obtain ⟨ok', c'⟩ := c.softOb (preIds ops S ops)
 obtain ⟨es, tr, hK⟩ := d_trace hT ops _ _ _ _ _ h
 have hin : Inv G ((orderOf ops).zip es) (S.soft (preIds ops S ops)) (fun i => (Array.replicate ops.length false).getD i false) a w := by
  refine ⟨E, ok', S.soft (preIds ops S ops), ?_, ?_⟩
  ·rw [sel_none]
   ·exact Eqv.refl _
   ·intro p _
    simp [Array.getD_eq_getD_getElem?, Array.getElem?_replicate]
    split <;> rfl
  ·exact c'
 refine any_sound hT (plan_of hck) tr (Q := Qx) (fun a' w' J hJ hi => ?_) ops.length (Array.replicate ops.length false) a w (by simp) (fun i o hi => ?_) ?_ hin
 ·obtain ⟨E', ok2, S', he, c2⟩ := hi
  have e1 : sel J ((orderOf ops).zip es) (S.soft (preIds ops S ops)) = foldE es (S.soft (preIds ops S ops)) := by
   rw [← sel_true _ es _ (trOk_len _ _ _ _ tr)]
   exact sel_congr _ _ fun p hp => hJ _ (List.of_mem_zip hp).1
  exact hQ _ _ ⟨E', ok2, _, hK, c2.eqv (e1 ▸ he)⟩
 ·exfalso
  have : (Array.replicate ops.length false).getD i false = false := by
   simp [Array.getD_eq_getD_getElem?, Array.getElem?_replicate]
   split <;> rfl
  rw [this] at hi; cases hi
 ·unfold left
  exact Nat.le_trans (List.length_filter_le _ _) (by simp)
omit hT in
theorem beq_land {a m y : Nat} (h : ((a &&& m) == y) = true) : Nat.beq (Nat.land a m) y = true := by
 have e : Nat.land a m = y := eq_of_beq h
 rw [e]; exact Nat.beq_refl y
omit hT in
theorem land_sub {a m j : Nat} (h : Nat.beq (Nat.land a m) m = true) (hj : Nat.testBit m j = true) : Nat.testBit a j = true := by
 have h1 : Nat.land a m = m := Nat.eq_of_beq_eq_true h
 rw [← h1] at hj
 have h2 : Nat.testBit (a &&& m) j = true := hj
 rw [Nat.testBit_and, Bool.and_eq_true] at h2
 exact h2.1
omit hT in
theorem land_sub2 {a m j : Nat} (h : Nat.beq (Nat.land a m) a = true) (hj : Nat.testBit a j = true) : Nat.testBit m j = true := by
 have h1 : Nat.land a m = a := Nat.eq_of_beq_eq_true h
 rw [← h1] at hj
 have h2 : Nat.testBit (a &&& m) j = true := hj
 rw [Nat.testBit_and, Bool.and_eq_true] at h2
 exact h2.2
omit hT in
theorem bit_low (i j : Nat) : Nat.testBit (bset i - 1) j = decide (j < i) := by
 unfold bset
 show Nat.testBit (1 <<< i - 1) j = _
 rw [Nat.one_shiftLeft, Nat.testBit_two_pow_sub_one]
omit hT in
theorem stripGo_spec (ops : List Oper) (anc : List (Nat × Nat)) : ∀ (l : List Oper) (i : Nat), i = l.length → (∀ j, j < i → l[j]? = ops[i - 1 - j]?) → stripGo anc i l ≤ i ∧ ∀ j o, stripGo anc i l ≤ j → j < i → ops[j]? = some o → (∀ e ∈ o.after.toList, bindsA e = true → e.on < j) ∧ ∀ x, x < j → Nat.testBit (getA anc j) x = true
 | [], i, hi, hl => by subst hi; exact ⟨by simp [stripGo], fun j o _ h => absurd h (by simp)⟩
 | o :: r, i, hi, hl => by
  obtain ⟨i, rfl⟩ : ∃ k, i = k + 1 := ⟨r.length, hi⟩
  unfold stripGo
  split
  ·rename_i hb
   rw [Bool.and_eq_true] at hb
   obtain ⟨h1, h2⟩ := stripGo_spec ops anc r i (by simpa using hi) (fun j hj => by have := hl (j + 1) (by omega); rw [show i + 1 - 1 - (j + 1) = i - 1 - j from by omega] at this; simpa using this)
   refine ⟨by omega, fun j o' hj hji ho => ?_⟩
   by_cases e : j = i
   ·subst e
    have h0 := hl 0 (by omega)
    rw [show j + 1 - 1 - 0 = j from by omega, ho] at h0
    simp at h0; subst h0
    refine ⟨fun e he hbe => ?_, fun x hx => land_sub (beq_land hb.1) (by rw [bit_low]; exact decide_eq_true hx)⟩
    have := land_sub2 (beq_land hb.2) (depSet_mem.2 ⟨e, he, hbe, rfl⟩)
    rw [bit_low] at this
    exact of_decide_eq_true this
   ·exact h2 j o' hj (by omega) ho
  ·exact ⟨Nat.le_refl _, fun j o' h1 h2 => absurd h2 (by omega)⟩
theorem drawS_sound {G : Gh} {ops : List Oper} {Q : AExit → St → Prop} {E : Env} {ok : Oks} {S : St} {a : Act} {w : World} (c : Conc G E ok S a w) (h : drawS (std P R) ops (stripAt ops) S (Q .normal)) : wpAny P .any ops.toArray (AftX G Q) ops.length (Array.replicate ops.length false) a w := by
 obtain ⟨hck, h⟩ := h
 unfold stripOk at hck
 simp only [Bool.and_eq_true] at hck
 obtain ⟨hd, hp⟩ := hck
 obtain ⟨hk, hs⟩ := stripGo_spec ops (ancGo 0 [] ops) ops.reverse ops.length (by simp) (fun j hj => by rw [List.getElem?_reverse hj])
 change stripAt ops ≤ ops.length at hk
 change ∀ j o, stripAt ops ≤ j → _ at hs
 generalize stripAt ops = k at *
 have hpre : ∀ i o, i < k → ops[i]? = some o → (∀ e ∈ o.after.toList, bindsA e = true → e.on < k) ∧ ∀ j want, o.guard = some (j, want) → j < k := by
  intro i o hi ho
  have hm : o ∈ ops.take k := List.mem_of_getElem? (i := i) (by rw [List.getElem?_take, if_pos hi]; exact ho)
  have h1 := List.all_eq_true.1 hp o hm
  rw [Bool.and_eq_true] at h1
  refine ⟨fun e he hb => ?_, fun j want hg => ?_⟩
  ·have := land_sub2 h1.1 (depSet_mem.2 ⟨e, he, hb, rfl⟩)
   rw [bit_low] at this
   exact of_decide_eq_true this
  ·have h2 := h1.2
   rw [hg] at h2
   exact Nat.le_of_ble_eq_true h2
 have tl : Tails ops (ancGo 0 [] ops) k := ⟨ancGo_ok ops ops 0 [] (by simp) (fun _ _ => rfl) (fun i j h => by simp [getA] at h), fun i o h1 h2 => (hs i o h1 (List.getElem?_eq_some_iff.1 h2).1 h2).1, fun i o h1 h2 => (hpre i o h1 h2).1,
  fun i j h1 h2 h3 => (hs i _ h1 h2 (List.getElem?_eq_getElem h2)).2 j h3, fun i o j want h1 h2 h3 => (hpre i o h1 h2).2 j want h3⟩
 have hlen : (ops.take k).length = k := by rw [List.length_take]; omega
 have hfr : ∀ J : Nat → Bool, (∀ i, i < k → J i = true) ∨ ∃ i o, i < k ∧ J i = false ∧ ops[i]? = some o ∧ ∀ e ∈ o.after.toList, bindsA e = true → J e.on = true := fun J => by
  have p := plan_of hd
  rcases first_ready p (J := J) [] (orderOf (ops.take k)) rfl (by simp) with q | ⟨x, i, y, o, e, h1, h2, h3⟩
  ·exact .inl fun i hi => q i (p.all i (by omega))
  ·have hik : i < k := by have := (List.getElem?_eq_some_iff.1 h2).1; omega
   rw [List.getElem?_take, if_pos hik] at h2
   exact .inr ⟨i, o, hik, h1, h2, h3⟩
 have h0 := draw_sound hT hd (Qx := fun e a w => match e with
  | .normal => After G (fun S' => opsWp (std P R) ops (ops.drop k) S' (Q .normal)) a w
  | e => AftX G Q e a w) c h (fun a w q => q)
 rw [hlen] at h0
 have h1 := any_prefix tl hk hfr (Q := AftX G Q) (fun e a w hne q => by cases e <;> first | exact absurd rfl hne | exact q) (fun a w ⟨E', ok', S', q, c'⟩ => ops_sound hT ops (fun a w q => q) _ c' q) k (Array.replicate ops.length false) (Array.replicate k false) a w (by simp) (by simp)
  (fun j hj => by simp [Array.getD_eq_getD_getElem?, hj, show j < ops.length from by omega]) (fun j hj => by simp [Array.getD_eq_getD_getElem?, Array.getElem?_replicate]; split <;> rfl) (fun i o hi => by
   have : (Array.replicate ops.length false).getD i false = false := by
    simp [Array.getD_eq_getD_getElem?, Array.getElem?_replicate]
    split <;> rfl
   rw [this] at hi; cases hi) h0
 rwa [show k + (ops.length - k) = ops.length from by omega] at h1
theorem w_sound (hM : P.follows .mixedOrders = true) {G : Gh} : ∀ (cd : Code) (Q : AExit → St → Prop) {E : Env} {ok : Oks} {S : St} {a : Act} {w : World}, Conc G E ok S a w → ewp (std P R) cd Q S → cd.wp P (AftX G Q) a w
 | .skip, Q, E, ok, S, a, w, c, h => wp_skip ⟨E, ok, S, h, c⟩
 | .seq x y, Q, E, ok, S, a, w, c, h => by
  refine wp_seq (wp_mono (w_sound hM x _ c h) fun e a' w' q => ?_)
  cases e with
  | normal => obtain ⟨E', ok', S', h', c'⟩ := q; exact w_sound hM y Q c' h'
  | exit id => obtain ⟨E', ok', S', h', c'⟩ := q; exact ⟨E', ok', S', h', c'⟩
  | ret => obtain ⟨E', ok', S', h', c'⟩ := q; exact ⟨E', ok', S', h', c'⟩
  | goto l => exact q
  | panic ch => exact q
  | outgrown => exact q
 | .region id ops false, Q, E, ok, S, a, w, c, h => by
  refine wp_region_list ?_
  have := ops_sound hT (G := G) ops.toList (K := Q .normal) (Q := AftX G Q) (fun a w h => h) ops.toList c h
  simpa using this
 | .cond x t e, Q, E, ok, S, a, w, c, h => by
  obtain ⟨b, hb, h⟩ := condW_sound hT c h
  refine wp_cond hb ?_
  cases b with
  | true => exact w_sound hM t Q c h
  | false => exact w_sound hM e Q c h
 | .block id x, Q, E, ok, S, a, w, c, h => by
  refine wp_block (wp_mono (w_sound hM x _ c h) fun e a' w' q => ?_)
  cases e with
  | normal => exact q
  | exit i =>
   obtain ⟨E', ok', S', h', c'⟩ := q
   simp only [Exit.inBlock]
   cases e : i == id with
   | true => rw [if_pos (by simpa using e)]; simp only [e] at h'; exact ⟨E', ok', S', h', c'⟩
   | false => rw [if_neg (by simpa using e)]; simp only [e] at h'; exact ⟨E', ok', S', h', c'⟩
  | ret => exact q
  | goto l => exact q
  | panic ch => exact q
  | outgrown => exact q
 | .loop x, Q, E, ok, S, a, w, c, h => by
  obtain ⟨ι, st, I, μ, ⟨p0, hw0, h0⟩, hb⟩ := h
  obtain ⟨E0, ok0, c0⟩ := hw0 G E ok a w c
  have key : ∀ n p E ok a w, μ p = n → I p → Conc G E ok (st p) a w → ∀ b k cs, ∃ e a' w', AftX G Q e a' w' ∧ Arrives P (lone (b.at a (.code x :: .inLoop x :: k)) cs w) b k cs e a' w' := by
   intro n
   induction n using Nat.strongRecOn with
   | _ n ih =>
    intro p E ok a w hn hI c b k cs
    obtain ⟨e, a₁, w₁, hq, harr⟩ := w_sound hM x _ c (hb p hI) b (.inLoop x :: k) cs
    cases e with
    | normal =>
     obtain ⟨E', ok', S', ⟨q, hw, hI', hlt⟩, c'⟩ := hq
     obtain ⟨E'', ok'', c''⟩ := hw G E' ok' a₁ w₁ c'
     obtain ⟨e₂, a₂, w₂, hq₂, harr₂⟩ := ih (μ q) (hn ▸ hlt) q E'' ok'' a₁ w₁ rfl hI' c'' b k cs
     exact ⟨e₂, a₂, w₂, hq₂, .of_steps (Steps.trans harr (.one step_inLoop)) harr₂⟩
    | exit id => exact ⟨.exit id, a₁, w₁, (by simpa only [AftX] using hq), .pass (x := .inLoop x) rfl (fun _ _ => .inl (by simp)) harr⟩
    | goto l => exact hq.elim
    | ret => exact ⟨.ret, a₁, w₁, (by simpa only [AftX] using hq), .pass (x := .inLoop x) rfl (fun _ _ => .inl (by simp)) harr⟩
    | panic ch => exact hq.elim
    | outgrown => exact hq.elim
  intro b k cs
  obtain ⟨e, a', w', hq, harr⟩ := key _ p0 E0 ok0 a w rfl h0 c0 b k cs
  exact ⟨e, a', w', hq, .of_steps (.one step_loop) harr⟩
 | .exit id, Q, E, ok, S, a, w, c, h => wp_exit ⟨E, ok, S, h, c⟩
 | .ret, Q, E, ok, S, a, w, c, h => wp_ret ⟨E, ok, S, h, c⟩
 | .region id ops true, Q, E, ok, S, a, w, c, h => by
  refine wp_region_any hM ?_
  have c' := c.drawn (w.drawn + 1)
  unfold ewp at h
  split at h
  ·obtain ⟨hck, h⟩ := h
   have := draw_sound hT hck (Qx := AftX G Q) c' h (fun a w q => q)
   simpa using this
  ·have := drawS_sound hT c' h
   simpa using this
 | .label _, _, _, _, _, _, _, _, h => h.elim
 | .goto _, _, _, _, _, _, _, _, h => h.elim
 | .rangeFunc _ _ _ _, _, _, _, _, _, _, _, h => h.elim
 | .scope _, _, _, _, _, _, _, _, h => h.elim
 | .refuse _, _, _, _, _, _, _, _, h => h.elim
end
end Go.Proofs.YthioccbgjkbmdaaGreat.AM
