/-
  The abstract machine, part 21c: loud operations, whatever else stands in the slots.
-/
import Derived.Test.YthioccbgjkbmdaaM08904888e7
set_option linter.unusedVariables false
set_option linter.unusedSimpArgs false
set_option linter.unusedSectionVars false
namespace Go.Proofs.Ythioccbgjkbmdaa.AM
open Go Go.RowKit

theorem soft_nil (S : St) : S.soft [] = S := rfl
/-- What a loud operation does, is done from every state that looks alike to it. -/
def LoudOk (P : Program) (R : List (Nat × AObj) → List D → Prop) (o : Oper) (S : St) (e : Eff) : Prop :=
  e.dst = o.dst ∧ (∀ k ∈ e.ks, k ∈ killOf o) ∧ ∀ S2 : St, S2.n = S.n → S2.ob = S.ob → (∀ x ∈ o.op.operands.toList, S2.ev x = S.ev x) → ∀ K2 : St → Prop, K2 (e.app S2) → hWp (std P R) o S2 K2
def LoudOk0 (P : Program) (R : List (Nat × AObj) → List D → Prop) (o : Oper) (S : St) (e : Eff) : Prop :=
  e.dst = o.dst ∧ (∀ k ∈ e.ks, k ∈ killOf o) ∧ ∀ S2 : St, S2.n = S.n → S2.ob = S.ob → (∀ x ∈ o.op.operands.toList, S2.ev x = S.ev x) → ∀ K2 : St → Prop, K2 (e.app S2) → eWp (std P R) o S2 K2
section
variable {P : Program} {R : List (Nat × AObj) → List D → Prop}

theorem look_setOb (S : St) (id0 : Nat) (o : AObj) (id : Nat) (h : id ≠ id0) : look (S.setOb id0 o).ob id = look S.ob id := by
  simp only [St.setOb, look]
  rw [if_neg (Ne.symm h), look_remOb, if_neg h]
theorem storeW_eff {td : TD} {S : St} {a x : D} {K : St → Prop} (h : storeW (std P R) td S a x K) : ∃ ob', K ({ S with ob := ob' } : St) ∧ (∀ id0, ((∃ off, a = .ptr id0 off) ∨ ∃ z i off, a = .rptr id0 z i off) → ∀ id, id ≠ id0 → look ob' id = look S.ob id) ∧ ∀ S2 : St, S2.ob = S.ob → ∀ K2 : St → Prop, K2 ({ S2 with ob := ob' } : St) → storeW (std P R) td S2 a x K2 := by
  unfold storeW at h
  split at h
  · rename_i id off
    split at h
    · rename_i l hl
      split at h
      · rename_i cs hcs
        split at h
        · rename_i h1
          split at h
          · rename_i h2
            refine ⟨_, h, fun id0 hq id hne => by rcases hq with ⟨off', e⟩ | ⟨z', i', off', e⟩ <;> cases e; exact look_setOb S _ _ id hne, fun S2 hob K2 hK => ?_⟩
            unfold storeW
            simp only [hob, hl, hcs, if_pos h1, if_pos h2]
            unfold St.setOb
            rw [hob]
            exact hK
          · exact h.elim
        · exact h.elim
      · exact h.elim
    · rename_i l hl
      split at h
      · rename_i n e l' hk
        split at h
        · rename_i h1
          split at h
          · rename_i h2
            split at h
            · rename_i h3
              split at h
              · rename_i h4
                refine ⟨_, h, fun id0 hq id hne => by rcases hq with ⟨off', e⟩ | ⟨z', i', off', e⟩ <;> cases e; exact look_setOb S _ _ id hne, fun S2 hob K2 hK => ?_⟩
                unfold storeW
                simp only [hob, hl, hk, if_pos h1, if_pos h2, if_pos h3, if_pos h4]
                unfold St.setOb
                rw [hob]
                exact hK
              · exact h.elim
            · exact h.elim
          · exact h.elim
        · exact h.elim
      · exact h.elim
    · exact h.elim
  · rename_i id z i off
    split at h
    · rename_i z' l hl
      split at h
      · rename_i hz
        split at h
        · rename_i ha
          split at h
          · rename_i h1
            split at h
            · rename_i h2
              split at h
              · rename_i cs hcs
                split at h
                · rename_i h3
                  split at h
                  · rename_i h4
                    obtain ⟨h5, h⟩ := h
                    refine ⟨_, h, fun id0 hq id hne => by rcases hq with ⟨off', e⟩ | ⟨z', i', off', e⟩ <;> cases e; exact look_setOb S _ _ id hne, fun S2 hob K2 hK => ?_⟩
                    unfold storeW
                    simp only [hob, hl, ha, hcs, if_pos hz, if_pos h1, if_pos h2, if_pos h3, if_pos h4]
                    refine ⟨h5, ?_⟩
                    unfold St.setOb
                    rw [hob]
                    exact hK
                  · exact h.elim
                · exact h.elim
              · exact h.elim
            · exact h.elim
          · exact h.elim
        · rename_i ha
          split at h
          · rename_i y hy
            split at h
            · rename_i hc
              split at h
              · rename_i h1
                split at h
                · rename_i h2
                  split at h
                  · rename_i h3
                    obtain ⟨h5, h⟩ := h
                    refine ⟨_, h, fun id0 hq id hne => by rcases hq with ⟨off', e⟩ | ⟨z', i', off', e⟩ <;> cases e; exact look_setOb S _ _ id hne, fun S2 hob K2 hK => ?_⟩
                    unfold storeW
                    simp only [hob, hl, ha, hy, hc, if_pos hz, if_pos h1, if_pos h2, if_pos h3, if_true]
                    refine ⟨h5, ?_⟩
                    unfold St.setOb
                    rw [hob]
                    exact hK
                  · exact h.elim
                · exact h.elim
              · rename_i h1
                split at h
                · rename_i h3
                  obtain ⟨cs, hcs, h⟩ := h
                  split at h
                  · rename_i h4
                    refine ⟨_, h, fun id0 hq id hne => by rcases hq with ⟨off', e⟩ | ⟨z', i', off', e⟩ <;> cases e; exact look_setOb S _ _ id hne, fun S2 hob K2 hK => ?_⟩
                    unfold storeW
                    simp only [hob, hl, ha, hy, hc, if_pos hz, if_neg h1, if_pos h3, if_true]
                    refine ⟨cs, hcs, ?_⟩
                    simp only [if_pos h4]
                    unfold St.setOb
                    rw [hob]
                    exact hK
                  · exact h.elim
                · exact h.elim
            · exact h.elim
          · exact h.elim
      · exact h.elim
    · exact h.elim
  · exact h.elim

theorem srcW_eff {z : Nat} {ob : List (Nat × AObj)} {d : D} {K : List V → Prop} (h : srcW (std P R) z ob d K) : ∃ l, K l ∧ ∀ K2 : List V → Prop, K2 l → srcW (std P R) z ob d K2 := by
  unfold srcW at h
  split at h
  · obtain ⟨h1, h⟩ := h
    exact ⟨_, h, fun K2 hK => by unfold srcW; exact ⟨h1, hK⟩⟩
  · split at h
    · rename_i h1
      exact ⟨_, h, fun K2 hK => by unfold srcW; simp only; rw [if_pos h1]; exact hK⟩
    · exact h.elim
  · exact ⟨_, h, fun K2 hK => by unfold srcW; exact hK⟩
  · exact ⟨_, h, fun K2 hK => by unfold srcW; exact hK⟩
  · split at h
    · rename_i z' l ex hr
      split at h
      · rename_i h1
        exact ⟨_, h, fun K2 hK => by unfold srcW; simp only [hr]; rw [if_pos h1]; exact hK⟩
      · exact h.elim
    · exact h.elim
  · split at h
    · rename_i gh pub hp
      obtain ⟨l, h1, h⟩ := h
      exact ⟨_, h, fun K2 hK => by unfold srcW; simp only [hp]; exact ⟨l, h1, hK⟩⟩
    · exact h.elim
  · exact h.elim

theorem new_eff (S : St) (d : Nat) (o : AObj) (x : D) : (S.new d o).put (some d) x = (Eff.l (some d) x [d] ((d, unOb d o) :: (S.kill d).ob)).app S := rfl
theorem new_eff2 {S S2 : St} (hob : S2.ob = S.ob) (d : Nat) (o : AObj) (x : D) : (S2.new d o).put (some d) x = (Eff.l (some d) x [d] ((d, unOb d o) :: (S.kill d).ob)).app S2 := by
  rw [new_eff]; simp only [St.kill, hob]

def TouchOk (o : Oper) (S : St) (e : Eff) : Prop := ∀ Ts, touchOf S o = some Ts → ∀ id, id ∉ Ts → look (e.app S).ob id = look S.ob id
theorem softOb_other (id : Nat) : ∀ (ids : List Nat) (ob : List (Nat × AObj)), id ∉ ids → look (softOb ob ids) id = look ob id
  | [], ob, _ => rfl
  | k :: r, ob, h => by
    have h1 : id ≠ k := fun e => h (by simp [e])
    have h2 : id ∉ r := fun e => h (by simp [e])
    unfold softOb
    split
    · rw [softOb_other id r _ h2]
      simp only [look]; rw [if_neg (Ne.symm h1), look_remOb, if_neg h1]
    · split
      · rw [softOb_other id r _ h2]
        simp only [look]; rw [if_neg (Ne.symm h1), look_remOb, if_neg h1]
      · exact softOb_other id r _ h2
    · exact softOb_other id r _ h2
theorem touch_none {o : Oper} {S : St} {e : Eff} (h : ∀ t a x, o.op ≠ .store t a x) (h2 : ∀ c f, o.op = .call c → c.callee ≠ .value f := by intro c f h; simp_all) : TouchOk o S e := by
  intro Ts ht
  unfold touchOf at ht
  split at ht
  · rename_i t a x ho; exact absurd ho (h t a x)
  · rename_i c ho
    split at ht
    · rename_i f hc; exact absurd hc (h2 c f ho)
    · cases ht
  · cases ht
theorem loud_eff0 {o : Oper} {S : St} {K : St → Prop} (hl : loud o.op = true) (hv : ∀ c f, o.op = .call c → c.callee ≠ .value f) (h0 : gTouch S o = 0) (h : eWp (std P R) o S K) : ∃ e : Eff, K (e.app S) ∧ LoudOk0 P R o S e ∧ TouchOk o S e := by
  unfold loud at hl
  split at hl
  · rename_i t a x ho
    unfold eWp at h
    simp only [ho, handsOn, soft_nil] at h
    split at h
    · rename_i hk
      obtain ⟨ob', h1, ht, h2⟩ := storeW_eff h
      refine ⟨.l o.dst (.v (.tup [])) [] ob', h1, ⟨rfl, by simp [Eff.ks], fun S2 hn hob hev K2 hK => ?_⟩, fun Ts hT id hid => ?_⟩
      · unfold eWp
        simp only [ho, handsOn, soft_nil, hk]
        rw [hev a (by simp [ho, Op.operands]), hev x (by simp [ho, Op.operands])]
        exact h2 S2 hob _ hK
      · rw [ob_app_l]
        have hg : isGp (S.ev a) = false := by
          unfold gTouch at h0
          simp only [ho] at h0
          cases hb : isGp (S.ev a) with
          | false => rfl
          | true => rw [hb] at h0; cases h0
        unfold touchOf at hT
        simp only [ho] at hT
        split at hT
        · rename_i id0 off he; cases hT
          exact ht id0 (.inl ⟨off, he⟩) id (by simpa using hid)
        · rename_i id0 z i off he; cases hT
          exact ht id0 (.inr ⟨z, i, off, he⟩) id (by simpa using hid)
        · rename_i he; rw [he] at hg; cases hg
        · rename_i he; rw [he] at hg; cases hg
        · cases hT
    · exact h.elim
  · rename_i t ho
    unfold eWp at h
    simp only [ho, handsOn, soft_nil] at h
    split at h
    · rename_i d hd
      split at h
      · exact h.elim
      · rename_i hkn
        split at h
        · rename_i n e hk
          split at h
          · rename_i h1
            split at h
            · rename_i l hcl
              split at h
              · rename_i h2
                split at h
                · rename_i h3
                  rw [new_eff] at h
                  refine ⟨_, h, ⟨hd.symm, by simp [Eff.ks, killOf, ho, hd], fun S2 hn hob hev K2 hK => ?_⟩, touch_none (by simp [ho])⟩
                  unfold eWp
                  simp only [ho, handsOn, soft_nil, hd, hk, hcl]
                  rw [if_neg (by rw [hk] at hkn; exact hkn), if_pos h1, if_pos h2, if_pos h3, new_eff2 hob]
                  exact hK
                · exact h.elim
              · exact h.elim
            · exact h.elim
          · exact h.elim
        · rename_i hna
          rw [new_eff] at h
          refine ⟨_, h, ⟨hd.symm, by simp [Eff.ks, killOf, ho, hd], fun S2 hn hob hev K2 hK => ?_⟩, touch_none (by simp [ho])⟩
          unfold eWp
          simp only [ho, handsOn, soft_nil, hd]
          rw [if_neg hkn, new_eff2 hob]
          exact hK
    · exact h.elim
  · rename_i t x ho
    unfold eWp at h
    simp only [ho, handsOn, soft_nil] at h
    split at h
    · rename_i d n e hd hk
      split at h
      · rename_i l hx
        split at h
        · rename_i h1
          split at h
          · rename_i h2
            rw [new_eff] at h
            refine ⟨_, h, ⟨hd.symm, by simp [Eff.ks, killOf, ho, hd], fun S2 hn hob hev K2 hK => ?_⟩, touch_none (by simp [ho])⟩
            unfold eWp
            simp only [ho, handsOn, soft_nil, hd, hk]
            rw [hev x (by simp [ho, Op.operands]), hx]
            simp only
            rw [if_pos h1, if_pos h2, new_eff2 hob]
            exact hK
          · exact h.elim
        · exact h.elim
      · exact h.elim
    · rename_i d hd hna
      split at h
      · rename_i l hx
        rw [new_eff] at h
        refine ⟨_, h, ⟨hd.symm, by simp [Eff.ks, killOf, ho, hd], fun S2 hn hob hev K2 hK => ?_⟩, touch_none (by simp [ho])⟩
        unfold eWp
        simp only [ho, handsOn, soft_nil, hd]
        rw [hev x (by simp [ho, Op.operands]), hx]
        simp only
        rw [new_eff2 hob]; exact hK
      · exact h.elim
    · exact h.elim
  · rename_i c ho
    split at hl
    · rename_i hcb
      unfold eWp at h
      simp only [ho, handsOn, hcb, soft_nil] at h
      split at h
      · rename_i d t t2 s x hd hat has
        have hs : s ∈ o.op.operands.toList := by simp [ho, Op.operands, Call.operands, hcb, has]
        have hx : x ∈ o.op.operands.toList := by simp [ho, Op.operands, Call.operands, hcb, has]
        split at h
        · rename_i e hk
          split at h
          · exact h.elim
          · rename_i hkn
            split at h
            · exact h.elim
            · rename_i hz
              split at h
              · rename_i hst
                obtain ⟨l2, h, hsrc⟩ := srcW_eff h
                split at h
                · rename_i hsv
                  obtain ⟨h1, h⟩ := h
                  rw [new_eff] at h
                  refine ⟨_, h, ⟨hd.symm, by simp [Eff.ks, killOf, ho, hd, hcb], fun S2 hn hob hev K2 hK => ?_⟩, touch_none (by simp [ho])⟩
                  unfold eWp
                  simp only [ho, handsOn, hcb, soft_nil, hd, hat, has, hk]
                  rw [if_neg hkn, if_neg hz, hev x hx, hst, hob]
                  refine hsrc _ ?_
                  rw [hev s hs, hsv]
                  exact ⟨h1, by rw [new_eff2 hob]; exact hK⟩
                · rename_i id hsv
                  split at h
                  · rename_i z l ex hr
                    split at h
                    · rename_i h2
                      obtain ⟨h1, h⟩ := h
                      rw [new_eff] at h
                      refine ⟨.l (some d) (.own d) [d] ((d, unOb d (.row z ((std P R).app l l2) ex)) :: (({ S with ob := remOb id S.ob } : St).kill d).ob), h, ⟨hd.symm, by simp [Eff.ks, killOf, ho, hd, hcb], fun S2 hn hob hev K2 hK => ?_⟩, touch_none (by simp [ho])⟩
                      unfold eWp
                      simp only [ho, handsOn, hcb, soft_nil, hd, hat, has, hk]
                      rw [if_neg hkn, if_neg hz, hev x hx, hst, hob]
                      refine hsrc _ ?_
                      rw [hev s hs, hsv]
                      simp only [hr]
                      rw [if_pos h2]
                      exact ⟨h1, hK⟩
                    · exact h.elim
                  · exact h.elim
                · exact h.elim
              · exact h.elim
        · exact h.elim
      · exact h.elim
    · rename_i f hc; exact absurd hc (hv c f ho)
    · cases hl
  · cases hl
theorem gTouch_eq {o : Oper} {S S2 : St} (hob : S2.ob = S.ob) (hev : ∀ x ∈ o.op.operands.toList, S2.ev x = S.ev x) : gTouch S2 o = gTouch S o := by
  unfold gTouch
  split
  · rename_i t a x ho; rw [hev a (by simp [ho, Op.operands])]
  · rw [hob]
  · rw [hob]
  · rw [hob]
  · rw [hob]
  · rfl
  · rfl
  · rfl
  · rfl
  · rfl
  · rfl
  · rename_i c ho
    split
    · rename_i x r hc ha
      rw [hev x (by simp [ho, Op.operands, Call.operands, hc, ha]), hob]
    · rfl
    · rfl
    · rfl
    · rw [hob]
    · rfl
  · rfl
theorem gTouch_two {o : Oper} {S : St} (hl : loud o.op = true) (hv : ∀ c f, o.op = .call c → c.callee ≠ .value f) : gTouch S o = 0 ∨ gTouch S o = 1 := by
  unfold loud at hl
  split at hl
  · rename_i t a x ho; unfold gTouch; simp only [ho]; split <;> simp
  · rename_i t ho
    unfold gTouch; simp only [ho]
    split
    · split <;> simp
    · simp
  · rename_i t x ho
    unfold gTouch; simp only [ho]
    split
    · split <;> simp
    · simp
  · rename_i c ho
    split at hl
    · rename_i hc
      unfold gTouch; simp only [ho, hc]
      split
      · split
        · simp
        · split
          · split <;> simp
          · simp
      all_goals first | (simp; done) | (exfalso; simp_all; done)
    · rename_i f hc; exact absurd hc (hv c f ho)
    · cases hl
  · cases hl
theorem loud_effH {o : Oper} {S : St} {K : St → Prop} (hl : loud o.op = true) (hv : ∀ c f, o.op = .call c → c.callee ≠ .value f) (h : hWp (std P R) o S K) : ∃ e : Eff, K (e.app S) ∧ LoudOk P R o S e ∧ TouchOk o S e := by
  unfold hWp at h
  rcases gTouch_two (S := S) hl hv with h0 | h1
  · simp only [h0] at h
    obtain ⟨e, h1, ⟨h2, h3, h4⟩, ht⟩ := loud_eff0 hl hv h0 h
    refine ⟨e, h1, ⟨h2, h3, fun S2 hn hob hev K2 hK => ?_⟩, ht⟩
    unfold hWp
    rw [gTouch_eq hob hev, h0]
    exact h4 S2 hn hob hev K2 hK
  · simp only [h1] at h
    have soft_ob : ∀ ids, (S.soft ids).ob = softOb S.ob ids := fun _ => rfl
    split at h
    · rename_i gh pub hp
      split at h
      · rename_i xs hx
        obtain ⟨r, gh', hg, h⟩ := h
        refine ⟨.l o.dst (.v r) [] ((S.soft (idsDs false (o.op.operands.toList.map S.ev))).setOb hk (.heap gh' pub)).ob, h, ⟨rfl, by simp [Eff.ks], fun S2 hn hob hev K2 hK => ?_⟩, fun Ts hT id hid => ?_⟩
        rotate_left
        · rw [ob_app_l]
          have h9 : id ≠ hk ∧ id ∉ idsDs false (o.op.operands.toList.map S.ev) := by
            unfold touchOf at hT
            split at hT
            · rename_i t a x ho
              have hgp : isGp (S.ev a) = true := by
                unfold gTouch at h1
                simp only [ho] at h1
                cases hb : isGp (S.ev a) with
                | true => rfl
                | false => rw [hb] at h1; cases h1
              split at hT
              · rename_i he; rw [he] at hgp; cases hgp
              · rename_i he; rw [he] at hgp; cases hgp
              · cases hT; simpa using hid
              · cases hT; simpa using hid
              · cases hT
            · rename_i c ho
              split at hT
              · rename_i f hc; exact absurd hc (hv c f ho)
              · cases hT
            · cases hT
          rw [look_setOb _ _ _ _ h9.1]
          exact softOb_other _ _ _ h9.2
        have hm : o.op.operands.toList.map S2.ev = o.op.operands.toList.map S.ev := List.map_congr_left hev
        have hso : (S2.soft (idsDs false (o.op.operands.toList.map S2.ev))).ob = (S.soft (idsDs false (o.op.operands.toList.map S.ev))).ob := by
          show softOb S2.ob _ = softOb S.ob _
          rw [hob, hm]
        have hsl : ∀ (T : St) ids, (T.soft ids).ev = T.ev := fun T ids => by funext x; cases x <;> rfl
        unfold hWp
        rw [gTouch_eq hob hev, h1]
        simp only
        rw [hso, hp]
        simp only
        rw [hsl] at hx ⊢
        rw [hm, hx]
        refine ⟨r, gh', hg, ?_⟩
        have e : (S2.soft (idsDs false (o.op.operands.toList.map S.ev))).setOb hk (.heap gh' pub) = ({ S2 with ob := ((S.soft (idsDs false (o.op.operands.toList.map S.ev))).setOb hk (.heap gh' pub)).ob } : St) := by
          have := hso; rw [hm] at this
          simp only [St.setOb, this]; rfl
        change K2 (St.put _ _ _)
        rw [e]
        exact hK
      · exact h.elim
    · exact h.elim
/-! ### Calls whose rows the caller goes on to own -/
def keysR : List (Nat × AObj) → List Nat
  | [] => []
  | (k, _) :: r => keysR r ++ [k]
theorem kills_append (S : St) (a : List Nat) (k : Nat) : S.kills (a ++ [k]) = (S.kills a).kill k := by
  induction a generalizing S with
  | nil => rfl
  | cons x r ih => exact ih _
theorem addObs_kills : ∀ (obs : List (Nat × AObj)) (S : St), addObs S obs = { S.kills (keysR obs) with ob := (addObs S obs).ob }
  | [], S => rfl
  | (k, o) :: r, S => by
    have ih := addObs_kills r S
    have e1 : (addObs S ((k, o) :: r)) = (addObs S r).new k o := rfl
    rw [e1]
    have e2 : ((addObs S r).new k o).n = ((S.kills (keysR ((k, o) :: r)))).n := by
      rw [keysR, kills_append]
      show (addObs S r).n = (S.kills (keysR r)).n
      rw [ih]
    have e3 : ((addObs S r).new k o).sl = ((S.kills (keysR ((k, o) :: r)))).sl := by
      rw [keysR, kills_append]
      show (addObs S r).sl.map _ = (S.kills (keysR r)).sl.map _
      rw [ih]
    cases h : (addObs S r).new k o with
    | mk n sl ob =>
      rw [h] at e2 e3
      simp only at e2 e3
      rw [e2, e3]
theorem addObs_ob : ∀ (obs : List (Nat × AObj)) {S S2 : St}, S2.ob = S.ob → (addObs S2 obs).ob = (addObs S obs).ob
  | [], _, _, h => h
  | (k, o) :: r, S, S2, h => by
    have ih := addObs_ob r h
    simp only [addObs, St.new, St.kill, ih]
theorem kills_sl (ks : List Nat) : ∀ {S S2 : St}, S2.n = S.n → S2.sl = S.sl → (S2.kills ks).n = (S.kills ks).n ∧ (S2.kills ks).sl = (S.kills ks).sl := by
  induction ks with
  | nil => exact fun h k => ⟨h, k⟩
  | cons x r ih => exact fun {S S2} h k => ih (S := S.kill x) (S2 := S2.kill x) h (by simp only [St.kill, k])
theorem resObs_keys (d : Nat) : ∀ (j : Nat) (rs : List Rs) (k : Nat), k ∈ keysR (resObs d j rs) → ∃ i, j ≤ i ∧ i < j + rs.length ∧ k = 1000 + 8 * d + i
  | _, [], k, h => by simp [resObs, keysR] at h
  | j, .v _ :: r, k, h => by
    obtain ⟨i, h1, h2, h3⟩ := resObs_keys d (j + 1) r k h
    exact ⟨i, by omega, by simp; omega, h3⟩
  | j, .o z l :: r, k, h => by
    simp only [resObs, keysR, List.mem_append, List.mem_singleton] at h
    rcases h with h | h
    · obtain ⟨i, h1, h2, h3⟩ := resObs_keys d (j + 1) r k h
      exact ⟨i, by omega, by simp; omega, h3⟩
    · exact ⟨j, Nat.le_refl _, by simp, h⟩
theorem quiet_un {ks : List Nat} {o : AObj} (h : quietOb ks o = true) {k : Nat} (hk : k ∈ ks) : unOb k o = o := by
  cases o with
  | box l =>
    have : l.map (unD k) = l := (List.map_congr_left (g := id) fun d hd => by
      have h1 := List.all_eq_true.1 h d hd
      unfold noMent at h1
      have h2 := List.all_eq_true.1 h1 k hk
      unfold unD
      rw [show mentions k d = false from by simpa using h2]; rfl).trans (List.map_id l)
    simp only [unOb, this]
  | _ => rfl
theorem look_mem : ∀ {l : List (Nat × AObj)} {j : Nat} {o : AObj}, look l j = some o → ∃ p ∈ l, p.2 = o
  | [], _, _, h => by simp [look] at h
  | (k, x) :: r, j, o, h => by
    simp only [look] at h
    split at h
    · exact ⟨(k, x), by simp, by simpa using h⟩
    · obtain ⟨p, h1, h2⟩ := look_mem h
      exact ⟨p, List.mem_cons_of_mem _ h1, h2⟩
theorem look_addObs (id : Nat) : ∀ (obs : List (Nat × AObj)) (S : St), (∀ p ∈ S.ob, ∀ k ∈ keysR obs, unOb k p.2 = p.2) → id ∉ keysR obs → look (addObs S obs).ob id = look S.ob id
  | [], S, _, _ => rfl
  | (k, o) :: r, S, hq, hn => by
    simp only [keysR, List.mem_append, List.mem_singleton, not_or] at hn
    have ih := look_addObs id r S (fun p hp k hk => hq p hp k (by simp [keysR, hk])) hn.1
    show look (((k, unOb k o) :: ((addObs S r).kill k).ob)) id = _
    simp only [look]
    rw [if_neg (Ne.symm hn.2), look_kill, if_neg hn.2, ih]
    cases h : look S.ob id with
    | none => rfl
    | some x =>
      obtain ⟨p, h1, rfl⟩ := look_mem h
      rw [Option.map_some, hq p h1 k (by simp [keysR])]
theorem lc_eff {o : Oper} {S : St} {K : St → Prop} {c : Call} {f : Operand} (ho : o.op = .call c) (hc : c.callee = .value f) (h : lcWp (std P R) o f c S K) : ∃ e : Eff, K (e.app S) ∧ LoudOk P R o S e ∧ TouchOk o S e := by
  unfold lcWp at h
  split at h
  · rename_i h0
    simp only at h
    split at h
    · rename_i d g fst cap hd hcal
      split at h
      · rename_i xs hx
        obtain ⟨ys, hsub, h⟩ := h
        rcases h with ⟨rs, hf, h⟩ | ⟨gh, post, hh, _⟩
        · simp only at h
          split at h
          · rename_i hok
            unfold lcOk at hok
            rw [Bool.and_eq_true] at hok
            obtain ⟨hlen, hq⟩ := hok
            have hlen : rs.length ≤ 8 := Nat.le_of_ble_eq_true hlen
            have hkeys : ∀ k ∈ keysR (resObs d 0 rs), k ∈ newIds d := fun k hk => by
              obtain ⟨i, h1, h2, h3⟩ := resObs_keys d 0 rs k hk
              exact List.mem_map.2 ⟨i, List.mem_range.2 (by omega), h3.symm⟩
            generalize hS1 : S.soft (handsOn S o.op) = S1 at h hx hq
            have happ : ∀ S2 : St, (S2.soft (handsOn S o.op)).ob = S1.ob → (addObs (S2.soft (handsOn S o.op)) (resObs d 0 rs)).put (some d) (resD d rs) = (Eff.l (some d) (resD d rs) (keysR (resObs d 0 rs)) (addObs S1 (resObs d 0 rs)).ob).app S2 := fun S2 h2 => by
              have e := addObs_kills (resObs d 0 rs) (S2.soft (handsOn S o.op))
              obtain ⟨k1, k2⟩ := kills_sl (keysR (resObs d 0 rs)) (S := S2) (S2 := S2.soft (handsOn S o.op)) rfl rfl
              refine (congrArg (fun T : St => T.put (some d) (resD d rs)) e).trans ?_
              refine congrArg (fun T : St => T.put (some d) (resD d rs)) (?_ : ({ (S2.soft (handsOn S o.op)).kills (keysR (resObs d 0 rs)) with ob := (addObs (S2.soft (handsOn S o.op)) (resObs d 0 rs)).ob } : St) = { S2.kills (keysR (resObs d 0 rs)) with ob := (addObs S1 (resObs d 0 rs)).ob })
              rw [St.mk.injEq]
              exact ⟨k1, k2, addObs_ob _ h2⟩
            refine ⟨.l (some d) (resD d rs) (keysR (resObs d 0 rs)) (addObs S1 (resObs d 0 rs)).ob, ?_, ⟨hd.symm, fun k hk => ?_, fun S2 hn hob hev K2 hK => ?_⟩, fun Ts hT id hid => ?_⟩
            · rw [← happ S (by rw [hS1]), hS1]; exact h
            · unfold killOf; simp only [ho, hc, hd]; exact hkeys k hk
            · have hfo : f ∈ o.op.operands.toList := by simp [ho, Op.operands, Call.operands, hc]
              have hao : ∀ x ∈ c.args.toList, x ∈ o.op.operands.toList := fun x hx => by simp [ho, Op.operands, Call.operands, hc]; right; simpa using hx
              have hho : handsOn S2 o.op = handsOn S o.op := by
                unfold handsOn
                simp only [ho, hc]
                rw [hev f hfo, List.map_congr_left fun x hx => hev x (hao x hx)]
              have hsl : ∀ (T : St) ids, (T.soft ids).ev = T.ev := fun T ids => by funext x; cases x <;> rfl
              have h2 : (S2.soft (handsOn S o.op)).ob = S1.ob := by
                rw [← hS1]
                show softOb S2.ob _ = softOb S.ob _
                rw [hob]
              have e1 : S1.ev = S.ev := by rw [← hS1]; exact hsl S _
              have e2 : c.args.toList.map S2.ev = c.args.toList.map S.ev := List.map_congr_left fun x hx => hev x (hao x hx)
              have e3 := hev f hfo
              rw [e1] at hx
              rw [hsl] at hcal
              unfold hWp
              rw [gTouch_eq hob hev, h0]
              simp only
              unfold eWp
              simp only [hho]
              have happ2 := happ S2 h2
              generalize handsOn S o.op = ids at h2 happ2 ⊢
              simp only [ho, hc, hd, hsl]
              rw [e3, hcal]
              simp only
              rw [e2, h2, hx]
              refine ⟨ys, hsub, .inl ⟨rs, hf, ?_⟩⟩
              simp only [St.setHeap]
              rw [happ2]
              exact hK
            · have hT2 : Ts = handsOn S o.op ++ newIds d := by
                unfold touchOf at hT
                simp only [ho, hc] at hT
                unfold killOf at hT
                simp only [ho, hc, hd] at hT
                cases hT; rw [ho]
              rw [hT2, List.mem_append, not_or] at hid
              rw [ob_app_l, look_addObs id _ S1 (fun p hp k hk => quiet_un (List.all_eq_true.1 hq p hp) (hkeys k hk)) (fun q => hid.2 (hkeys _ q)), ← hS1]
              exact softOb_other _ _ _ hid.1
          · exact h.elim
        · cases hh
      · exact h.elim
    · exact h.elim
  · exact h.elim
theorem heapOf_set {ob : List (Nat × AObj)} {gh : GH} {pub : List Nat} (h : heapOf ob = some (gh, pub)) : look ob hk = some (.heap gh pub) := by
  unfold heapOf at h
  split at h
  · rename_i hq; cases h; exact hq
  · cases h
theorem lh_eff {o : Oper} {S : St} {K : St → Prop} {c : Call} {f : Operand} (ho : o.op = .call c) (hc : c.callee = .value f) (h : lhWp (std P R) o f c S K) : ∃ e : Eff, K (e.app S) ∧ LoudOk P R o S e ∧ TouchOk o S e := by
  unfold lhWp at h
  split at h
  · rename_i h0
    simp only at h
    split at h
    · rename_i d g fst cap hd hcal
      split at h
      · rename_i xs hx
        split at h
        · rename_i gh hgh
          obtain ⟨ys, rs, hsub, hf, h⟩ := h
          split at h
          · rename_i hok
            unfold lcOk at hok
            rw [Bool.and_eq_true] at hok
            obtain ⟨hlen, hq⟩ := hok
            have hlen : rs.length ≤ 8 := Nat.le_of_ble_eq_true hlen
            have hkeys : ∀ k ∈ keysR (resObs d 0 rs), k ∈ newIds d := fun k hk => by
              obtain ⟨i, h1, h2, h3⟩ := resObs_keys d 0 rs k hk
              exact List.mem_map.2 ⟨i, List.mem_range.2 (by omega), h3.symm⟩
            have hset : ∀ T : St, T.ob = (S.soft (handsOn S o.op)).ob → ∃ ob', (T.setHeap (some gh)) = { T with ob := ob' } ∧ ob' = ((S.soft (handsOn S o.op)).setHeap (some gh)).ob := fun T hT => by
              refine ⟨(T.setHeap (some gh)).ob, ?_, ?_⟩
              · unfold St.setHeap; simp only; split <;> rfl
              · unfold St.setHeap; simp only; rw [hT]; split
                · simp only [St.setOb]; rw [hT]
                · exact hT
            have hlook : ∀ id, look ((S.soft (handsOn S o.op)).setHeap (some gh)).ob id = look (S.soft (handsOn S o.op)).ob id := fun id => by
              simp only [St.setHeap]
              unfold gheap at hgh
              split at hgh
              · rename_i gh' pub hp
                cases hgh
                by_cases e : id = hk
                · rw [e, heapOf_set hp]; simp [St.setOb, look]
                · exact look_setOb _ _ _ _ e
              · cases hgh
            generalize hS1 : (S.soft (handsOn S o.op)).setHeap (some gh) = S1 at h hq hset hlook
            have happ : ∀ S2 : St, (S2.soft (handsOn S o.op)).ob = (S.soft (handsOn S o.op)).ob → (addObs ((S2.soft (handsOn S o.op)).setHeap (some gh)) (resObs d 0 rs)).put (some d) (resD d rs) = (Eff.l (some d) (resD d rs) (keysR (resObs d 0 rs)) (addObs S1 (resObs d 0 rs)).ob).app S2 := fun S2 h2 => by
              obtain ⟨ob', e1, e2⟩ := hset _ h2
              have e := addObs_kills (resObs d 0 rs) ((S2.soft (handsOn S o.op)).setHeap (some gh))
              obtain ⟨k1, k2⟩ := kills_sl (keysR (resObs d 0 rs)) (S := S2) (S2 := (S2.soft (handsOn S o.op)).setHeap (some gh)) (by rw [e1]; rfl) (by rw [e1]; rfl)
              refine (congrArg (fun T : St => T.put (some d) (resD d rs)) e).trans ?_
              refine congrArg (fun T : St => T.put (some d) (resD d rs)) (?_ : ({ ((S2.soft (handsOn S o.op)).setHeap (some gh)).kills (keysR (resObs d 0 rs)) with ob := (addObs ((S2.soft (handsOn S o.op)).setHeap (some gh)) (resObs d 0 rs)).ob } : St) = { S2.kills (keysR (resObs d 0 rs)) with ob := (addObs S1 (resObs d 0 rs)).ob })
              rw [St.mk.injEq]
              exact ⟨k1, k2, addObs_ob _ (by rw [e1]; exact e2)⟩
            refine ⟨.l (some d) (resD d rs) (keysR (resObs d 0 rs)) (addObs S1 (resObs d 0 rs)).ob, ?_, ⟨hd.symm, fun k hk => ?_, fun S2 hn hob hev K2 hK => ?_⟩, fun Ts hT id hid => ?_⟩
            · rw [← happ S rfl, hS1]; exact h
            · unfold killOf; simp only [ho, hc, hd]; exact hkeys k hk
            · have hfo : f ∈ o.op.operands.toList := by simp [ho, Op.operands, Call.operands, hc]
              have hao : ∀ x ∈ c.args.toList, x ∈ o.op.operands.toList := fun x hx => by simp [ho, Op.operands, Call.operands, hc]; right; simpa using hx
              have hho : handsOn S2 o.op = handsOn S o.op := by
                unfold handsOn
                simp only [ho, hc]
                rw [hev f hfo, List.map_congr_left fun x hx => hev x (hao x hx)]
              have hsl : ∀ (T : St) ids, (T.soft ids).ev = T.ev := fun T ids => by funext x; cases x <;> rfl
              have h2 : (S2.soft (handsOn S o.op)).ob = (S.soft (handsOn S o.op)).ob := by
                show softOb S2.ob _ = softOb S.ob _
                rw [hob]
              have e2 : c.args.toList.map S2.ev = c.args.toList.map S.ev := List.map_congr_left fun x hx => hev x (hao x hx)
              have e3 := hev f hfo
              rw [hsl] at hx hcal
              unfold hWp
              rw [gTouch_eq hob hev, h0]
              simp only
              unfold eWp
              simp only [hho]
              have happ2 := happ S2 h2
              rw [← h2] at hx hgh
              generalize handsOn S o.op = ids at h2 happ2 hx hgh ⊢
              simp only [ho, hc, hd, hsl]
              rw [e3, hcal]
              simp only
              rw [e2, hx]
              refine ⟨ys, hsub, .inr ⟨gh, _, hgh, hf, fun rs' gh' q => ?_⟩⟩
              obtain ⟨rfl, rfl⟩ := q
              rw [happ2]
              exact hK
            · have hT2 : Ts = handsOn S o.op ++ newIds d := by
                unfold touchOf at hT
                simp only [ho, hc] at hT
                unfold killOf at hT
                simp only [ho, hc, hd] at hT
                cases hT; rw [ho]
              rw [hT2, List.mem_append, not_or] at hid
              rw [ob_app_l, look_addObs id _ S1 (fun p hp k hk => quiet_un (List.all_eq_true.1 hq p hp) (hkeys k hk)) (fun q => hid.2 (hkeys _ q)), hlook]
              exact softOb_other _ _ _ hid.1
          · exact h.elim
        · exact h.elim
      · exact h.elim
    · exact h.elim
  · exact h.elim
theorem loud_eff {o : Oper} {S : St} {K : St → Prop} (hl : loud o.op = true) (h : lWp (std P R) o S K) : ∃ e : Eff, K (e.app S) ∧ LoudOk P R o S e ∧ TouchOk o S e := by
  unfold lWp at h
  split at h
  · rename_i c ho
    split at h
    · rename_i f hc
      split at h
      · exact lh_eff ho hc h
      · exact lc_eff ho hc h
    · rename_i hnv
      exact loud_effH hl (fun c' f h1 h2 => by rw [ho] at h1; cases h1; exact hnv f h2) h
  · rename_i hnc
    exact loud_effH hl (fun c' f h1 _ => hnc c' h1) h
end
end Go.Proofs.Ythioccbgjkbmdaa.AM

/-
  The abstract machine, part 21d: the trace of a region in the order of evaluation.
-/
set_option linter.unusedVariables false
set_option linter.unusedSimpArgs false
set_option linter.unusedSectionVars false
namespace Go.Proofs.Ythioccbgjkbmdaa.AM
open Go Go.RowKit

/-- How a guard decides. -/
def GOk (ops : List Oper) (o : Oper) (S : St) (run : Bool) : Prop :=
  (o.guard = none ∧ run = true) ∨ ∃ j want p t, o.guard = some (j, want) ∧ look? ops j = some p ∧ p.dst = some t ∧ ((∃ b, S.get t = .lit b ∧ run = (b == want)) ∨ (S.get t = .v (.tup []) ∧ run = false))
def QuietOk (P : Program) (ob : List (Nat × AObj)) (o : Oper) (S : St) (d : D) : Prop :=
  ∃ d0, Comes' P ob S.ev o.op d0 ∧ (d = d0 ∨ ∃ c, d0 = .v (.bool c) ∧ d = .lit c)
abbrev Wat := List (Nat × List Nat)
/-- What others have looked at, and stands in no order with this one, stays. -/
def Watch (anc : List (Nat × Nat)) (i : Nat) (W : Wat) (S : St) (e : Eff) : Prop := ∀ k U, (k, U) ∈ W → Nat.testBit (getA anc i) k = true ∨ ∀ id ∈ U, look (e.app S).ob id = look S.ob id
def OpOk (P : Program) (R : List (Nat × AObj) → List D → Prop) (ops : List Oper) (anc : List (Nat × Nat)) (i : Nat) (r : List Nat) (W W' : Wat) (o : Oper) (S : St) (e : Eff) : Prop :=
  ∃ run, GOk ops o S run ∧ (run = false → e = .q o.dst (.v (.tup []))) ∧ (run = true →
    (loud o.op = true ∧ LoudOk P R o S e ∧ Watch anc i W S e) ∨
    (loud o.op = false ∧ ∃ d, e = .q o.dst d ∧ ((freeOf ops anc i r = none ∧ QuietOk P S.ob o S d) ∨ ∃ ks, freeOf ops anc i r = some ks ∧ (∀ x ∈ o.op.operands.toList, noMent ks (S.ev x) = true) ∧ noMent ks d = true ∧ ∃ U, (i, U) ∈ W' ∧ QuietOk P (restrict S.ob U) o S d)))
def TrOk (P : Program) (R : List (Nat × AObj) → List D → Prop) (ops : List Oper) (anc : List (Nat × Nat)) : Wat → List Nat → St → List Eff → Prop
  | _, [], _, [] => True
  | W, i :: r, S, e :: es => ∃ W' : Wat, (∃ o, look? ops i = some o ∧ OpOk P R ops anc i r W W' o S e) ∧ (∀ p ∈ W, p ∈ W') ∧ TrOk P R ops anc W' r (e.app S) es
  | _, _, _, _ => False
def foldE (es : List Eff) (S : St) : St := es.foldl (fun S e => e.app S) S
section
variable {P : Program} {R : List (Nat × AObj) → List D → Prop} (hT : tableOf P = T)
include hT
theorem noMent_lit (ks : List Nat) (b : Bool) : noMent ks (.lit b) = true := by simp [noMent, mentions]
theorem dRes_eff {g : Bool} {dst : Option Nat} {S : St} {d : D} {K : St → Prop} (h : dRes (std P R) g dst S d K) : ∃ d', K ((Eff.q dst d').app S) ∧ (d' = d ∨ ∃ c, d = .v (.bool c) ∧ d' = .lit c) := by
  unfold dRes at h
  split at h
  · split at h
    · exact ⟨_, h, .inl rfl⟩
    · rename_i c; exact ⟨.lit c, h c rfl, .inr ⟨c, rfl, rfl⟩⟩
    · exact h.elim
  · exact ⟨_, h, .inl rfl⟩
theorem watch_of {anc : List (Nat × Nat)} {i : Nat} {o : Oper} {S : St} {e : Eff} (ht : TouchOk o S e) : ∀ {W : Wat}, watchOk anc i (touchOf S o) W = true → Watch anc i W S e
  | [], _ => fun k U h => by simp at h
  | (k, U) :: r, hw => fun k' U' h => by
    unfold watchOk at hw
    rw [Bool.and_eq_true] at hw
    rcases List.mem_cons.1 h with e1 | h
    · cases e1
      cases hb : Nat.testBit (getA anc i) k with
      | true => exact .inl rfl
      | false =>
        refine .inr fun id hid => ?_
        have h1 := hw.1
        rw [hb, Bool.false_or] at h1
        have ap : ∀ (Ts U : List Nat), apartL Ts U = true → ∀ id ∈ U, id ∉ Ts := by
          intro Ts U
          induction U with
          | nil => simp
          | cons u s ih =>
            intro h id hid
            unfold apartL at h
            rw [Bool.and_eq_true] at h
            rcases List.mem_cons.1 hid with rfl | hid
            · simpa using h.1
            · exact ih h.2 id hid
        split at h1
        · simp at hid
        · split at h1
          · rename_i Ts hT
            exact ht Ts hT id (ap _ _ h1 id hid)
          · cases h1
    · exact watch_of ht hw.2 k' U' h
theorem d_trace (ops : List Oper) (anc : List (Nat × Nat)) : ∀ (W : Wat) (π : List Nat) (S : St) (K : St → Prop), dWp (std P R) ops anc W π S K → ∃ es, TrOk P R ops anc W π S es ∧ K (foldE es S)
  | W, [], S, K, h => ⟨[], trivial, h⟩
  | W, i :: r, S, K, h => by
    unfold dWp at h
    split at h
    · rename_i o ho
      have skip : GOk ops o S false → dWp (std P R) ops anc W r (S.put o.dst (.v (.tup []))) K → ∃ es, TrOk P R ops anc W (i :: r) S es ∧ K (foldE es S) := fun hg h => by
        obtain ⟨es, h1, h2⟩ := d_trace ops anc W r _ K h
        exact ⟨.q o.dst (.v (.tup [])) :: es, ⟨W, ⟨o, ho, false, hg, fun _ => rfl, fun h => (nomatch h)⟩, fun _ h => h, h1⟩, h2⟩
      have run : GOk ops o S true → (match loud o.op with
          | true => match watchOk anc i (touchOf S o) W with
            | true => lWp (std P R) o S fun S => dWp (std P R) ops anc W r S K
            | false => False
          | false => match freeOf ops anc i r with
            | none => rWp (std P R) S.ob S.ev o.op fun d => dRes (std P R) (isGuard i ops) o.dst S d fun S => dWp (std P R) ops anc W r S K
            | some ks => match (o.op.operands.toList.map S.ev).all (noMent ks) with
              | true => rWp (std P R) (restrict S.ob (watchIds S.ev o.op)) S.ev o.op fun d => match noMent ks d with
                | true => dRes (std P R) (isGuard i ops) o.dst S d fun S' => dWp (std P R) ops anc ((i, watchIds S.ev o.op) :: W) r S' K
                | false => False
              | false => False) → ∃ es, TrOk P R ops anc W (i :: r) S es ∧ K (foldE es S) := fun hg h => by
        split at h
        · rename_i hl
          split at h
          · rename_i hw
            obtain ⟨e, h1, h2, h5⟩ := loud_eff hl h
            obtain ⟨es, h3, h4⟩ := d_trace ops anc W r _ K h1
            exact ⟨e :: es, ⟨W, ⟨o, ho, true, hg, fun h => (nomatch h), fun _ => .inl ⟨hl, h2, watch_of hT h5 hw⟩⟩, fun _ h => h, h3⟩, h4⟩
          · exact h.elim
        · rename_i hl
          split at h
          · rename_i hf
            obtain ⟨d, h1, h2⟩ := r_sound hT _ _ _ _ h
            obtain ⟨d', h3, h4⟩ := dRes_eff hT h1
            obtain ⟨es, h5, h6⟩ := d_trace ops anc W r _ K h3
            exact ⟨.q o.dst d' :: es, ⟨W, ⟨o, ho, true, hg, fun h => (nomatch h), fun _ => .inr ⟨hl, d', rfl, .inl ⟨hf, d, h2, h4⟩⟩⟩, fun _ h => h, h5⟩, h6⟩
          · rename_i ks hf
            split at h
            · rename_i hm
              obtain ⟨d, h1, h2⟩ := r_sound hT _ _ _ _ h
              split at h1
              · rename_i hd
                obtain ⟨d', h3, h4⟩ := dRes_eff hT h1
                obtain ⟨es, h5, h6⟩ := d_trace ops anc _ r _ K h3
                have hd' : noMent ks d' = true := by
                  rcases h4 with rfl | ⟨c, _, rfl⟩
                  · exact hd
                  · exact noMent_lit hT ks c
                exact ⟨.q o.dst d' :: es, ⟨(i, watchIds S.ev o.op) :: W, ⟨o, ho, true, hg, fun h => (nomatch h), fun _ => .inr ⟨hl, d', rfl, .inr ⟨ks, hf, fun x hx => by
                  have := List.all_eq_true.1 hm _ (List.mem_map_of_mem (f := S.ev) hx); exact this, hd', watchIds S.ev o.op, List.mem_cons_self, d, h2, h4⟩⟩⟩, fun _ h => List.mem_cons_of_mem _ h, h5⟩, h6⟩
              · exact h1.elim
            · exact h.elim
      unfold dGuard at h
      split at h
      · rename_i hg
        exact run (.inl ⟨hg, rfl⟩) h
      · rename_i j want hg
        split at h
        · rename_i p hp
          split at h
          · rename_i t ht
            split at h
            · rename_i b hb
              split at h
              · rename_i e
                exact run (.inr ⟨j, want, p, t, hg, hp, ht, .inl ⟨b, hb, e.symm⟩⟩) h
              · rename_i e
                exact skip (.inr ⟨j, want, p, t, hg, hp, ht, .inl ⟨b, hb, e.symm⟩⟩) h
            · rename_i hb
              exact skip (.inr ⟨j, want, p, t, hg, hp, ht, .inr ⟨hb, rfl⟩⟩) h
            · exact h.elim
          · exact h.elim
        · exact h.elim
    · exact h.elim
end
end Go.Proofs.Ythioccbgjkbmdaa.AM

/-
  The abstract machine, part 21e: what the check of a region's order gives.
-/
set_option linter.unusedVariables false
set_option linter.unusedSimpArgs false
set_option linter.unusedSectionVars false
namespace Go.Proofs.Ythioccbgjkbmdaa.AM
open Go Go.RowKit

theorem bindsA_eq (e : Edge) : Region.binds .any e = bindsA e := by
  unfold Region.binds bindsA
  split <;> simp_all
theorem testBit_bset (n i : Nat) : Nat.testBit (bset n) i = decide (n = i) := by
  unfold bset
  show Nat.testBit (1 <<< n) i = _
  rw [Nat.one_shiftLeft, Nat.testBit_two_pow]
theorem depSet_mem {l : List Edge} {i : Nat} : Nat.testBit (depSet l) i = true ↔ ∃ e ∈ l, bindsA e = true ∧ e.on = i := by
  induction l with
  | nil => simp [depSet]
  | cons e r ih =>
    unfold depSet
    cases hb : bindsA e with
    | true =>
      show Nat.testBit (bset e.on ||| depSet r) i = true ↔ _
      rw [Nat.testBit_or, Bool.or_eq_true, ih, testBit_bset]
      simp [hb]
    | false => rw [ih]; simp [hb]
/-- A set of predecessors, and why each is in it. -/
def AncOk (ops : List Oper) (anc : List (Nat × Nat)) : Prop :=
  ∀ i j, Nat.testBit (getA anc i) j = true → ∃ o, ops[i]? = some o ∧ ∃ e ∈ o.after.toList, bindsA e = true ∧ (e.on = j ∨ (e.on < i ∧ Nat.testBit (getA anc e.on) j = true))
theorem ancOf_mem {acc : List (Nat × Nat)} {l : List Edge} {j : Nat} : Nat.testBit (ancOf acc l) j = true → ∃ e ∈ l, bindsA e = true ∧ (e.on = j ∨ Nat.testBit (getA acc e.on) j = true) := by
  induction l with
  | nil => simp [ancOf]
  | cons e r ih =>
    unfold ancOf
    cases hb : bindsA e with
    | true =>
      show Nat.testBit ((bset e.on ||| getA acc e.on) ||| ancOf acc r) j = true → _
      rw [Nat.testBit_or, Nat.testBit_or, Bool.or_eq_true, Bool.or_eq_true, testBit_bset]
      rintro ((h | h) | h)
      · exact ⟨e, by simp, hb, .inl (by simpa using h)⟩
      · exact ⟨e, by simp, hb, .inr h⟩
      · obtain ⟨e', h1, h2⟩ := ih h
        exact ⟨e', List.mem_cons_of_mem _ h1, h2⟩
    | false =>
      intro h
      obtain ⟨e', h1, h2⟩ := ih h
      exact ⟨e', List.mem_cons_of_mem _ h1, h2⟩
theorem ancGo_ok (ops : List Oper) : ∀ (l : List Oper) (i : Nat) (acc : List (Nat × Nat)), (∀ k, l[k]? = ops[i + k]?) → (∀ k, i ≤ k → getA acc k = 0) → AncOk ops acc → AncOk ops (ancGo i acc l)
  | [], i, acc, _, _, h => h
  | o :: r, i, acc, hl, h0, h => by
    unfold ancGo
    refine ancGo_ok ops r (i + 1) _ (fun k => by have := hl (k + 1); simpa [Nat.add_assoc, Nat.add_comm 1 k] using this) (fun k hk => ?_) (fun k j hj => ?_)
    · simp only [getA]
      have : Nat.beq i k = false := by
        cases hb : Nat.beq i k with
        | false => rfl
        | true => have := Nat.eq_of_beq_eq_true hb; omega
      rw [this]; exact h0 k (by omega)
    · have ho : ops[i]? = some o := by have := hl 0; simpa using this.symm
      have lift : ∀ m j, Nat.testBit (getA acc m) j = true → m < i ∧ Nat.testBit (getA ((i, ancOf acc o.after.toList) :: acc) m) j = true := by
        intro m j hm
        have hmi : m < i := by
          rcases Nat.lt_or_ge m i with q | q
          · exact q
          · rw [h0 m q] at hm; simp at hm
        refine ⟨hmi, ?_⟩
        simp only [getA]
        have : Nat.beq i m = false := by
          cases hb : Nat.beq i m with
          | false => rfl
          | true => have := Nat.eq_of_beq_eq_true hb; omega
        rw [this]; exact hm
      simp only [getA] at hj
      cases hb : Nat.beq i k with
      | true =>
        rw [hb] at hj
        have hik : i = k := Nat.eq_of_beq_eq_true hb
        subst hik
        obtain ⟨e, h1, h2, h3⟩ := ancOf_mem hj
        exact ⟨o, ho, e, h1, h2, h3.imp id fun h3 => lift _ _ h3⟩
      | false =>
        rw [hb] at hj
        obtain ⟨o', q1, e, q2, q3, q4⟩ := h k j hj
        exact ⟨o', q1, e, q2, q3, q4.imp id fun q4 => ⟨q4.1, (lift _ _ q4.2).2⟩⟩

/-- What the check of an order gives. -/
structure Plan (ops : List Oper) (anc : List (Nat × Nat)) (π : List Nat) : Prop where
  nodup : π.Nodup
  lt : ∀ i ∈ π, i < ops.length
  all : ∀ i, i < ops.length → i ∈ π
  pos : ∀ π1 i π2, π = π1 ++ i :: π2 → ∃ o, ops[i]? = some o ∧ (∀ e ∈ o.after.toList, bindsA e = true → e.on ∈ π1) ∧ (loud o.op = true → ∀ k ∈ π2, Nat.testBit (getA anc k) i = true)
  meet : ∀ i j o p, i ≠ j → ops[i]? = some o → ops[j]? = some p → meets ops o p = true → Nat.testBit (getA anc i) j = true ∨ Nat.testBit (getA anc j) i = true
  anc : AncOk ops anc
theorem posOk_spec {ops : List Oper} {anc : List (Nat × Nat)} : ∀ (π : List Nat) (done : Nat) (d : List Nat), (∀ i, Nat.testBit done i = true → i ∈ d) → posOk ops anc done π = true → ∀ π1 i π2, π = π1 ++ i :: π2 →
    ∃ o, ops[i]? = some o ∧ (∀ e ∈ o.after.toList, bindsA e = true → e.on ∈ d ++ π1) ∧ (loud o.op = true → ∀ k ∈ π2, Nat.testBit (getA anc k) i = true)
  | [], done, d, hd, h, π1, i, π2, e => by simp at e
  | j :: r, done, d, hd, h, π1, i, π2, e => by
    unfold posOk at h
    split at h
    · rename_i o ho
      rw [look?_eq] at ho
      simp only [Bool.and_eq_true, Bool.or_eq_true, Bool.not_eq_true'] at h
      obtain ⟨⟨⟨_, h1⟩, h2⟩, h3⟩ := h
      cases π1 with
      | nil =>
        simp only [List.nil_append, List.cons.injEq] at e
        obtain ⟨rfl, rfl⟩ := e
        refine ⟨o, ho, fun x hx hb => ?_, fun hl k hk => ?_⟩
        · have h4 : Nat.land (depSet o.after.toList) done = depSet o.after.toList := Nat.eq_of_beq_eq_true h1
          have h5 : Nat.testBit (depSet o.after.toList) x.on = true := depSet_mem.2 ⟨x, hx, hb, rfl⟩
          rw [← h4] at h5
          have h6 : Nat.testBit (depSet o.after.toList &&& done) x.on = true := h5
          rw [Nat.testBit_and, Bool.and_eq_true] at h6
          rw [List.append_nil]
          exact hd _ h6.2
        · rcases h2 with h2 | h2
          · rw [hl] at h2; cases h2
          · exact List.all_eq_true.1 h2 k hk
      | cons x π1 =>
        simp only [List.cons_append, List.cons.injEq] at e
        obtain ⟨rfl, rfl⟩ := e
        obtain ⟨o', q1, q2, q3⟩ := posOk_spec _ _ (d ++ [j]) (fun m hm => by
          have hm' : Nat.testBit (done ||| bset j) m = true := hm
          rw [Nat.testBit_or, Bool.or_eq_true, testBit_bset] at hm'
          rcases hm' with q | q
          · exact List.mem_append_left _ (hd m q)
          · simp at q; simp [q]) h3 π1 i π2 rfl
        exact ⟨o', q1, fun e he hb => by have := q2 e he hb; simpa using this, q3⟩
    · cases h
theorem posOk_nodup {ops : List Oper} {anc : List (Nat × Nat)} : ∀ (π : List Nat) (done : Nat), posOk ops anc done π = true → π.Nodup ∧ (∀ i ∈ π, Nat.testBit done i = false ∧ i < ops.length)
  | [], done, h => ⟨List.nodup_nil, by simp⟩
  | j :: r, done, h => by
    unfold posOk at h
    split at h
    · rename_i o ho
      rw [look?_eq] at ho
      simp only [Bool.and_eq_true, Bool.or_eq_true, Bool.not_eq_true'] at h
      obtain ⟨⟨⟨h0, _⟩, _⟩, h3⟩ := h
      obtain ⟨k1, k2⟩ := posOk_nodup r _ h3
      have hbit : ∀ i, Nat.testBit (Nat.lor done (bset j)) i = (Nat.testBit done i || decide (j = i)) := fun i => by
        show Nat.testBit (done ||| bset j) i = _
        rw [Nat.testBit_or, testBit_bset]
      refine ⟨List.nodup_cons.2 ⟨fun hj => ?_, k1⟩, fun i hi => ?_⟩
      · have := (k2 j hj).1
        rw [hbit] at this
        simp at this
      · rcases List.mem_cons.1 hi with rfl | hi
        · exact ⟨h0, (List.getElem?_eq_some_iff.1 ho).1⟩
        · have := (k2 i hi).1
          rw [hbit, Bool.or_eq_false_iff] at this
          exact ⟨this.1, (k2 i hi).2⟩
    · cases h
theorem plan_of {ops : List Oper} (h : drawOk ops = true) : Plan ops (ancGo 0 [] ops) (orderOf ops) := by
  unfold drawOk at h
  simp only [Bool.and_eq_true] at h
  obtain ⟨⟨⟨_, h2⟩, h3⟩, h4⟩ := h
  obtain ⟨n1, n2⟩ := posOk_nodup _ _ h3
  refine ⟨n1, fun i hi => (n2 i hi).2, fun i hi => ?_, fun π1 i π2 e => ?_, fun i j o p hij hi hj hm => ?_, ?_⟩
  · have := List.all_eq_true.1 h2 i (List.mem_range.2 hi)
    simpa using this
  · obtain ⟨o, q1, q2, q3⟩ := posOk_spec _ 0 [] (fun i hi => by simp at hi) h3 π1 i π2 e
    exact ⟨o, q1, fun e he hb => by have := q2 e he hb; simpa using this, q3⟩
  · have hi' := (List.getElem?_eq_some_iff.1 hi).1
    have hj' := (List.getElem?_eq_some_iff.1 hj).1
    have h5 := List.all_eq_true.1 (List.all_eq_true.1 h4 i (List.mem_range.2 hi')) j (List.mem_range.2 hj')
    rw [look?_eq, look?_eq, hi, hj] at h5
    simp only [Bool.or_eq_true, Bool.not_eq_true'] at h5
    rcases h5 with ((h5 | h5) | h5) | h5
    · exact absurd (Nat.eq_of_beq_eq_true h5) hij
    · rw [hm] at h5; cases h5
    · exact .inl h5
    · exact .inr h5
  · exact ancGo_ok ops ops 0 [] (fun k => by simp) (fun k _ => rfl) (fun i j hj => by simp [getA] at hj)

/-- Who is in a closed set, has all his predecessors there; and they stand in front. -/
theorem anc_in {ops : List Oper} {anc : List (Nat × Nat)} (ha : AncOk ops anc) {J : Nat → Prop} (hJ : ∀ i o, J i → ops[i]? = some o → ∀ e ∈ o.after.toList, bindsA e = true → J e.on) : ∀ (i : Nat) (o : Oper), ops[i]? = some o → (∀ e ∈ o.after.toList, bindsA e = true → J e.on) → ∀ j, Nat.testBit (getA anc i) j = true → J j := by
  intro i
  induction i using Nat.strongRecOn with
  | _ i ih =>
    intro o ho hd j hj
    obtain ⟨o', q1, e, q2, q3, q4⟩ := ha i j hj
    rw [ho] at q1; cases q1
    rcases q4 with rfl | ⟨hlt, q4⟩
    · exact hd e q2 q3
    · obtain ⟨o2, r1, _⟩ := ha e.on j q4
      exact ih e.on hlt o2 r1 (fun e2 he2 hb2 => hJ _ _ (hd e q2 q3) r1 e2 he2 hb2) j q4
theorem anc_front {ops : List Oper} {anc : List (Nat × Nat)} {π : List Nat} (p : Plan ops anc π) {π1 π2 : List Nat} {i j : Nat} (e : π = π1 ++ i :: π2) (h : Nat.testBit (getA anc i) j = true) : j ∈ π1 := by
  obtain ⟨o, ho, hd, _⟩ := p.pos π1 i π2 e
  refine anc_in p.anc (J := fun k => k ∈ π1) (fun k ok hk hok x hx hb => ?_) i o ho hd j h
  obtain ⟨a, b, rfl⟩ := List.append_of_mem hk
  obtain ⟨o', q1, q2, _⟩ := p.pos a k (b ++ i :: π2) (by simp [e])
  rw [hok] at q1; cases q1
  exact List.mem_append_left _ (q2 x hx hb)
end Go.Proofs.Ythioccbgjkbmdaa.AM

/-
  The abstract machine, part 21f: a region in any order.
-/
set_option linter.unusedVariables false
set_option linter.unusedSimpArgs false
set_option linter.unusedSectionVars false
namespace Go.Proofs.Ythioccbgjkbmdaa.AM
open Go Go.RowKit

/-- The effects of those that have run, in the order of evaluation. -/
def sel (J : Nat → Bool) (L : List (Nat × Eff)) (S : St) : St := foldE ((L.filter fun p => J p.1).map (·.2)) S
theorem sel_nil (J : Nat → Bool) (S : St) : sel J [] S = S := rfl
theorem sel_cons (J : Nat → Bool) (p : Nat × Eff) (L : List (Nat × Eff)) (S : St) : sel J (p :: L) S = if J p.1 = true then sel J L (p.2.app S) else sel J L S := by
  unfold sel foldE
  by_cases h : J p.1 = true
  · simp [List.filter_cons, h]
  · simp [List.filter_cons, h]
theorem sel_append (J : Nat → Bool) (L1 L2 : List (Nat × Eff)) (S : St) : sel J (L1 ++ L2) S = sel J L2 (sel J L1 S) := by
  unfold sel foldE
  simp [List.filter_append, List.foldl_append]
theorem sel_eqv (J : Nat → Bool) : ∀ (L : List (Nat × Eff)) {S S' : St}, Eqv S S' → Eqv (sel J L S) (sel J L S')
  | [], S, S', h => h
  | p :: L, S, S', h => by
    rw [sel_cons, sel_cons]
    split
    · exact sel_eqv J L (h.app p.2)
    · exact sel_eqv J L h
theorem sel_congr {J J' : Nat → Bool} : ∀ (L : List (Nat × Eff)) (S : St), (∀ p ∈ L, J p.1 = J' p.1) → sel J L S = sel J' L S
  | [], S, h => rfl
  | p :: L, S, h => by
    rw [sel_cons, sel_cons, h p (by simp)]
    split
    · exact sel_congr L _ fun q hq => h q (List.mem_cons_of_mem _ hq)
    · exact sel_congr L _ fun q hq => h q (List.mem_cons_of_mem _ hq)
theorem sel_n (J : Nat → Bool) : ∀ (L : List (Nat × Eff)) (S : St), (sel J L S).n = S.n
  | [], S => rfl
  | p :: L, S => by
    rw [sel_cons]
    split
    · rw [sel_n J L, n_app]
    · exact sel_n J L S
/-- An effect that meets nothing behind it may come last. -/
theorem sel_comm (J : Nat → Bool) {dst : Option Nat} {d : D} : ∀ (L : List (Nat × Eff)) (S : St), (∀ p ∈ L, J p.1 = true → (∀ t, dst = some t → p.2.dst ≠ some t) ∧ noMent p.2.ks d = true) → Eqv (sel J L ((Eff.q dst d).app S)) ((Eff.q dst d).app (sel J L S))
  | [], S, h => Eqv.refl _
  | p :: L, S, h => by
    rw [sel_cons, sel_cons]
    split
    · rename_i hp
      obtain ⟨h1, h2⟩ := h p (by simp) hp
      exact (sel_eqv J L (comm h1 h2 S)).trans (sel_comm J L _ fun q hq => h q (List.mem_cons_of_mem _ hq))
    · exact sel_comm J L _ fun q hq => h q (List.mem_cons_of_mem _ hq)
/-- What is left out in front does not matter to a slot that it does not touch. -/
theorem sel_skip (J : Nat → Bool) {t : Nat} : ∀ (L : List (Nat × Eff)) {S S' : St}, S.n = S'.n → S.get t = S'.get t → (∀ p ∈ L, J p.1 = false → ∃ dst d, p.2 = .q dst d ∧ dst ≠ some t) → (sel J L S).get t = (sel (fun _ => true) L S').get t
  | [], S, S', hn, h, _ => h
  | p :: L, S, S', hn, h, hs => by
    rw [sel_cons, sel_cons, if_pos rfl]
    split
    · exact sel_skip J L (by rw [n_app, n_app]; exact hn) (app_get p.2 hn h) fun q hq => hs q (List.mem_cons_of_mem _ hq)
    · rename_i hp
      obtain ⟨dst, d, e, hd⟩ := hs p (by simp) (by simpa using hp)
      refine sel_skip J L (by rw [n_app]; exact hn) ?_ fun q hq => hs q (List.mem_cons_of_mem _ hq)
      rw [e]
      simp only [Eff.app, get_put]
      rw [if_neg (fun q => hd q.1)]
      exact h
theorem sel_skip_ob (J : Nat → Bool) : ∀ (L : List (Nat × Eff)) {S S' : St}, S.ob = S'.ob → (∀ p ∈ L, J p.1 = false → ∃ dst d, p.2 = .q dst d) → (sel J L S).ob = (sel (fun _ => true) L S').ob
  | [], S, S', h, _ => h
  | p :: L, S, S', h, hs => by
    rw [sel_cons, sel_cons, if_pos rfl]
    split
    · exact sel_skip_ob J L (app_ob p.2 h) fun q hq => hs q (List.mem_cons_of_mem _ hq)
    · rename_i hp
      obtain ⟨dst, d, e⟩ := hs p (by simp) (by simpa using hp)
      refine sel_skip_ob J L ?_ fun q hq => hs q (List.mem_cons_of_mem _ hq)
      rw [e, ob_app_q]; exact h
/-- What runs behind does not matter to a slot that it does not touch, nor to what it does not name. -/
theorem sel_behind (J : Nat → Bool) {t : Nat} : ∀ (L : List (Nat × Eff)) (S : St), (∀ p ∈ L, J p.1 = true → p.2.dst ≠ some t ∧ noMent p.2.ks (S.get t) = true) → (sel J L S).get t = S.get t
  | [], S, _ => rfl
  | p :: L, S, h => by
    rw [sel_cons]
    split
    · rename_i hp
      obtain ⟨h1, h2⟩ := h p (by simp) hp
      have e : (p.2.app S).get t = S.get t := by
        cases he : p.2 with
        | q dst d =>
          rw [he] at h1
          simp only [Eff.app, get_put]
          rw [if_neg (fun q => h1 q.1)]
        | l dst d ks ob =>
          rw [he] at h1 h2
          rw [get_app_l, if_neg (fun q => h1 q.1)]
          exact unDs_same ks _ h2
      rw [sel_behind J L _ (fun q hq hj => by rw [e]; exact h q (List.mem_cons_of_mem _ hq) hj), e]
    · exact sel_behind J L S fun q hq => h q (List.mem_cons_of_mem _ hq)
theorem sel_behind_ob (J : Nat → Bool) : ∀ (L : List (Nat × Eff)) (S : St), (∀ p ∈ L, J p.1 = true → ∃ dst d, p.2 = .q dst d) → (sel J L S).ob = S.ob
  | [], S, _ => rfl
  | p :: L, S, h => by
    rw [sel_cons]
    split
    · rename_i hp
      obtain ⟨dst, d, e⟩ := h p (by simp) hp
      rw [sel_behind_ob J L _ fun q hq => h q (List.mem_cons_of_mem _ hq), e, ob_app_q]
    · exact sel_behind_ob J L S fun q hq => h q (List.mem_cons_of_mem _ hq)
end Go.Proofs.Ythioccbgjkbmdaa.AM
