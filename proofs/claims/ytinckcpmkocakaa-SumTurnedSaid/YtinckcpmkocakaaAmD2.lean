/-
  The abstract machine, part 21c: loud operations, whatever else stands in the slots.
-/
import Derived.Test.YtinckcpmkocakaaAmD
set_option linter.unusedVariables false
set_option linter.unusedSimpArgs false
set_option linter.unusedSectionVars false
namespace Go.Proofs.Ytinckcpmkocakaa.AM
open Go Go.RowKit

theorem soft_nil (S : St) : S.soft [] = S := rfl
/-- What a loud operation does, is done from every state that looks alike to it. -/
def LoudOk (P : Program) (R : List (Nat × AObj) → List D → Prop) (o : Oper) (S : St) (e : Eff) : Prop :=
  e.dst = o.dst ∧ (∀ k ∈ e.ks, k ∈ killOf o) ∧ ∀ S2 : St, S2.n = S.n → S2.ob = S.ob → (∀ x ∈ o.op.operands.toList, S2.ev x = S.ev x) → ∀ K2 : St → Prop, K2 (e.app S2) → eWp (std P R) o S2 K2
section
variable {P : Program} {R : List (Nat × AObj) → List D → Prop}

theorem storeW_eff {td : TD} {S : St} {a x : D} {K : St → Prop} (h : storeW (std P R) td S a x K) : ∃ ob', K ({ S with ob := ob' } : St) ∧ ∀ S2 : St, S2.ob = S.ob → ∀ K2 : St → Prop, K2 ({ S2 with ob := ob' } : St) → storeW (std P R) td S2 a x K2 := by
  unfold storeW at h
  split at h
  · rename_i id off
    split at h
    · rename_i l hl
      split at h
      · rename_i cs hcs
        split at h
        · rename_i h1
          split at h
          · rename_i h2
            refine ⟨_, h, fun S2 hob K2 hK => ?_⟩
            unfold storeW
            simp only [hob, hl, hcs, if_pos h1, if_pos h2]
            unfold St.setOb
            rw [hob]
            exact hK
          · exact h.elim
        · exact h.elim
      · exact h.elim
    · rename_i l hl
      split at h
      · rename_i n e l' hk
        split at h
        · rename_i h1
          split at h
          · rename_i h2
            split at h
            · rename_i h3
              split at h
              · rename_i h4
                refine ⟨_, h, fun S2 hob K2 hK => ?_⟩
                unfold storeW
                simp only [hob, hl, hk, if_pos h1, if_pos h2, if_pos h3, if_pos h4]
                unfold St.setOb
                rw [hob]
                exact hK
              · exact h.elim
            · exact h.elim
          · exact h.elim
        · exact h.elim
      · exact h.elim
    · exact h.elim
  · rename_i id z i off
    split at h
    · rename_i z' l hl
      split at h
      · rename_i hz
        split at h
        · rename_i ha
          split at h
          · rename_i h1
            split at h
            · rename_i h2
              split at h
              · rename_i cs hcs
                split at h
                · rename_i h3
                  split at h
                  · rename_i h4
                    obtain ⟨h5, h⟩ := h
                    refine ⟨_, h, fun S2 hob K2 hK => ?_⟩
                    unfold storeW
                    simp only [hob, hl, ha, hcs, if_pos hz, if_pos h1, if_pos h2, if_pos h3, if_pos h4]
                    refine ⟨h5, ?_⟩
                    unfold St.setOb
                    rw [hob]
                    exact hK
                  · exact h.elim
                · exact h.elim
              · exact h.elim
            · exact h.elim
          · exact h.elim
        · rename_i ha
          split at h
          · rename_i y hy
            split at h
            · rename_i hc
              split at h
              · rename_i h1
                split at h
                · rename_i h2
                  split at h
                  · rename_i h3
                    obtain ⟨h5, h⟩ := h
                    refine ⟨_, h, fun S2 hob K2 hK => ?_⟩
                    unfold storeW
                    simp only [hob, hl, ha, hy, hc, if_pos hz, if_pos h1, if_pos h2, if_pos h3, if_true]
                    refine ⟨h5, ?_⟩
                    unfold St.setOb
                    rw [hob]
                    exact hK
                  · exact h.elim
                · exact h.elim
              · rename_i h1
                split at h
                · rename_i h3
                  obtain ⟨cs, hcs, h⟩ := h
                  split at h
                  · rename_i h4
                    refine ⟨_, h, fun S2 hob K2 hK => ?_⟩
                    unfold storeW
                    simp only [hob, hl, ha, hy, hc, if_pos hz, if_neg h1, if_pos h3, if_true]
                    refine ⟨cs, hcs, ?_⟩
                    simp only [if_pos h4]
                    unfold St.setOb
                    rw [hob]
                    exact hK
                  · exact h.elim
                · exact h.elim
            · exact h.elim
          · exact h.elim
      · exact h.elim
    · exact h.elim
  · exact h.elim

theorem srcW_eff {z : Nat} {ob : List (Nat × AObj)} {d : D} {K : List V → Prop} (h : srcW (std P R) z ob d K) : ∃ l, K l ∧ ∀ K2 : List V → Prop, K2 l → srcW (std P R) z ob d K2 := by
  unfold srcW at h
  split at h
  · obtain ⟨h1, h⟩ := h
    exact ⟨_, h, fun K2 hK => by unfold srcW; exact ⟨h1, hK⟩⟩
  · split at h
    · rename_i h1
      exact ⟨_, h, fun K2 hK => by unfold srcW; simp only; rw [if_pos h1]; exact hK⟩
    · exact h.elim
  · exact ⟨_, h, fun K2 hK => by unfold srcW; exact hK⟩
  · split at h
    · rename_i z' l ex hr
      split at h
      · rename_i h1
        exact ⟨_, h, fun K2 hK => by unfold srcW; simp only [hr]; rw [if_pos h1]; exact hK⟩
      · exact h.elim
    · exact h.elim
  · exact h.elim

theorem new_eff (S : St) (d : Nat) (o : AObj) (x : D) : (S.new d o).put (some d) x = (Eff.l (some d) x [d] ((d, unOb d o) :: (S.kill d).ob)).app S := rfl
theorem new_eff2 {S S2 : St} (hob : S2.ob = S.ob) (d : Nat) (o : AObj) (x : D) : (S2.new d o).put (some d) x = (Eff.l (some d) x [d] ((d, unOb d o) :: (S.kill d).ob)).app S2 := by
  rw [new_eff]; simp only [St.kill, hob]

theorem loud_eff {o : Oper} {S : St} {K : St → Prop} (hl : loud o.op = true) (h : eWp (std P R) o S K) : ∃ e : Eff, K (e.app S) ∧ LoudOk P R o S e := by
  unfold loud at hl
  split at hl
  · rename_i t a x ho
    unfold eWp at h
    simp only [ho, handsOn, soft_nil] at h
    split at h
    · rename_i hk
      obtain ⟨ob', h1, h2⟩ := storeW_eff h
      refine ⟨.l o.dst (.v (.tup [])) [] ob', h1, rfl, by simp [Eff.ks], fun S2 hn hob hev K2 hK => ?_⟩
      unfold eWp
      simp only [ho, handsOn, soft_nil, hk]
      rw [hev a (by simp [ho, Op.operands]), hev x (by simp [ho, Op.operands])]
      exact h2 S2 hob _ hK
    · exact h.elim
  · rename_i t ho
    unfold eWp at h
    simp only [ho, handsOn, soft_nil] at h
    split at h
    · rename_i d hd
      split at h
      · exact h.elim
      · rename_i hkn
        split at h
        · rename_i n e hk
          split at h
          · rename_i h1
            split at h
            · rename_i l hcl
              split at h
              · rename_i h2
                split at h
                · rename_i h3
                  rw [new_eff] at h
                  refine ⟨_, h, hd.symm, by simp [Eff.ks, killOf, ho, hd], fun S2 hn hob hev K2 hK => ?_⟩
                  unfold eWp
                  simp only [ho, handsOn, soft_nil, hd, hk, hcl]
                  rw [if_neg (by rw [hk] at hkn; exact hkn), if_pos h1, if_pos h2, if_pos h3, new_eff2 hob]
                  exact hK
                · exact h.elim
              · exact h.elim
            · exact h.elim
          · exact h.elim
        · rename_i hna
          rw [new_eff] at h
          refine ⟨_, h, hd.symm, by simp [Eff.ks, killOf, ho, hd], fun S2 hn hob hev K2 hK => ?_⟩
          unfold eWp
          simp only [ho, handsOn, soft_nil, hd]
          rw [if_neg hkn, new_eff2 hob]
          exact hK
    · exact h.elim
  · rename_i t x ho
    unfold eWp at h
    simp only [ho, handsOn, soft_nil] at h
    split at h
    · rename_i d n e hd hk
      split at h
      · rename_i l hx
        split at h
        · rename_i h1
          split at h
          · rename_i h2
            rw [new_eff] at h
            refine ⟨_, h, hd.symm, by simp [Eff.ks, killOf, ho, hd], fun S2 hn hob hev K2 hK => ?_⟩
            unfold eWp
            simp only [ho, handsOn, soft_nil, hd, hk]
            rw [hev x (by simp [ho, Op.operands]), hx]
            simp only
            rw [if_pos h1, if_pos h2, new_eff2 hob]
            exact hK
          · exact h.elim
        · exact h.elim
      · exact h.elim
    · rename_i d hd hna
      split at h
      · rename_i l hx
        rw [new_eff] at h
        refine ⟨_, h, hd.symm, by simp [Eff.ks, killOf, ho, hd], fun S2 hn hob hev K2 hK => ?_⟩
        unfold eWp
        simp only [ho, handsOn, soft_nil, hd]
        rw [hev x (by simp [ho, Op.operands]), hx]
        simp only
        rw [new_eff2 hob]; exact hK
      · exact h.elim
    · exact h.elim
  · rename_i c ho
    split at hl
    · rename_i hcb
      unfold eWp at h
      simp only [ho, handsOn, hcb, soft_nil] at h
      split at h
      · rename_i d t t2 s x hd hat has
        have hs : s ∈ o.op.operands.toList := by simp [ho, Op.operands, Call.operands, hcb, has]
        have hx : x ∈ o.op.operands.toList := by simp [ho, Op.operands, Call.operands, hcb, has]
        split at h
        · rename_i e hk
          split at h
          · exact h.elim
          · rename_i hkn
            split at h
            · exact h.elim
            · rename_i hz
              split at h
              · rename_i hst
                obtain ⟨l2, h, hsrc⟩ := srcW_eff h
                split at h
                · rename_i hsv
                  obtain ⟨h1, h⟩ := h
                  rw [new_eff] at h
                  refine ⟨_, h, hd.symm, by simp [Eff.ks, killOf, ho, hd], fun S2 hn hob hev K2 hK => ?_⟩
                  unfold eWp
                  simp only [ho, handsOn, hcb, soft_nil, hd, hat, has, hk]
                  rw [if_neg hkn, if_neg hz, hev x hx, hst, hob]
                  refine hsrc _ ?_
                  rw [hev s hs, hsv]
                  exact ⟨h1, by rw [new_eff2 hob]; exact hK⟩
                · rename_i id hsv
                  split at h
                  · rename_i z l ex hr
                    split at h
                    · rename_i h2
                      obtain ⟨h1, h⟩ := h
                      rw [new_eff] at h
                      refine ⟨.l (some d) (.own d) [d] ((d, unOb d (.row z ((std P R).app l l2) ex)) :: (({ S with ob := remOb id S.ob } : St).kill d).ob), h, hd.symm, by simp [Eff.ks, killOf, ho, hd], fun S2 hn hob hev K2 hK => ?_⟩
                      unfold eWp
                      simp only [ho, handsOn, hcb, soft_nil, hd, hat, has, hk]
                      rw [if_neg hkn, if_neg hz, hev x hx, hst, hob]
                      refine hsrc _ ?_
                      rw [hev s hs, hsv]
                      simp only [hr]
                      rw [if_pos h2]
                      exact ⟨h1, hK⟩
                    · exact h.elim
                  · exact h.elim
                · exact h.elim
              · exact h.elim
        · exact h.elim
      · exact h.elim
    · cases hl
  · cases hl
end
end Go.Proofs.Ytinckcpmkocakaa.AM
