/-
  The abstract machine, part 22: regions and code.
-/
import Derived.Test.YtinckcpmkocakaaAmDB
set_option linter.unusedVariables false
set_option linter.unusedSimpArgs false
set_option linter.unusedSectionVars false
namespace Go.Proofs.Ytinckcpmkocakaa.AM
open Go Go.RowKit

/-- What is refined of a slot: its value is known. -/
theorem Conc.refine {G : Gh} {E : Env} {ok : Oks} {S : St} {a : Act} {w : World} (c : Conc G E ok S a w) {t : Nat} {d : D} (r : RepD E ok w d (a.tmps.getD t undef)) : Conc G E ok (S.put (some t) d) a w := by
  refine { c with n := by rw [put_n]; exact c.n, slot := fun t' => ?_, obj := by rw [put_ob]; exact c.obj, apart := by rw [put_ob]; exact c.apart, reg := by rw [put_ob]; exact c.reg }
  rw [get_put]
  split
  · rename_i h; obtain ⟨h, _⟩ := h; cases h; exact r
  · exact c.slot t'

theorem After.mono {G : Gh} {K K' : St → Prop} {a : Act} {w : World} (h : ∀ S, K S → K' S) (x : After G K a w) : After G K' a w := by
  obtain ⟨E, ok, S, k, c⟩ := x; exact ⟨E, ok, S, h _ k, c⟩

theorem inv_lit {E : Env} {ok : Oks} {w : World} {b : Bool} {u : Value} (h : RepD E ok w (.lit b) u) : u = .bool b := by cases h; rfl
theorem inv_bool {E : Env} {ok : Oks} {w : World} {b : Bool} {u : Value} (h : RepD E ok w (.v (.bool b)) u) : u = .bool b := by cases h; rename_i q; cases q; rfl

def AftX (G : Gh) (Q : AExit → St → Prop) : Exit → Act → World → Prop
  | .normal, a, w => After G (Q .normal) a w
  | .exit id, a, w => After G (Q (.exit id)) a w
  | .ret, a, w => After G (Q .ret) a w
  | _, _, _ => False
theorem AftX.mono {G : Gh} {Q Q' : AExit → St → Prop} (h : ∀ e S, Q e S → Q' e S) {e : Exit} {a : Act} {w : World} (x : AftX G Q e a w) : AftX G Q' e a w := by
  cases e <;> simp only [AftX] at x ⊢ <;> first | exact x.mono (h _) | exact x

section
variable {P : Program} {R : List (Nat × AObj) → List D → Prop} (hT : tableOf P = T)
include hT

theorem ops_sound {G : Gh} (ops : List Oper) {K : St → Prop} {Q : Exit → Act → World → Prop} (hQ : ∀ a w, After G K a w → Q .normal a w) : ∀ (l : List Oper) {E : Env} {ok : Oks} {S : St} {a : Act} {w : World}, Conc G E ok S a w → opsWp (std P R) ops l S K → wpList P ops.toArray Q l a w
  | [], E, ok, S, a, w, c, h => hQ _ _ ⟨E, ok, S, h, c⟩
  | o :: r, E, ok, S, a, w, c, h => by
    have run : ∀ {E ok S}, Conc G E ok S a w → eWp (std P R) o S (fun S => opsWp (std P R) ops r S K) → o.wp P a w (wpList P ops.toArray Q r) Q := fun c h =>
      Oper.wp_mono (fun a' w' ⟨E', ok', S', h', c'⟩ => ops_sound ops hQ r c' h') (e_sound hT c h Q)
    have skip : ∀ {E ok S}, Conc G E ok S a w → opsWp (std P R) ops r (S.put o.dst (.v (.tup []))) K → wpList P ops.toArray Q r (a.put o.dst undef) w := fun {E ok S} c h =>
      ops_sound ops hQ r (c.put o.dst (.v _ _ (Rep.tup (ok := ok) (w := w) [] [] rfl (by simp)))) h
    unfold opsWp at h
    unfold gWp at h
    unfold wpList
    split at h
    · rename_i hg
      rw [if_pos (by simp [Region.wanted, hg])]
      exact .inl (run c h)
    · rename_i j want hg
      have hw : ∀ v, yielded ops.toArray a.tmps j = v → Region.wanted o (yielded ops.toArray a.tmps) = (v == some want) := fun v hv => by simp [Region.wanted, hg, hv]
      split at h
      · rename_i p hp
        split at h
        · rename_i t ht
          obtain ⟨y1, y2⟩ := yielded_of (tmps := a.tmps) hp ht
          have hs := c.slot t
          split at h
          · rename_i b hb
            rw [hb] at hs
            have hv : a.tmps.getD t undef = .bool b := inv_lit hs
            rw [hw _ (y1 _ hv)]
            split at h
            · rename_i e
              rw [if_pos (by simpa using e)]
              exact .inl (run c h)
            · rename_i e
              rw [if_neg (by simpa using e)]
              exact skip c h
          · rename_i b hb
            rw [hb] at hs
            have hv : a.tmps.getD t undef = .bool b := inv_bool hs
            have h := h b rfl
            simp only at h
            have c' : Conc G E ok (S.put (some t) (.lit b)) a w := c.refine (by rw [hv]; exact .lit b)
            rw [hw _ (y1 _ hv)]
            split at h
            · rename_i e
              rw [if_pos (by simpa using e)]
              exact .inl (run c' h)
            · rename_i e
              rw [if_neg (by simpa using e)]
              exact skip c' h
          · rename_i hb
            rw [hb] at hs
            have hv : ∀ b, a.tmps.getD t undef ≠ .bool b := by
              intro b hv
              rw [hv] at hs
              cases hs; rename_i q; cases q
            rw [hw _ (y2 hv)]
            exact skip c h
          · exact h.elim
        · exact h.elim
      · exact h.elim

omit hT in
theorem Conc.drawn {G : Gh} {E : Env} {ok : Oks} {S : St} {a : Act} {w : World} (c : Conc G E ok S a w) (n : Nat) : Conc G E ok S a { w with drawn := n } :=
  c.step { same := ⟨fun _ _ h => h, fun _ _ _ => rfl⟩, blocks := fun _ _ _ _ _ => ⟨rfl, fun _ h => h⟩, okb := c.okb, newk := fun _ _ h => .inl h, os := rfl, tape := rfl, output := rfl, size := Nat.le_refl _, old := fun _ _ _ => rfl }
omit hT in
theorem trOk_len {ops : List Oper} {anc : List (Nat × Nat)} : ∀ (π : List Nat) (S : St) (es : List Eff), TrOk P R ops anc π S es → es.length = π.length
  | [], S, [], _ => rfl
  | i :: r, S, e :: es, h => by simp [trOk_len r _ es h.2]
  | [], S, _ :: _, h => h.elim
  | _ :: _, S, [], h => h.elim
theorem condW_sound {G : Gh} {E : Env} {ok : Oks} {S : St} {a : Act} {w : World} (c : Conc G E ok S a w) {x : Operand} {K : Bool → Prop} (h : condW (std P R) (S.ev x) K) : ∃ t, a.eval x = .bool t ∧ K t := by
  have hx := ev_rep c x
  unfold condW at h
  split at h
  · rename_i b hb
    rw [hb] at hx
    exact ⟨b, inv_lit hx, h⟩
  · rename_i b hb
    rw [hb] at hx
    exact ⟨b, inv_bool hx, h b rfl⟩
  · exact h.elim

/-- **Code does what 'ewp' says.** -/
theorem w_sound (hM : P.follows .mixedOrders = true) {G : Gh} : ∀ (cd : Code) (Q : AExit → St → Prop) {E : Env} {ok : Oks} {S : St} {a : Act} {w : World}, Conc G E ok S a w → ewp (std P R) cd Q S → cd.wp P (AftX G Q) a w
  | .skip, Q, E, ok, S, a, w, c, h => wp_skip ⟨E, ok, S, h, c⟩
  | .seq x y, Q, E, ok, S, a, w, c, h => by
    refine wp_seq (wp_mono (w_sound hM x _ c h) fun e a' w' q => ?_)
    cases e with
    | normal => obtain ⟨E', ok', S', h', c'⟩ := q; exact w_sound hM y Q c' h'
    | exit id => obtain ⟨E', ok', S', h', c'⟩ := q; exact ⟨E', ok', S', h', c'⟩
    | ret => obtain ⟨E', ok', S', h', c'⟩ := q; exact ⟨E', ok', S', h', c'⟩
    | goto l => exact q
    | panic ch => exact q
    | outgrown => exact q
  | .region id ops false, Q, E, ok, S, a, w, c, h => by
    refine wp_region_list ?_
    have := ops_sound hT (G := G) ops.toList (K := Q .normal) (Q := AftX G Q) (fun a w h => h) ops.toList c h
    simpa using this
  | .cond x t e, Q, E, ok, S, a, w, c, h => by
    obtain ⟨b, hb, h⟩ := condW_sound hT c h
    refine wp_cond hb ?_
    cases b with
    | true => exact w_sound hM t Q c h
    | false => exact w_sound hM e Q c h
  | .block id x, Q, E, ok, S, a, w, c, h => by
    refine wp_block (wp_mono (w_sound hM x _ c h) fun e a' w' q => ?_)
    cases e with
    | normal => exact q
    | exit i =>
      obtain ⟨E', ok', S', h', c'⟩ := q
      simp only [Exit.inBlock]
      cases e : i == id with
      | true => rw [if_pos (by simpa using e)]; simp only [e] at h'; exact ⟨E', ok', S', h', c'⟩
      | false => rw [if_neg (by simpa using e)]; simp only [e] at h'; exact ⟨E', ok', S', h', c'⟩
    | ret => exact q
    | goto l => exact q
    | panic ch => exact q
    | outgrown => exact q
  | .loop x, Q, E, ok, S, a, w, c, h => by
    obtain ⟨ι, st, I, μ, ⟨p0, hw0, h0⟩, hb⟩ := h
    obtain ⟨E0, ok0, c0⟩ := hw0 G E ok a w c
    have key : ∀ n p E ok a w, μ p = n → I p → Conc G E ok (st p) a w → ∀ b k cs, ∃ e a' w', AftX G Q e a' w' ∧ Arrives P (lone (b.at a (.code x :: .inLoop x :: k)) cs w) b k cs e a' w' := by
      intro n
      induction n using Nat.strongRecOn with
      | _ n ih =>
        intro p E ok a w hn hI c b k cs
        obtain ⟨e, a₁, w₁, hq, harr⟩ := w_sound hM x _ c (hb p hI) b (.inLoop x :: k) cs
        cases e with
        | normal =>
          obtain ⟨E', ok', S', ⟨q, hw, hI', hlt⟩, c'⟩ := hq
          obtain ⟨E'', ok'', c''⟩ := hw G E' ok' a₁ w₁ c'
          obtain ⟨e₂, a₂, w₂, hq₂, harr₂⟩ := ih (μ q) (hn ▸ hlt) q E'' ok'' a₁ w₁ rfl hI' c'' b k cs
          exact ⟨e₂, a₂, w₂, hq₂, .of_steps (Steps.trans harr (.one step_inLoop)) harr₂⟩
        | exit id => exact ⟨.exit id, a₁, w₁, (by simpa only [AftX] using hq), .pass (x := .inLoop x) rfl (fun _ _ => .inl (by simp)) harr⟩
        | goto l => exact hq.elim
        | ret => exact ⟨.ret, a₁, w₁, (by simpa only [AftX] using hq), .pass (x := .inLoop x) rfl (fun _ _ => .inl (by simp)) harr⟩
        | panic ch => exact hq.elim
        | outgrown => exact hq.elim
    intro b k cs
    obtain ⟨e, a', w', hq, harr⟩ := key _ p0 E0 ok0 a w rfl h0 c0 b k cs
    exact ⟨e, a', w', hq, .of_steps (.one step_loop) harr⟩
  | .exit id, Q, E, ok, S, a, w, c, h => wp_exit ⟨E, ok, S, h, c⟩
  | .ret, Q, E, ok, S, a, w, c, h => wp_ret ⟨E, ok, S, h, c⟩
  | .region id ops true, Q, E, ok, S, a, w, c, h => by
    obtain ⟨hck, h⟩ := h
    obtain ⟨ok', c'⟩ := c.softOb (preIds ops.toList S ops.toList)
    obtain ⟨es, tr, hK⟩ := d_trace hT ops.toList _ _ _ _ h
    refine wp_region_any hM ?_
    have hin : Inv G ((orderOf ops.toList).zip es) (S.soft (preIds ops.toList S ops.toList)) (fun i => (Array.replicate ops.size false).getD i false) a { w with drawn := w.drawn + 1 } := by
      refine ⟨E, ok', S.soft (preIds ops.toList S ops.toList), ?_, ?_⟩
      · rw [sel_none]
        · exact Eqv.refl _
        · intro p _
          simp [Array.getD_eq_getD_getElem?, Array.getElem?_replicate]
          split <;> rfl
      · exact c'.drawn _
    have := any_sound hT (plan_of hck) tr (Q := AftX G Q) (fun a' w' J hJ hi => ?_) ops.size (Array.replicate ops.size false) a { w with drawn := w.drawn + 1 } (by simp) (fun i o hi => ?_) ?_ hin
    · simpa using this
    · obtain ⟨E', ok2, S', he, c2⟩ := hi
      have e1 : sel J ((orderOf ops.toList).zip es) (S.soft (preIds ops.toList S ops.toList)) = foldE es (S.soft (preIds ops.toList S ops.toList)) := by
        rw [← sel_true _ es _ (trOk_len _ _ _ tr)]
        exact sel_congr _ _ fun p hp => hJ _ (List.of_mem_zip hp).1
      exact ⟨E', ok2, _, hK, c2.eqv (e1 ▸ he)⟩
    · exfalso
      have : (Array.replicate ops.size false).getD i false = false := by
        simp [Array.getD_eq_getD_getElem?, Array.getElem?_replicate]
        split <;> rfl
      rw [this] at hi; cases hi
    · unfold left
      exact Nat.le_trans (List.length_filter_le _ _) (by simp)
  | .label _, _, _, _, _, _, _, _, h => h.elim
  | .goto _, _, _, _, _, _, _, _, h => h.elim
  | .rangeFunc _ _ _ _, _, _, _, _, _, _, _, h => h.elim
  | .scope _, _, _, _, _, _, _, _, h => h.elim
  | .refuse _, _, _, _, _, _, _, _, h => h.elim
end
end Go.Proofs.Ytinckcpmkocakaa.AM
