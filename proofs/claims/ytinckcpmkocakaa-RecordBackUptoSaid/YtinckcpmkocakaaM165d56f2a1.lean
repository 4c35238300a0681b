/-
  The abstract machine, part 22: regions and code.
-/
import Derived.Test.YtinckcpmkocakaaM15ef2969db
set_option linter.unusedVariables false
set_option linter.unusedSimpArgs false
set_option linter.unusedSectionVars false
namespace Go.Proofs.Ytinckcpmkocakaa.AM
open Go Go.RowKit

/-- What is refined of a slot: its value is known. -/
theorem Conc.refine {G : Gh} {E : Env} {ok : Oks} {S : St} {a : Act} {w : World} (c : Conc G E ok S a w) {t : Nat} {d : D} (r : RepD E ok w d (a.tmps.getD t undef)) : Conc G E ok (S.put (some t) d) a w := by
  refine { c with n := by rw [put_n]; exact c.n, slot := fun t' => ?_, obj := by rw [put_ob]; exact c.obj, apart := by rw [put_ob]; exact c.apart, reg := by rw [put_ob]; exact c.reg, hp := by rw [put_ob]; exact c.hp }
  rw [get_put]
  split
  · rename_i h; obtain ⟨h, _⟩ := h; cases h; exact r
  · exact c.slot t'

theorem After.mono {G : Gh} {K K' : St → Prop} {a : Act} {w : World} (h : ∀ S, K S → K' S) (x : After G K a w) : After G K' a w := by
  obtain ⟨E, ok, S, k, c⟩ := x; exact ⟨E, ok, S, h _ k, c⟩

theorem inv_lit {E : Env} {ok : Oks} {w : World} {b : Bool} {u : Value} (h : RepD E ok w (.lit b) u) : u = .bool b := by cases h; rfl
theorem inv_bool {E : Env} {ok : Oks} {w : World} {b : Bool} {u : Value} (h : RepD E ok w (.v (.bool b)) u) : u = .bool b := by cases h; rename_i q; cases q; rfl

def AftX (G : Gh) (Q : AExit → St → Prop) : Exit → Act → World → Prop
  | .normal, a, w => After G (Q .normal) a w
  | .exit id, a, w => After G (Q (.exit id)) a w
  | .ret, a, w => After G (Q .ret) a w
  | _, _, _ => False
theorem AftX.mono {G : Gh} {Q Q' : AExit → St → Prop} (h : ∀ e S, Q e S → Q' e S) {e : Exit} {a : Act} {w : World} (x : AftX G Q e a w) : AftX G Q' e a w := by
  cases e <;> simp only [AftX] at x ⊢ <;> first | exact x.mono (h _) | exact x

section
variable {P : Program} {R : List (Nat × AObj) → List D → Prop} (hT : tableOf P = T)
include hT

theorem w_ops {G : Gh} {E : Env} {ok : Oks} {S : St} {a : Act} {w : World} (c : Conc G E ok S a w) {o : Oper} {K : St → Prop} (h : wWp (std P R) o S K) (Q : Exit → Act → World → Prop) : o.wp P a w (fun a' w' => After G K a' w') Q := by
  unfold wWp at h
  split at h
  · obtain ⟨S', hw, h'⟩ := h
    obtain ⟨E', ok', c'⟩ := hw G E ok a w c
    exact h_sound hT c' h' Q
  · exact h_sound hT c h Q
theorem ops_sound {G : Gh} (ops : List Oper) {K : St → Prop} {Q : Exit → Act → World → Prop} (hQ : ∀ a w, After G K a w → Q .normal a w) : ∀ (l : List Oper) {E : Env} {ok : Oks} {S : St} {a : Act} {w : World}, Conc G E ok S a w → opsWp (std P R) ops l S K → wpList P ops.toArray Q l a w
  | [], E, ok, S, a, w, c, h => hQ _ _ ⟨E, ok, S, h, c⟩
  | o :: r, E, ok, S, a, w, c, h => by
    have run : ∀ {E ok S}, Conc G E ok S a w → wWp (std P R) o S (fun S => opsWp (std P R) ops r S K) → o.wp P a w (wpList P ops.toArray Q r) Q := fun c h =>
      Oper.wp_mono (fun a' w' ⟨E', ok', S', h', c'⟩ => ops_sound ops hQ r c' h') (w_ops hT c h Q)
    have skip : ∀ {E ok S}, Conc G E ok S a w → opsWp (std P R) ops r (S.put o.dst (.v (.tup []))) K → wpList P ops.toArray Q r (a.put o.dst undef) w := fun {E ok S} c h =>
      ops_sound ops hQ r (c.put o.dst (.v _ _ (Rep.tup (ok := ok) (w := w) [] [] rfl (by simp)))) h
    unfold opsWp at h
    unfold gWp at h
    unfold wpList
    split at h
    · rename_i hg
      rw [if_pos (by simp [Region.wanted, hg])]
      exact .inl (run c h)
    · rename_i j want hg
      have hw : ∀ v, yielded ops.toArray a.tmps j = v → Region.wanted o (yielded ops.toArray a.tmps) = (v == some want) := fun v hv => by simp [Region.wanted, hg, hv]
      split at h
      · rename_i p hp
        split at h
        · rename_i t ht
          obtain ⟨y1, y2⟩ := yielded_of (tmps := a.tmps) hp ht
          have hs := c.slot t
          split at h
          · rename_i b hb
            rw [hb] at hs
            have hv : a.tmps.getD t undef = .bool b := inv_lit hs
            rw [hw _ (y1 _ hv)]
            split at h
            · rename_i e
              rw [if_pos (by simpa using e)]
              exact .inl (run c h)
            · rename_i e
              rw [if_neg (by simpa using e)]
              exact skip c h
          · rename_i b hb
            rw [hb] at hs
            have hv : a.tmps.getD t undef = .bool b := inv_bool hs
            have h := h b rfl
            simp only at h
            have c' : Conc G E ok (S.put (some t) (.lit b)) a w := c.refine (by rw [hv]; exact .lit b)
            rw [hw _ (y1 _ hv)]
            split at h
            · rename_i e
              rw [if_pos (by simpa using e)]
              exact .inl (run c' h)
            · rename_i e
              rw [if_neg (by simpa using e)]
              exact skip c' h
          · rename_i hb
            rw [hb] at hs
            have hv : ∀ b, a.tmps.getD t undef ≠ .bool b := by
              intro b hv
              rw [hv] at hs
              cases hs; rename_i q; cases q
            rw [hw _ (y2 hv)]
            exact skip c h
          · exact h.elim
        · exact h.elim
      · exact h.elim

omit hT in
theorem Conc.drawn {G : Gh} {E : Env} {ok : Oks} {S : St} {a : Act} {w : World} (c : Conc G E ok S a w) (n : Nat) : Conc G E ok S a { w with drawn := n } :=
  c.step { same := ⟨fun _ _ h => h, fun _ _ _ => rfl, .refl _⟩, env := .refl _, blocks := fun _ _ _ _ _ => ⟨rfl, fun _ h => h⟩, okb := c.okb, newk := fun _ _ h => .inl h, os := rfl, tape := rfl, output := rfl, size := Nat.le_refl _, old := fun _ _ _ => rfl }
omit hT in
theorem trOk_len {ops : List Oper} {anc : List (Nat × Nat)} : ∀ (W : Wat) (π : List Nat) (S : St) (es : List Eff), TrOk P R ops anc W π S es → es.length = π.length
  | _, [], S, [], _ => rfl
  | _, i :: r, S, e :: es, h => by obtain ⟨W', _, _, h2⟩ := h; simp [trOk_len W' r _ es h2]
  | _, [], S, _ :: _, h => h.elim
  | _, _ :: _, S, [], h => h.elim
theorem condW_sound {G : Gh} {E : Env} {ok : Oks} {S : St} {a : Act} {w : World} (c : Conc G E ok S a w) {x : Operand} {K : Bool → Prop} (h : condW (std P R) (S.ev x) K) : ∃ t, a.eval x = .bool t ∧ K t := by
  have hx := ev_rep c x
  unfold condW at h
  split at h
  · rename_i hb
    rw [hb] at hx
    cases e : a.eval x <;> rw [e] at hx <;> cases hx
    rename_i b
    exact ⟨b, rfl, by cases b; exact h.2; exact h.1⟩
  · rename_i b hb
    rw [hb] at hx
    exact ⟨b, inv_lit hx, h⟩
  · rename_i b hb
    rw [hb] at hx
    exact ⟨b, inv_bool hx, h b rfl⟩
  · exact h.elim

theorem draw_sound {G : Gh} {ops : List Oper} (hck : drawOk ops = true) {K : St → Prop} {Qx : Exit → Act → World → Prop} {E : Env} {ok : Oks} {S : St} {a : Act} {w : World} (c : Conc G E ok S a w) (h : dWp (std P R) ops (ancGo 0 [] ops) [] (orderOf ops) (S.soft (preIds ops S ops)) K) (hQ : ∀ a w, After G K a w → Qx .normal a w) : wpAny P .any ops.toArray Qx ops.length (Array.replicate ops.length false) a w := by
  obtain ⟨ok', c'⟩ := c.softOb (preIds ops S ops)
  obtain ⟨es, tr, hK⟩ := d_trace hT ops _ _ _ _ _ h
  have hin : Inv G ((orderOf ops).zip es) (S.soft (preIds ops S ops)) (fun i => (Array.replicate ops.length false).getD i false) a w := by
    refine ⟨E, ok', S.soft (preIds ops S ops), ?_, ?_⟩
    · rw [sel_none]
      · exact Eqv.refl _
      · intro p _
        simp [Array.getD_eq_getD_getElem?, Array.getElem?_replicate]
        split <;> rfl
    · exact c'
  refine any_sound hT (plan_of hck) tr (Q := Qx) (fun a' w' J hJ hi => ?_) ops.length (Array.replicate ops.length false) a w (by simp) (fun i o hi => ?_) ?_ hin
  · obtain ⟨E', ok2, S', he, c2⟩ := hi
    have e1 : sel J ((orderOf ops).zip es) (S.soft (preIds ops S ops)) = foldE es (S.soft (preIds ops S ops)) := by
      rw [← sel_true _ es _ (trOk_len _ _ _ _ tr)]
      exact sel_congr _ _ fun p hp => hJ _ (List.of_mem_zip hp).1
    exact hQ _ _ ⟨E', ok2, _, hK, c2.eqv (e1 ▸ he)⟩
  · exfalso
    have : (Array.replicate ops.length false).getD i false = false := by
      simp [Array.getD_eq_getD_getElem?, Array.getElem?_replicate]
      split <;> rfl
    rw [this] at hi; cases hi
  · unfold left
    exact Nat.le_trans (List.length_filter_le _ _) (by simp)
omit hT in
theorem land_sub {a m j : Nat} (h : Nat.beq (Nat.land a m) m = true) (hj : Nat.testBit m j = true) : Nat.testBit a j = true := by
  have h1 : Nat.land a m = m := Nat.eq_of_beq_eq_true h
  rw [← h1] at hj
  have h2 : Nat.testBit (a &&& m) j = true := hj
  rw [Nat.testBit_and, Bool.and_eq_true] at h2
  exact h2.1
omit hT in
theorem land_sub2 {a m j : Nat} (h : Nat.beq (Nat.land a m) a = true) (hj : Nat.testBit a j = true) : Nat.testBit m j = true := by
  have h1 : Nat.land a m = a := Nat.eq_of_beq_eq_true h
  rw [← h1] at hj
  have h2 : Nat.testBit (a &&& m) j = true := hj
  rw [Nat.testBit_and, Bool.and_eq_true] at h2
  exact h2.2
omit hT in
theorem bit_low (i j : Nat) : Nat.testBit (bset i - 1) j = decide (j < i) := by
  unfold bset
  show Nat.testBit (1 <<< i - 1) j = _
  rw [Nat.one_shiftLeft, Nat.testBit_two_pow_sub_one]
omit hT in
theorem stripGo_spec (ops : List Oper) (anc : List (Nat × Nat)) : ∀ (l : List Oper) (i : Nat), i = l.length → (∀ j, j < i → l[j]? = ops[i - 1 - j]?) → stripGo anc i l ≤ i ∧ ∀ j o, stripGo anc i l ≤ j → j < i → ops[j]? = some o → (∀ e ∈ o.after.toList, bindsA e = true → e.on < j) ∧ ∀ x, x < j → Nat.testBit (getA anc j) x = true
  | [], i, hi, hl => by subst hi; exact ⟨by simp [stripGo], fun j o _ h => absurd h (by simp)⟩
  | o :: r, i, hi, hl => by
    obtain ⟨i, rfl⟩ : ∃ k, i = k + 1 := ⟨r.length, hi⟩
    unfold stripGo
    split
    · rename_i hb
      rw [Bool.and_eq_true] at hb
      obtain ⟨h1, h2⟩ := stripGo_spec ops anc r i (by simpa using hi) (fun j hj => by have := hl (j + 1) (by omega); rw [show i + 1 - 1 - (j + 1) = i - 1 - j from by omega] at this; simpa using this)
      refine ⟨by omega, fun j o' hj hji ho => ?_⟩
      by_cases e : j = i
      · subst e
        have h0 := hl 0 (by omega)
        rw [show j + 1 - 1 - 0 = j from by omega, ho] at h0
        simp at h0; subst h0
        refine ⟨fun e he hbe => ?_, fun x hx => land_sub hb.1 (by rw [bit_low]; exact decide_eq_true hx)⟩
        have := land_sub2 hb.2 (depSet_mem.2 ⟨e, he, hbe, rfl⟩)
        rw [bit_low] at this
        exact of_decide_eq_true this
      · exact h2 j o' hj (by omega) ho
    · exact ⟨Nat.le_refl _, fun j o' h1 h2 => absurd h2 (by omega)⟩
theorem drawS_sound {G : Gh} {ops : List Oper} {Q : AExit → St → Prop} {E : Env} {ok : Oks} {S : St} {a : Act} {w : World} (c : Conc G E ok S a w) (h : drawS (std P R) ops (stripAt ops) S (Q .normal)) : wpAny P .any ops.toArray (AftX G Q) ops.length (Array.replicate ops.length false) a w := by
  obtain ⟨hck, h⟩ := h
  unfold stripOk at hck
  simp only [Bool.and_eq_true] at hck
  obtain ⟨hd, hp⟩ := hck
  obtain ⟨hk, hs⟩ := stripGo_spec ops (ancGo 0 [] ops) ops.reverse ops.length (by simp) (fun j hj => by rw [List.getElem?_reverse hj])
  change stripAt ops ≤ ops.length at hk
  change ∀ j o, stripAt ops ≤ j → _ at hs
  generalize stripAt ops = k at *
  have hpre : ∀ i o, i < k → ops[i]? = some o → (∀ e ∈ o.after.toList, bindsA e = true → e.on < k) ∧ ∀ j want, o.guard = some (j, want) → j < k := by
    intro i o hi ho
    have hm : o ∈ ops.take k := List.mem_of_getElem? (i := i) (by rw [List.getElem?_take, if_pos hi]; exact ho)
    have h1 := List.all_eq_true.1 hp o hm
    rw [Bool.and_eq_true] at h1
    refine ⟨fun e he hb => ?_, fun j want hg => ?_⟩
    · have := land_sub2 h1.1 (depSet_mem.2 ⟨e, he, hb, rfl⟩)
      rw [bit_low] at this
      exact of_decide_eq_true this
    · have h2 := h1.2
      rw [hg] at h2
      exact Nat.le_of_ble_eq_true h2
  have tl : Tails ops (ancGo 0 [] ops) k := ⟨ancGo_ok ops ops 0 [] (by simp) (fun _ _ => rfl) (fun i j h => by simp [getA] at h), fun i o h1 h2 => (hs i o h1 (List.getElem?_eq_some_iff.1 h2).1 h2).1, fun i o h1 h2 => (hpre i o h1 h2).1,
    fun i j h1 h2 h3 => (hs i _ h1 h2 (List.getElem?_eq_getElem h2)).2 j h3, fun i o j want h1 h2 h3 => (hpre i o h1 h2).2 j want h3⟩
  have hlen : (ops.take k).length = k := by rw [List.length_take]; omega
  have hfr : ∀ J : Nat → Bool, (∀ i, i < k → J i = true) ∨ ∃ i o, i < k ∧ J i = false ∧ ops[i]? = some o ∧ ∀ e ∈ o.after.toList, bindsA e = true → J e.on = true := fun J => by
    have p := plan_of hd
    rcases first_ready p (J := J) [] (orderOf (ops.take k)) rfl (by simp) with q | ⟨x, i, y, o, e, h1, h2, h3⟩
    · exact .inl fun i hi => q i (p.all i (by omega))
    · have hik : i < k := by have := (List.getElem?_eq_some_iff.1 h2).1; omega
      rw [List.getElem?_take, if_pos hik] at h2
      exact .inr ⟨i, o, hik, h1, h2, h3⟩
  have h0 := draw_sound hT hd (Qx := fun e a w => match e with
    | .normal => After G (fun S' => opsWp (std P R) ops (ops.drop k) S' (Q .normal)) a w
    | e => AftX G Q e a w) c h (fun a w q => q)
  rw [hlen] at h0
  have h1 := any_prefix tl hk hfr (Q := AftX G Q) (fun e a w hne q => by cases e <;> first | exact absurd rfl hne | exact q) (fun a w ⟨E', ok', S', q, c'⟩ => ops_sound hT ops (fun a w q => q) _ c' q) k (Array.replicate ops.length false) (Array.replicate k false) a w (by simp) (by simp)
    (fun j hj => by simp [Array.getD_eq_getD_getElem?, hj, show j < ops.length from by omega]) (fun j hj => by simp [Array.getD_eq_getD_getElem?, Array.getElem?_replicate]; split <;> rfl) (fun i o hi => by
      have : (Array.replicate ops.length false).getD i false = false := by
        simp [Array.getD_eq_getD_getElem?, Array.getElem?_replicate]
        split <;> rfl
      rw [this] at hi; cases hi) h0
  rwa [show k + (ops.length - k) = ops.length from by omega] at h1

/-- **Code does what 'ewp' says.** -/
theorem w_sound (hM : P.follows .mixedOrders = true) {G : Gh} : ∀ (cd : Code) (Q : AExit → St → Prop) {E : Env} {ok : Oks} {S : St} {a : Act} {w : World}, Conc G E ok S a w → ewp (std P R) cd Q S → cd.wp P (AftX G Q) a w
  | .skip, Q, E, ok, S, a, w, c, h => wp_skip ⟨E, ok, S, h, c⟩
  | .seq x y, Q, E, ok, S, a, w, c, h => by
    refine wp_seq (wp_mono (w_sound hM x _ c h) fun e a' w' q => ?_)
    cases e with
    | normal => obtain ⟨E', ok', S', h', c'⟩ := q; exact w_sound hM y Q c' h'
    | exit id => obtain ⟨E', ok', S', h', c'⟩ := q; exact ⟨E', ok', S', h', c'⟩
    | ret => obtain ⟨E', ok', S', h', c'⟩ := q; exact ⟨E', ok', S', h', c'⟩
    | goto l => exact q
    | panic ch => exact q
    | outgrown => exact q
  | .region id ops false, Q, E, ok, S, a, w, c, h => by
    refine wp_region_list ?_
    have := ops_sound hT (G := G) ops.toList (K := Q .normal) (Q := AftX G Q) (fun a w h => h) ops.toList c h
    simpa using this
  | .cond x t e, Q, E, ok, S, a, w, c, h => by
    obtain ⟨b, hb, h⟩ := condW_sound hT c h
    refine wp_cond hb ?_
    cases b with
    | true => exact w_sound hM t Q c h
    | false => exact w_sound hM e Q c h
  | .block id x, Q, E, ok, S, a, w, c, h => by
    refine wp_block (wp_mono (w_sound hM x _ c h) fun e a' w' q => ?_)
    cases e with
    | normal => exact q
    | exit i =>
      obtain ⟨E', ok', S', h', c'⟩ := q
      simp only [Exit.inBlock]
      cases e : i == id with
      | true => rw [if_pos (by simpa using e)]; simp only [e] at h'; exact ⟨E', ok', S', h', c'⟩
      | false => rw [if_neg (by simpa using e)]; simp only [e] at h'; exact ⟨E', ok', S', h', c'⟩
    | ret => exact q
    | goto l => exact q
    | panic ch => exact q
    | outgrown => exact q
  | .loop x, Q, E, ok, S, a, w, c, h => by
    obtain ⟨ι, st, I, μ, ⟨p0, hw0, h0⟩, hb⟩ := h
    obtain ⟨E0, ok0, c0⟩ := hw0 G E ok a w c
    have key : ∀ n p E ok a w, μ p = n → I p → Conc G E ok (st p) a w → ∀ b k cs, ∃ e a' w', AftX G Q e a' w' ∧ Arrives P (lone (b.at a (.code x :: .inLoop x :: k)) cs w) b k cs e a' w' := by
      intro n
      induction n using Nat.strongRecOn with
      | _ n ih =>
        intro p E ok a w hn hI c b k cs
        obtain ⟨e, a₁, w₁, hq, harr⟩ := w_sound hM x _ c (hb p hI) b (.inLoop x :: k) cs
        cases e with
        | normal =>
          obtain ⟨E', ok', S', ⟨q, hw, hI', hlt⟩, c'⟩ := hq
          obtain ⟨E'', ok'', c''⟩ := hw G E' ok' a₁ w₁ c'
          obtain ⟨e₂, a₂, w₂, hq₂, harr₂⟩ := ih (μ q) (hn ▸ hlt) q E'' ok'' a₁ w₁ rfl hI' c'' b k cs
          exact ⟨e₂, a₂, w₂, hq₂, .of_steps (Steps.trans harr (.one step_inLoop)) harr₂⟩
        | exit id => exact ⟨.exit id, a₁, w₁, (by simpa only [AftX] using hq), .pass (x := .inLoop x) rfl (fun _ _ => .inl (by simp)) harr⟩
        | goto l => exact hq.elim
        | ret => exact ⟨.ret, a₁, w₁, (by simpa only [AftX] using hq), .pass (x := .inLoop x) rfl (fun _ _ => .inl (by simp)) harr⟩
        | panic ch => exact hq.elim
        | outgrown => exact hq.elim
    intro b k cs
    obtain ⟨e, a', w', hq, harr⟩ := key _ p0 E0 ok0 a w rfl h0 c0 b k cs
    exact ⟨e, a', w', hq, .of_steps (.one step_loop) harr⟩
  | .exit id, Q, E, ok, S, a, w, c, h => wp_exit ⟨E, ok, S, h, c⟩
  | .ret, Q, E, ok, S, a, w, c, h => wp_ret ⟨E, ok, S, h, c⟩
  | .region id ops true, Q, E, ok, S, a, w, c, h => by
    refine wp_region_any hM ?_
    have c' := c.drawn (w.drawn + 1)
    unfold ewp at h
    split at h
    · obtain ⟨hck, h⟩ := h
      have := draw_sound hT hck (Qx := AftX G Q) c' h (fun a w q => q)
      simpa using this
    · have := drawS_sound hT c' h
      simpa using this
  | .label _, _, _, _, _, _, _, _, h => h.elim
  | .goto _, _, _, _, _, _, _, _, h => h.elim
  | .rangeFunc _ _ _ _, _, _, _, _, _, _, _, h => h.elim
  | .scope _, _, _, _, _, _, _, _, h => h.elim
  | .refuse _, _, _, _, _, _, _, _, h => h.elim
end
end Go.Proofs.Ytinckcpmkocakaa.AM
