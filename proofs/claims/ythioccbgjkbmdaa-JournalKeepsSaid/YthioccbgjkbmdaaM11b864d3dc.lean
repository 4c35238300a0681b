/-
  The abstract machine, part 22: regions and code.
-/
import Derived.Test.YthioccbgjkbmdaaM103fb5e77f
set_option linter.unusedVariables false
set_option linter.unusedSimpArgs false
set_option linter.unusedSectionVars false
namespace Go.Proofs.Ythioccbgjkbmdaa.AM
open Go Go.RowKit

/-- What is refined of a slot: its value is known. -/
theorem Conc.refine {G : Gh} {E : Env} {ok : Oks} {S : St} {a : Act} {w : World} (c : Conc G E ok S a w) {t : Nat} {d : D} (r : RepD E ok w d (a.tmps.getD t undef)) : Conc G E ok (S.put (some t) d) a w := by
  refine { c with n := by rw [put_n]; exact c.n, slot := fun t' => ?_, obj := by rw [put_ob]; exact c.obj, apart := by rw [put_ob]; exact c.apart, reg := by rw [put_ob]; exact c.reg, hp := by rw [put_ob]; exact c.hp }
  rw [get_put]
  split
  · rename_i h; obtain ⟨h, _⟩ := h; cases h; exact r
  · exact c.slot t'

theorem After.mono {G : Gh} {K K' : St → Prop} {a : Act} {w : World} (h : ∀ S, K S → K' S) (x : After G K a w) : After G K' a w := by
  obtain ⟨E, ok, S, k, c⟩ := x; exact ⟨E, ok, S, h _ k, c⟩

theorem inv_lit {E : Env} {ok : Oks} {w : World} {b : Bool} {u : Value} (h : RepD E ok w (.lit b) u) : u = .bool b := by cases h; rfl
theorem inv_bool {E : Env} {ok : Oks} {w : World} {b : Bool} {u : Value} (h : RepD E ok w (.v (.bool b)) u) : u = .bool b := by cases h; rename_i q; cases q; rfl

def AftX (G : Gh) (Q : AExit → St → Prop) : Exit → Act → World → Prop
  | .normal, a, w => After G (Q .normal) a w
  | .exit id, a, w => After G (Q (.exit id)) a w
  | .ret, a, w => After G (Q .ret) a w
  | _, _, _ => False
theorem AftX.mono {G : Gh} {Q Q' : AExit → St → Prop} (h : ∀ e S, Q e S → Q' e S) {e : Exit} {a : Act} {w : World} (x : AftX G Q e a w) : AftX G Q' e a w := by
  cases e <;> simp only [AftX] at x ⊢ <;> first | exact x.mono (h _) | exact x

section
variable {P : Program} {R : List (Nat × AObj) → List D → Prop} (hT : tableOf P = T)
include hT

theorem w_ops {G : Gh} {E : Env} {ok : Oks} {S : St} {a : Act} {w : World} (c : Conc G E ok S a w) {o : Oper} {K : St → Prop} (h : wWp (std P R) o S K) (Q : Exit → Act → World → Prop) : o.wp P a w (fun a' w' => After G K a' w') Q := by
  unfold wWp at h
  split at h
  · obtain ⟨S', hw, h'⟩ := h
    obtain ⟨E', ok', c'⟩ := hw G E ok a w c
    exact h_sound hT c' h' Q
  · exact h_sound hT c h Q
theorem ops_sound {G : Gh} (ops : List Oper) {K : St → Prop} {Q : Exit → Act → World → Prop} (hQ : ∀ a w, After G K a w → Q .normal a w) : ∀ (l : List Oper) {E : Env} {ok : Oks} {S : St} {a : Act} {w : World}, Conc G E ok S a w → opsWp (std P R) ops l S K → wpList P ops.toArray Q l a w
  | [], E, ok, S, a, w, c, h => hQ _ _ ⟨E, ok, S, h, c⟩
  | o :: r, E, ok, S, a, w, c, h => by
    have run : ∀ {E ok S}, Conc G E ok S a w → wWp (std P R) o S (fun S => opsWp (std P R) ops r S K) → o.wp P a w (wpList P ops.toArray Q r) Q := fun c h =>
      Oper.wp_mono (fun a' w' ⟨E', ok', S', h', c'⟩ => ops_sound ops hQ r c' h') (w_ops hT c h Q)
    have skip : ∀ {E ok S}, Conc G E ok S a w → opsWp (std P R) ops r (S.put o.dst (.v (.tup []))) K → wpList P ops.toArray Q r (a.put o.dst undef) w := fun {E ok S} c h =>
      ops_sound ops hQ r (c.put o.dst (.v _ _ (Rep.tup (ok := ok) (w := w) [] [] rfl (by simp)))) h
    unfold opsWp at h
    unfold gWp at h
    unfold wpList
    split at h
    · rename_i hg
      rw [if_pos (by simp [Region.wanted, hg])]
      exact .inl (run c h)
    · rename_i j want hg
      have hw : ∀ v, yielded ops.toArray a.tmps j = v → Region.wanted o (yielded ops.toArray a.tmps) = (v == some want) := fun v hv => by simp [Region.wanted, hg, hv]
      split at h
      · rename_i p hp
        split at h
        · rename_i t ht
          obtain ⟨y1, y2⟩ := yielded_of (tmps := a.tmps) hp ht
          have hs := c.slot t
          split at h
          · rename_i b hb
            rw [hb] at hs
            have hv : a.tmps.getD t undef = .bool b := inv_lit hs
            rw [hw _ (y1 _ hv)]
            split at h
            · rename_i e
              rw [if_pos (by simpa using e)]
              exact .inl (run c h)
            · rename_i e
              rw [if_neg (by simpa using e)]
              exact skip c h
          · rename_i b hb
            rw [hb] at hs
            have hv : a.tmps.getD t undef = .bool b := inv_bool hs
            have h := h b rfl
            simp only at h
            have c' : Conc G E ok (S.put (some t) (.lit b)) a w := c.refine (by rw [hv]; exact .lit b)
            rw [hw _ (y1 _ hv)]
            split at h
            · rename_i e
              rw [if_pos (by simpa using e)]
              exact .inl (run c' h)
            · rename_i e
              rw [if_neg (by simpa using e)]
              exact skip c' h
          · rename_i hb
            rw [hb] at hs
            have hv : ∀ b, a.tmps.getD t undef ≠ .bool b := by
              intro b hv
              rw [hv] at hs
              cases hs; rename_i q; cases q
            rw [hw _ (y2 hv)]
            exact skip c h
          · exact h.elim
        · exact h.elim
      · exact h.elim

omit hT in
theorem Conc.drawn {G : Gh} {E : Env} {ok : Oks} {S : St} {a : Act} {w : World} (c : Conc G E ok S a w) (n : Nat) : Conc G E ok S a { w with drawn := n } :=
  c.step { same := ⟨fun _ _ h => h, fun _ _ _ => rfl, .refl _⟩, env := .refl _, blocks := fun _ _ _ _ _ => ⟨rfl, fun _ h => h⟩, okb := c.okb, newk := fun _ _ h => .inl h, os := rfl, tape := rfl, output := rfl, size := Nat.le_refl _, old := fun _ _ _ => rfl }
omit hT in
theorem trOk_len {ops : List Oper} {anc : List (Nat × Nat)} : ∀ (W : Wat) (π : List Nat) (S : St) (es : List Eff), TrOk P R ops anc W π S es → es.length = π.length
  | _, [], S, [], _ => rfl
  | _, i :: r, S, e :: es, h => by obtain ⟨W', _, _, h2⟩ := h; simp [trOk_len W' r _ es h2]
  | _, [], S, _ :: _, h => h.elim
  | _, _ :: _, S, [], h => h.elim
theorem condW_sound {G : Gh} {E : Env} {ok : Oks} {S : St} {a : Act} {w : World} (c : Conc G E ok S a w) {x : Operand} {K : Bool → Prop} (h : condW (std P R) (S.ev x) K) : ∃ t, a.eval x = .bool t ∧ K t := by
  have hx := ev_rep c x
  unfold condW at h
  split at h
  · rename_i hb
    rw [hb] at hx
    cases e : a.eval x <;> rw [e] at hx <;> cases hx
    rename_i b
    exact ⟨b, rfl, by cases b; exact h.2; exact h.1⟩
  · rename_i b hb
    rw [hb] at hx
    exact ⟨b, inv_lit hx, h⟩
  · rename_i b hb
    rw [hb] at hx
    exact ⟨b, inv_bool hx, h b rfl⟩
  · exact h.elim

theorem draw_sound {G : Gh} {ops : List Oper} (hck : drawOk ops = true) {K : St → Prop} {Qx : Exit → Act → World → Prop} {E : Env} {ok : Oks} {S : St} {a : Act} {w : World} (c : Conc G E ok S a w) (h : dWp (std P R) ops (ancGo 0 [] ops) [] (orderOf ops) (S.soft (preIds ops S ops)) K) (hQ : ∀ a w, After G K a w → Qx .normal a w) : wpAny P .any ops.toArray Qx ops.length (Array.replicate ops.length false) a w := by
  obtain ⟨ok', c'⟩ := c.softOb (preIds ops S ops)
  obtain ⟨es, tr, hK⟩ := d_trace hT ops _ _ _ _ _ h
  have hin : Inv G ((orderOf ops).zip es) (S.soft (preIds ops S ops)) (fun i => (Array.replicate ops.length false).getD i false) a w := by
    refine ⟨E, ok', S.soft (preIds ops S ops), ?_, ?_⟩
    · rw [sel_none]
      · exact Eqv.refl _
      · intro p _
        simp [Array.getD_eq_getD_getElem?, Array.getElem?_replicate]
        split <;> rfl
    · exact c'
  refine any_sound hT (plan_of hck) tr (Q := Qx) (fun a' w' J hJ hi => ?_) ops.length (Array.replicate ops.length false) a w (by simp) (fun i o hi => ?_) ?_ hin
  · obtain ⟨E', ok2, S', he, c2⟩ := hi
    have e1 : sel J ((orderOf ops).zip es) (S.soft (preIds ops S ops)) = foldE es (S.soft (preIds ops S ops)) := by
      rw [← sel_true _ es _ (trOk_len _ _ _ _ tr)]
      exact sel_congr _ _ fun p hp => hJ _ (List.of_mem_zip hp).1
    exact hQ _ _ ⟨E', ok2, _, hK, c2.eqv (e1 ▸ he)⟩
  · exfalso
    have : (Array.replicate ops.length false).getD i false = false := by
      simp [Array.getD_eq_getD_getElem?, Array.getElem?_replicate]
      split <;> rfl
    rw [this] at hi; cases hi
  · unfold left
    exact Nat.le_trans (List.length_filter_le _ _) (by simp)
omit hT in
theorem beq_land {a m y : Nat} (h : ((a &&& m) == y) = true) : Nat.beq (Nat.land a m) y = true := by
  have e : Nat.land a m = y := eq_of_beq h
  rw [e]; exact Nat.beq_refl y
omit hT in
theorem land_sub {a m j : Nat} (h : Nat.beq (Nat.land a m) m = true) (hj : Nat.testBit m j = true) : Nat.testBit a j = true := by
  have h1 : Nat.land a m = m := Nat.eq_of_beq_eq_true h
  rw [← h1] at hj
  have h2 : Nat.testBit (a &&& m) j = true := hj
  rw [Nat.testBit_and, Bool.and_eq_true] at h2
  exact h2.1
omit hT in
theorem land_sub2 {a m j : Nat} (h : Nat.beq (Nat.land a m) a = true) (hj : Nat.testBit a j = true) : Nat.testBit m j = true := by
  have h1 : Nat.land a m = a := Nat.eq_of_beq_eq_true h
  rw [← h1] at hj
  have h2 : Nat.testBit (a &&& m) j = true := hj
  rw [Nat.testBit_and, Bool.and_eq_true] at h2
  exact h2.2
omit hT in
theorem bit_low (i j : Nat) : Nat.testBit (bset i - 1) j = decide (j < i) := by
  unfold bset
  show Nat.testBit (1 <<< i - 1) j = _
  rw [Nat.one_shiftLeft, Nat.testBit_two_pow_sub_one]
omit hT in
theorem stripGo_spec (ops : List Oper) (anc : List (Nat × Nat)) : ∀ (l : List Oper) (i : Nat), i = l.length → (∀ j, j < i → l[j]? = ops[i - 1 - j]?) → stripGo anc i l ≤ i ∧ ∀ j o, stripGo anc i l ≤ j → j < i → ops[j]? = some o → (∀ e ∈ o.after.toList, bindsA e = true → e.on < j) ∧ ∀ x, x < j → Nat.testBit (getA anc j) x = true
  | [], i, hi, hl => by subst hi; exact ⟨by simp [stripGo], fun j o _ h => absurd h (by simp)⟩
  | o :: r, i, hi, hl => by
    obtain ⟨i, rfl⟩ : ∃ k, i = k + 1 := ⟨r.length, hi⟩
    unfold stripGo
    split
    · rename_i hb
      rw [Bool.and_eq_true] at hb
      obtain ⟨h1, h2⟩ := stripGo_spec ops anc r i (by simpa using hi) (fun j hj => by have := hl (j + 1) (by omega); rw [show i + 1 - 1 - (j + 1) = i - 1 - j from by omega] at this; simpa using this)
      refine ⟨by omega, fun j o' hj hji ho => ?_⟩
      by_cases e : j = i
      · subst e
        have h0 := hl 0 (by omega)
        rw [show j + 1 - 1 - 0 = j from by omega, ho] at h0
        simp at h0; subst h0
        refine ⟨fun e he hbe => ?_, fun x hx => land_sub (beq_land hb.1) (by rw [bit_low]; exact decide_eq_true hx)⟩
        have := land_sub2 (beq_land hb.2) (depSet_mem.2 ⟨e, he, hbe, rfl⟩)
        rw [bit_low] at this
        exact of_decide_eq_true this
      · exact h2 j o' hj (by omega) ho
    · exact ⟨Nat.le_refl _, fun j o' h1 h2 => absurd h2 (by omega)⟩
theorem drawS_sound {G : Gh} {ops : List Oper} {Q : AExit → St → Prop} {E : Env} {ok : Oks} {S : St} {a : Act} {w : World} (c : Conc G E ok S a w) (h : drawS (std P R) ops (stripAt ops) S (Q .normal)) : wpAny P .any ops.toArray (AftX G Q) ops.length (Array.replicate ops.length false) a w := by
  obtain ⟨hck, h⟩ := h
  unfold stripOk at hck
  simp only [Bool.and_eq_true] at hck
  obtain ⟨hd, hp⟩ := hck
  obtain ⟨hk, hs⟩ := stripGo_spec ops (ancGo 0 [] ops) ops.reverse ops.length (by simp) (fun j hj => by rw [List.getElem?_reverse hj])
  change stripAt ops ≤ ops.length at hk
  change ∀ j o, stripAt ops ≤ j → _ at hs
  generalize stripAt ops = k at *
  have hpre : ∀ i o, i < k → ops[i]? = some o → (∀ e ∈ o.after.toList, bindsA e = true → e.on < k) ∧ ∀ j want, o.guard = some (j, want) → j < k := by
    intro i o hi ho
    have hm : o ∈ ops.take k := List.mem_of_getElem? (i := i) (by rw [List.getElem?_take, if_pos hi]; exact ho)
    have h1 := List.all_eq_true.1 hp o hm
    rw [Bool.and_eq_true] at h1
    refine ⟨fun e he hb => ?_, fun j want hg => ?_⟩
    · have := land_sub2 h1.1 (depSet_mem.2 ⟨e, he, hb, rfl⟩)
      rw [bit_low] at this
      exact of_decide_eq_true this
    · have h2 := h1.2
      rw [hg] at h2
      exact Nat.le_of_ble_eq_true h2
  have tl : Tails ops (ancGo 0 [] ops) k := ⟨ancGo_ok ops ops 0 [] (by simp) (fun _ _ => rfl) (fun i j h => by simp [getA] at h), fun i o h1 h2 => (hs i o h1 (List.getElem?_eq_some_iff.1 h2).1 h2).1, fun i o h1 h2 => (hpre i o h1 h2).1,
    fun i j h1 h2 h3 => (hs i _ h1 h2 (List.getElem?_eq_getElem h2)).2 j h3, fun i o j want h1 h2 h3 => (hpre i o h1 h2).2 j want h3⟩
  have hlen : (ops.take k).length = k := by rw [List.length_take]; omega
  have hfr : ∀ J : Nat → Bool, (∀ i, i < k → J i = true) ∨ ∃ i o, i < k ∧ J i = false ∧ ops[i]? = some o ∧ ∀ e ∈ o.after.toList, bindsA e = true → J e.on = true := fun J => by
    have p := plan_of hd
    rcases first_ready p (J := J) [] (orderOf (ops.take k)) rfl (by simp) with q | ⟨x, i, y, o, e, h1, h2, h3⟩
    · exact .inl fun i hi => q i (p.all i (by omega))
    · have hik : i < k := by have := (List.getElem?_eq_some_iff.1 h2).1; omega
      rw [List.getElem?_take, if_pos hik] at h2
      exact .inr ⟨i, o, hik, h1, h2, h3⟩
  have h0 := draw_sound hT hd (Qx := fun e a w => match e with
    | .normal => After G (fun S' => opsWp (std P R) ops (ops.drop k) S' (Q .normal)) a w
    | e => AftX G Q e a w) c h (fun a w q => q)
  rw [hlen] at h0
  have h1 := any_prefix tl hk hfr (Q := AftX G Q) (fun e a w hne q => by cases e <;> first | exact absurd rfl hne | exact q) (fun a w ⟨E', ok', S', q, c'⟩ => ops_sound hT ops (fun a w q => q) _ c' q) k (Array.replicate ops.length false) (Array.replicate k false) a w (by simp) (by simp)
    (fun j hj => by simp [Array.getD_eq_getD_getElem?, hj, show j < ops.length from by omega]) (fun j hj => by simp [Array.getD_eq_getD_getElem?, Array.getElem?_replicate]; split <;> rfl) (fun i o hi => by
      have : (Array.replicate ops.length false).getD i false = false := by
        simp [Array.getD_eq_getD_getElem?, Array.getElem?_replicate]
        split <;> rfl
      rw [this] at hi; cases hi) h0
  rwa [show k + (ops.length - k) = ops.length from by omega] at h1

/-- **Code does what 'ewp' says.** -/
theorem w_sound (hM : P.follows .mixedOrders = true) {G : Gh} : ∀ (cd : Code) (Q : AExit → St → Prop) {E : Env} {ok : Oks} {S : St} {a : Act} {w : World}, Conc G E ok S a w → ewp (std P R) cd Q S → cd.wp P (AftX G Q) a w
  | .skip, Q, E, ok, S, a, w, c, h => wp_skip ⟨E, ok, S, h, c⟩
  | .seq x y, Q, E, ok, S, a, w, c, h => by
    refine wp_seq (wp_mono (w_sound hM x _ c h) fun e a' w' q => ?_)
    cases e with
    | normal => obtain ⟨E', ok', S', h', c'⟩ := q; exact w_sound hM y Q c' h'
    | exit id => obtain ⟨E', ok', S', h', c'⟩ := q; exact ⟨E', ok', S', h', c'⟩
    | ret => obtain ⟨E', ok', S', h', c'⟩ := q; exact ⟨E', ok', S', h', c'⟩
    | goto l => exact q
    | panic ch => exact q
    | outgrown => exact q
  | .region id ops false, Q, E, ok, S, a, w, c, h => by
    refine wp_region_list ?_
    have := ops_sound hT (G := G) ops.toList (K := Q .normal) (Q := AftX G Q) (fun a w h => h) ops.toList c h
    simpa using this
  | .cond x t e, Q, E, ok, S, a, w, c, h => by
    obtain ⟨b, hb, h⟩ := condW_sound hT c h
    refine wp_cond hb ?_
    cases b with
    | true => exact w_sound hM t Q c h
    | false => exact w_sound hM e Q c h
  | .block id x, Q, E, ok, S, a, w, c, h => by
    refine wp_block (wp_mono (w_sound hM x _ c h) fun e a' w' q => ?_)
    cases e with
    | normal => exact q
    | exit i =>
      obtain ⟨E', ok', S', h', c'⟩ := q
      simp only [Exit.inBlock]
      cases e : i == id with
      | true => rw [if_pos (by simpa using e)]; simp only [e] at h'; exact ⟨E', ok', S', h', c'⟩
      | false => rw [if_neg (by simpa using e)]; simp only [e] at h'; exact ⟨E', ok', S', h', c'⟩
    | ret => exact q
    | goto l => exact q
    | panic ch => exact q
    | outgrown => exact q
  | .loop x, Q, E, ok, S, a, w, c, h => by
    obtain ⟨ι, st, I, μ, ⟨p0, hw0, h0⟩, hb⟩ := h
    obtain ⟨E0, ok0, c0⟩ := hw0 G E ok a w c
    have key : ∀ n p E ok a w, μ p = n → I p → Conc G E ok (st p) a w → ∀ b k cs, ∃ e a' w', AftX G Q e a' w' ∧ Arrives P (lone (b.at a (.code x :: .inLoop x :: k)) cs w) b k cs e a' w' := by
      intro n
      induction n using Nat.strongRecOn with
      | _ n ih =>
        intro p E ok a w hn hI c b k cs
        obtain ⟨e, a₁, w₁, hq, harr⟩ := w_sound hM x _ c (hb p hI) b (.inLoop x :: k) cs
        cases e with
        | normal =>
          obtain ⟨E', ok', S', ⟨q, hw, hI', hlt⟩, c'⟩ := hq
          obtain ⟨E'', ok'', c''⟩ := hw G E' ok' a₁ w₁ c'
          obtain ⟨e₂, a₂, w₂, hq₂, harr₂⟩ := ih (μ q) (hn ▸ hlt) q E'' ok'' a₁ w₁ rfl hI' c'' b k cs
          exact ⟨e₂, a₂, w₂, hq₂, .of_steps (Steps.trans harr (.one step_inLoop)) harr₂⟩
        | exit id => exact ⟨.exit id, a₁, w₁, (by simpa only [AftX] using hq), .pass (x := .inLoop x) rfl (fun _ _ => .inl (by simp)) harr⟩
        | goto l => exact hq.elim
        | ret => exact ⟨.ret, a₁, w₁, (by simpa only [AftX] using hq), .pass (x := .inLoop x) rfl (fun _ _ => .inl (by simp)) harr⟩
        | panic ch => exact hq.elim
        | outgrown => exact hq.elim
    intro b k cs
    obtain ⟨e, a', w', hq, harr⟩ := key _ p0 E0 ok0 a w rfl h0 c0 b k cs
    exact ⟨e, a', w', hq, .of_steps (.one step_loop) harr⟩
  | .exit id, Q, E, ok, S, a, w, c, h => wp_exit ⟨E, ok, S, h, c⟩
  | .ret, Q, E, ok, S, a, w, c, h => wp_ret ⟨E, ok, S, h, c⟩
  | .region id ops true, Q, E, ok, S, a, w, c, h => by
    refine wp_region_any hM ?_
    have c' := c.drawn (w.drawn + 1)
    unfold ewp at h
    split at h
    · obtain ⟨hck, h⟩ := h
      have := draw_sound hT hck (Qx := AftX G Q) c' h (fun a w q => q)
      simpa using this
    · have := drawS_sound hT c' h
      simpa using this
  | .label _, _, _, _, _, _, _, _, h => h.elim
  | .goto _, _, _, _, _, _, _, _, h => h.elim
  | .rangeFunc _ _ _ _, _, _, _, _, _, _, _, h => h.elim
  | .scope _, _, _, _, _, _, _, _, h => h.elim
  | .refuse _, _, _, _, _, _, _, _, h => h.elim
end
end Go.Proofs.Ythioccbgjkbmdaa.AM

/-
  The abstract machine, part 23: a function's contract out of its body.
-/
set_option linter.unusedVariables false
set_option linter.unusedSimpArgs false
set_option linter.unusedSectionVars false
namespace Go.Proofs.Ythioccbgjkbmdaa.AM
open Go Go.RowKit
variable {P : Program} (hT : tableOf P = T)
include hT

theorem run_loadVar_of {t : Nat} {ad : Addr} {w : World} {v : Value} (h : (Instr.loadAt t (.pointer (some ad))).run P w = .ok v w) : (loadVar t ad).run P w = .ok v w := by
  simpa [Instr.loadAt, Instr.sureAddr] using h

theorem res_cell {G : Gh} {E : Env} {ok : Oks} {S : St} {a : Act} {w : World} (c : Conc G E ok S a w) {x : Tmp} {t : TypeId} {l l' : List D} (hkn : known (tyOf t).k = true)
    (h : (match S.get x with
      | .ptr id 0 => match look S.ob id with
        | some (.box cs) => match isAggT (tyOf t).k with
          | true => if (tyOf t).size = cs.length then some (.agg cs :: l) else none
          | false => match cs with
            | [d] => some (d :: l)
            | _ => none
        | some (.cbox cs) => match isAggT (tyOf t).k with
          | true => if (tyOf t).size = cs.length then some (.v (.agg cs) :: l) else none
          | false => match cs with
            | [x] => some (.v x :: l)
            | _ => none
        | some (.row 1 cs _) => match (tyOf t).k with
          | .arr n _ => if (tyOf t).size = n then if cs.length = n then if cs.all V.cell then some (.v (.agg cs) :: l) else none else none else none
          | _ => none
        | _ => none
      | _ => none) = some l') : ∃ d v, l' = d :: l ∧ (do loadVar t (← asAddr (a.tmps.getD x undef)) : Sem Value).run P w = .ok v w ∧ RepD E ok w d v := by
  have hx := c.slot x
  split at h
  · rename_i id hax
    rw [hax] at hx
    obtain ⟨b, hb, he⟩ := repD_ptr hx
    have fin : ∀ {v}, (Instr.loadAt t (.pointer (some ⟨b, 0, none⟩))).run P w = .ok v w → (do loadVar t (← asAddr (a.tmps.getD x undef)) : Sem Value).run P w = .ok v w := fun hr => by
      simp only [he, asAddr, Sem.run_bind, Sem.run_pure, Result.andThen_ok]; exact run_loadVar_of hT hr
    split at h
    · rename_i cs hl
      obtain ⟨b', e, us, h1, h2, h3, h4, h5⟩ := c.obj _ _ hl
      rw [h1] at hb; cases hb
      split at h
      · rename_i hk
        split at h
        · rename_i hsz
          cases h
          have hus : us.toList.length = cs.length := by simpa using h3
          refine ⟨_, .agg us.toList.toArray, rfl, fin (run_load_agg hT hk (by omega) (fun j hj => by
            rw [cell_of_heap h2, Nat.zero_add]; simp at hj ⊢)), .agg _ _ hus (fun u hu => ?_) (fun j hj hj' => ?_)⟩
          · obtain ⟨j, hj, rfl⟩ := List.getElem_of_mem hu
            obtain ⟨u, q1, q2, _⟩ := h5 j (by omega)
            simp at hj
            rw [Array.getElem?_eq_getElem hj] at q1
            cases q1; simpa using q2
          · obtain ⟨u, q1, _, q3⟩ := h5 j hj
            simp at hj'
            rw [Array.getElem?_eq_getElem hj'] at q1
            cases q1; simpa using q3
        · cases h
      · rename_i hk
        split at h
        · rename_i d
          cases h
          obtain ⟨u, q1, _, q3⟩ := h5 0 (by simp)
          exact ⟨_, u, rfl, fin (run_load_cell hT hk hkn (by rw [cell_of_heap h2, q1])), q3⟩
        · cases h
    · rename_i cs hl
      obtain ⟨b', h1, _, h2, h3⟩ := c.obj _ _ hl
      rw [h1] at hb; cases hb
      split at h
      · rename_i hk
        split at h
        · rename_i hsz
          cases h
          refine ⟨_, .agg ((List.range cs.length).map fun j => (w.cell? ⟨b, j, none⟩).getD undef).toArray, rfl, fin (run_load_agg hT hk (by simpa using hsz) (fun j hj => ?_)), .v _ _ (.agg _ _ (by simp) h2 (fun j hj hj' => ?_))⟩
          · simp at hj
            obtain ⟨_, u, hu, _⟩ := h3 j hj
            simp [hu]
          · obtain ⟨_, u, hu, hr⟩ := h3 j hj
            simp only [List.getElem_map, List.getElem_range, hu, Option.getD_some]
            exact hr
        · cases h
      · rename_i hk
        split at h
        · rename_i y
          cases h
          obtain ⟨_, u, hu, hr⟩ := h3 0 (by simp)
          exact ⟨_, u, rfl, fin (run_load_cell hT hk hkn hu), .v _ _ hr⟩
        · cases h
    · rename_i cs ex hl
      split at h
      · rename_i n e hk
        split at h
        · rename_i hsz
          split at h
          · rename_i hlen
            split at h
            · rename_i hcl
              cases h
              have hcl' : ∀ j (hj : j < cs.length), (cs[j]'hj).cell = true := fun j hj => List.all_eq_true.1 hcl _ (List.getElem_mem hj)
              rcases c.obj _ _ hl with ⟨_, h1, _⟩ | ⟨b', cap, us, e', h1, h2, h3, h4, h5, h6, h7, h8⟩
              · rw [h1] at hb; cases hb
              rw [h1] at hb; cases hb
              have hget : ∀ j (hj : j < cs.length), ∃ u, w.cell? ⟨b, j, none⟩ = some u ∧ Rep ok w (cs[j]'hj) u := by
                intro j hj
                have hf := cell_flat (hcl' j hj)
                obtain ⟨u, hu, hr⟩ := h7.hr j hj 0 (by rw [hf]; simp)
                simp at hu
                exact ⟨u, hu, by simpa [hf] using hr⟩
              refine ⟨_, .agg ((List.range cs.length).map fun j => (w.cell? ⟨b, j, none⟩).getD undef).toArray, rfl, fin (run_load_agg hT (by rw [hk]; rfl) (by simp; omega) (fun j hj => ?_)), .v _ _ (.agg _ _ (by simp) hcl' (fun j hj hj' => ?_))⟩
              · simp at hj
                obtain ⟨u, hu, _⟩ := hget j hj
                simp [hu]
              · obtain ⟨u, hu, hr⟩ := hget j hj
                simp only [List.getElem_map, List.getElem_range, hu, Option.getD_some]
                exact hr
            · cases h
          · cases h
        · cases h
      · cases h
    · cases h
  · cases h

theorem res_run {G : Gh} {E : Env} {ok : Oks} {S : St} {a : Act} {w : World} (c : Conc G E ok S a w) : ∀ (res : List ResultVar) (ds : List D), resultsD S res = some ds →
    ∃ us : List Value, us.length = ds.length ∧ (res.mapM (fun | .tmp t => pure (a.tmps.getD t undef) | .cell x t => do loadVar t (← asAddr (a.tmps.getD x undef))) : Sem (List Value)).run P w = Result.ok us w ∧ ∀ i (h : i < ds.length) (h' : i < us.length), RepD E ok w (ds[i]'h) (us[i]'h')
  | [], ds, h => by cases h; exact ⟨[], rfl, rfl, by simp⟩
  | .tmp t :: r, ds, h => by
    unfold resultsD at h
    split at h
    · rename_i l hl
      cases h
      obtain ⟨us, h1, h2, h3⟩ := res_run c r l hl
      refine ⟨a.tmps.getD t undef :: us, by simp [h1], by simp only [List.mapM_cons, Sem.run_bind, Sem.run_pure, Result.andThen_ok, h2], fun i hi hi' => ?_⟩
      cases i with
      | zero => exact c.slot t
      | succ i => exact h3 i (by simpa using hi) (by simpa using hi')
    · cases h
  | .cell x t :: r, ds, h => by
    unfold resultsD at h
    split at h
    · rename_i l hl
      split at h
      · cases h
      · rename_i hkn
        obtain ⟨us, h1, h2, h3⟩ := res_run c r l hl
        obtain ⟨d, v, rfl, hr, hrep⟩ := res_cell hT c (by simpa using hkn) h
        refine ⟨v :: us, by simp [h1], by simp only [List.mapM_cons]; rw [Sem.run_bind, hr, Result.andThen_ok, Sem.run_bind, h2, Result.andThen_ok, Sem.run_pure], fun i hi hi' => ?_⟩
        cases i with
        | zero => exact hrep
        | succ i => exact h3 i (by simpa using hi) (by simpa using hi')
    · cases h

/-- Results as the contract tells them. -/
theorem rs_of {G : Gh} {E : Env} {ok : Oks} {S : St} {a : Act} {w : World} (c : Conc G E ok S a w) : ∀ (seen : List Nat) (ds : List D) (rs : List Rs) (us : List Value), rsOk S.ob seen ds rs → us.length = ds.length → (∀ i (h : i < ds.length) (h' : i < us.length), RepD E ok w (ds[i]'h) (us[i]'h')) →
    ∃ gs : List (Option Nat), us.length = rs.length ∧ gs.length = rs.length ∧ (∀ i (h : i < rs.length) (h' : i < us.length) (h'' : i < gs.length), RsRep G.w0.heap.size ok w (rs[i]'h) (us[i]'h') (gs[i]'h'')) ∧
      (∀ i b : Nat, gs[i]? = some (some b) → ∃ id o, seen.contains id = false ∧ look S.ob id = some o ∧ occ E ok id o b ∧ ¬ o.isHeap) ∧ ∀ (i j b : Nat), gs[i]? = some (some b) → gs[j]? = some (some b) → i = j
  | seen, [], [], us, h, hl, hr => by
    have : us = [] := List.eq_nil_of_length_eq_zero (by simpa using hl)
    subst this
    exact ⟨[], rfl, rfl, by simp, by simp, by simp⟩
  | seen, d :: ds, .v x :: rs, us, h, hl, hr => by
    obtain ⟨h1, h2⟩ : toV S.ob d = some x ∧ rsOk S.ob seen ds rs := by
      cases d <;> exact h
    cases us with
    | nil => simp at hl
    | cons u us =>
      obtain ⟨gs, q1, q2, q3, q4, q5⟩ := rs_of c seen ds rs us h2 (by simpa using hl) (fun i hi hi' => hr (i + 1) (by simpa using hi) (by simpa using hi'))
      refine ⟨none :: gs, by simp [q1], by simp [q2], fun i hi hi' hi'' => ?_, fun i b hb => ?_, fun i j b hi hj => ?_⟩
      · cases i with
        | zero => exact ⟨rfl, toV_sound c.obj _ _ _ h1 (hr 0 (by simp) (by simp))⟩
        | succ i => exact q3 i (by simpa using hi) (by simpa using hi') (by simpa using hi'')
      · cases i with
        | zero => simp at hb
        | succ i => exact q4 i b (by simpa using hb)
      · cases i with
        | zero => simp at hi
        | succ i => cases j with
          | zero => simp at hj
          | succ j => rw [q5 i j b (by simpa using hi) (by simpa using hj)]
  | seen, .nils :: ds, .o z l :: rs, us, h, hl, hr => by
    obtain ⟨rfl, h2⟩ := h
    cases us with
    | nil => simp at hl
    | cons u us =>
      obtain ⟨gs, q1, q2, q3, q4, q5⟩ := rs_of c seen ds rs us h2 (by simpa using hl) (fun i hi hi' => hr (i + 1) (by simpa using hi) (by simpa using hi'))
      have hu := repD_nils (hr 0 (by simp) (by simp))
      simp only [List.getElem_cons_zero] at hu
      refine ⟨none :: gs, by simp [q1], by simp [q2], fun i hi hi' hi'' => ?_, fun i b hb => ?_, fun i j b hi hj => ?_⟩
      · cases i with
        | zero => exact .inl ⟨rfl, rfl, hu⟩
        | succ i => exact q3 i (by simpa using hi) (by simpa using hi') (by simpa using hi'')
      · cases i with
        | zero => simp at hb
        | succ i => exact q4 i b (by simpa using hb)
      · cases i with
        | zero => simp at hi
        | succ i => cases j with
          | zero => simp at hj
          | succ j => rw [q5 i j b (by simpa using hi) (by simpa using hj)]
  | seen, .own id :: ds, .o z l :: rs, us, h, hl, hr => by
    obtain ⟨h0, h1, h2⟩ := h
    cases us with
    | nil => simp at hl
    | cons u us =>
      obtain ⟨gs, q1, q2, q3, q4, q5⟩ := rs_of c (id :: seen) ds rs us h2 (by simpa using hl) (fun i hi hi' => hr (i + 1) (by simpa using hi) (by simpa using hi'))
      have hu := repD_own (hr 0 (by simp) (by simp))
      simp only [List.getElem_cons_zero] at hu
      refine ⟨E.blk id :: gs, by simp [q1], by simp [q2], fun i hi hi' hi'' => ?_, fun i b hb => ?_, fun i j b hi hj => ?_⟩
      · cases i with
        | zero =>
          simp only [List.getElem_cons_zero]
          rw [hu]
          rcases c.obj _ _ h1 with h3 | ⟨b, cap, cs, e, h1', h2', h3, h4, h5, h6, h7, h8⟩
          · exact .inl h3
          · refine .inr ⟨b, cap, cs, e, h1', ?_, h2', h3, h4, h5, h6, h7, fun o q => by have := (h8 o).1 q; simp at this⟩
            exact c.regL h1 (fun h => h) h1'
        | succ i => exact q3 i (by simpa using hi) (by simpa using hi') (by simpa using hi'')
      · cases i with
        | zero => exact ⟨id, _, h0, h1, (by simpa using hb : E.blk id = some b), fun h => h⟩
        | succ i =>
          obtain ⟨id', o, k1, k2, k3⟩ := q4 i b (by simpa using hb)
          exact ⟨id', o, by simp at k1 ⊢; exact k1.2, k2, k3⟩
      · have clash : ∀ k b : Nat, gs[k]? = some (some b) → E.blk id = some b → False := fun k b hk hb => by
          obtain ⟨id', o, k1, k2, k3⟩ := q4 k b hk
          exact c.apart id id' _ _ b h1 k2 (fun e => by simp [e] at k1) hb k3.1
        cases i with
        | zero => cases j with
          | zero => rfl
          | succ j => exact (clash j b (by simpa using hj) (by simpa using hi)).elim
        | succ i => cases j with
          | zero => exact (clash i b (by simpa using hi) (by simpa using hj)).elim
          | succ j => rw [q5 i j b (by simpa using hi) (by simpa using hj)]
  | seen, [], _ :: _, us, h, hl, hr => h.elim
  | seen, _ :: _, [], us, h, hl, hr => by cases seen <;> exact h.elim

theorem look_slots (xs : List V) : ∀ (k t : Nat), look (slotsOf k xs) t = if k ≤ t then (xs[t - k]?).map slotD else none := by
  induction xs with
  | nil => intro k t; simp [slotsOf, look]
  | cons x r ih =>
    intro k t
    simp only [slotsOf, look]
    by_cases h : k = t
    · subst h; simp
    · rw [if_neg h, ih]
      by_cases h2 : k ≤ t
      · rw [if_pos (by omega), if_pos h2, show t - k = (t - (k + 1)) + 1 from by omega, List.getElem?_cons_succ]
      · rw [if_neg (by omega), if_neg h2]
theorem slotD_rep {E : Env} {ok : Oks} {w : World} {x : V} {u : Value} (h : Rep ok w x u) : RepD E ok w (slotD x) u := by
  unfold slotD
  split
  · cases h; exact .nils
  · exact .v _ _ h
theorem conc_init {E : Env} {ok : Oks} {w : World} {vs : List Value} {xs : List V} {n : Nat} (hok : ∀ b o, ok b o → b < w.heap.size) (hl : vs.length = xs.length) (hn : xs.length ≤ n) (hr : ∀ i (h : i < xs.length) (h' : i < vs.length), Rep ok w (xs[i]'h) (vs[i]'h')) :
    Conc ⟨w, fun _ => False, ok, false, hok⟩ E ok (initSt n xs) { tmps := vs.toArray ++ Array.replicate (n - vs.toArray.size) undef, defers := [] } w where
  n := by
    show (vs.toArray ++ Array.replicate (n - vs.toArray.size) undef).size = n
    simp; omega
  defers := rfl
  slot t := by
    show RepD E ok w (St.get (initSt n xs) t) ((vs.toArray ++ Array.replicate (n - vs.toArray.size) undef).getD t undef)
    simp only [initSt, St.get, look_slots hT, Nat.zero_le, if_true, Nat.sub_zero]
    by_cases h : t < xs.length
    · rw [List.getElem?_eq_getElem h]
      have h' : t < vs.length := by omega
      have : (vs.toArray ++ Array.replicate (n - vs.toArray.size) undef).getD t undef = vs[t]'h' := by
        rw [Array.getD_eq_getD_getElem?, Array.getElem?_append_left (by simpa using h')]
        simp [h']
      rw [this]
      exact slotD_rep hT (hr t h h')
    · rw [List.getElem?_eq_none (by omega)]
      exact .any _
  obj id o h := by simp [initSt, look] at h
  apart i j o p b h := by simp [initSt, look] at h
  reg i o b h := by simp [initSt, look] at h
  okb := hok
  sub _ _ h := h
  env := .refl _
  envq _ := .refl _
  hp i gh pub h := by simp [initSt, look] at h
  newk _ _ h := .inl h
  os := rfl
  tape := rfl
  output := rfl
  size := Nat.le_refl _
  old _ _ _ := rfl
  keep _ _ _ := rfl

theorem FnR.of (hM : P.follows .mixedOrders = true) {f : Nat} {fn : Func} {cd : Code} {xs : List V} {rs : List Rs} (hf : P.funcs[f]? = some fn) (hb : fn.body = some cd) (hname : (fn.name == "runtime.NumGoroutine") = false) (hn : xs.length ≤ fn.ntmps) (h : bodyWp (std P (retOk rs)) cd fn.results.toList (initSt fn.ntmps xs)) : FnR P f xs rs := by
  refine ⟨⟨fn, hf, by simp [hb], hname⟩, fun w ok vs hok hl hr => ?_⟩
  have c0 := conc_init hT (E := ⟨fun _ => none, fun _ => none, fun _ => 0, fun _ => 0⟩) hok hl hn hr
  refine calls_of_wp hf hb (wp_mono (w_sound hT hM cd _ c0 h) fun e a w' q => ?_)
  have fin : After ⟨w, fun _ => False, ok, false, hok⟩ (fun S => match resultsD S fn.results.toList with
      | some l => (std P (retOk rs)).ret S.ob l
      | none => False) a w' → a.defers = [] ∧ ∃ v, (results fn a.tmps).run P w' = .ok v w' ∧ ∃ (us : List Value) (gs : List (Option Nat)) (ok' : Oks), Ending.returned v = .returned (retVal us) ∧ Below w.heap.size w w' ∧ (∀ b o, ok b o → ok' b o) ∧ EnvEq ok ok' ∧
      (∀ b o, ok' b o → ok b o ∨ (w.heap.size ≤ b ∧ b < w'.heap.size)) ∧ us.length = rs.length ∧ gs.length = rs.length ∧
      (∀ i (h : i < rs.length) (h' : i < us.length) (h'' : i < gs.length), RsRep w.heap.size ok' w' (rs[i]'h) (us[i]'h') (gs[i]'h'')) ∧
      (∀ (i j b : Nat), gs[i]? = some (some b) → gs[j]? = some (some b) → i = j) := by
    rintro ⟨E, ok1, S, hS, c⟩
    refine ⟨c.defers, ?_⟩
    split at hS
    · rename_i ds hds
      obtain ⟨us, h1, h2, h3⟩ := res_run hT c _ _ hds
      obtain ⟨ok2, k1, ke, c2⟩ := c.softOb' (retIds ds rs)
      have hs : Same ok1 ok2 w' w' := ⟨k1, fun _ _ _ => rfl, ke.ext⟩
      obtain ⟨gs, g1, g2, g3, _, g5⟩ := rs_of hT c2 [] ds rs us hS h1 (fun i hi hi' => (h3 i hi hi').mono hs)
      refine ⟨retVal us, ?_, us, gs, ok2, rfl, ?_, ?_, c2.envq rfl, ?_, g1, g2, g3, g5⟩
      · simp only [results]
        rw [Array.mapM_eq_mapM_toList, Sem.run_bind, Sem.run_map]
        refine (congrArg (fun r : Result (List Value) => Result.andThen (Result.andThen r fun l w' => Result.ok l.toArray w') fun (x : Array Value) w' => Sem.run P (pure (if h : x.size = 1 then x[0] else Value.tuple x)) w') h2).trans ?_
        simp only [Result.andThen_ok, Sem.run_pure]
        match us with
        | [] => rfl
        | [u] => rfl
        | _ :: _ :: _ => rfl
      · exact ⟨c.os, c.tape, c.output, c.size, fun b hb => c.old b hb (fun h => h)⟩
      · exact fun b o q => k1 _ _ (c.sub b o q)
      · exact fun b o q => (c2.newk b o q).imp (fun h => h) fun h => ⟨h.elim (fun h => h) False.elim, c2.okb _ _ q⟩
    · exact hS.elim
  cases e with
  | normal => exact fin q
  | ret => exact fin q
  | exit id => obtain ⟨E, ok1, S, hS, c⟩ := q; exact hS.elim
  | goto l => exact q.elim
  | panic ch => exact q.elim
  | outgrown => exact q.elim
/-- What a function that works on the common heap begins with. -/
def initStH (n : Nat) (xs : List V) (gh : GH) (pub : List Nat) : St := { n, sl := slotsOf 0 xs, ob := [(hk, .heap gh pub)] }
theorem conc_initH {E : Env} {ok : Oks} {w : World} {vs : List Value} {xs : List V} {n : Nat} {gh : GH} {pub : List Nat} (hok : ∀ b o, ok b o → b < w.heap.size) (gl : GlOk ok gh w) (hl : vs.length = xs.length) (hn : xs.length ≤ n) (hr : ∀ i (h : i < xs.length) (h' : i < vs.length), Rep ok w (xs[i]'h) (vs[i]'h')) :
    Conc ⟨w, occG ok gh, ok, true, hok⟩ E ok (initStH n xs gh pub) { tmps := vs.toArray ++ Array.replicate (n - vs.toArray.size) undef, defers := [] } w := by
  have c0 := conc_init hT (E := E) hok hl hn hr
  have one : ∀ i o, look (initStH n xs gh pub).ob i = some o → i = hk ∧ o = .heap gh pub := by
    intro i o h
    simp only [initStH, look] at h
    split at h
    · rename_i e; exact ⟨e.symm, by simpa using h.symm⟩
    · cases h
  exact {
    n := c0.n
    defers := rfl
    slot := c0.slot
    obj := fun i o h => by obtain ⟨rfl, rfl⟩ := one i o h; exact ⟨rfl, gl⟩
    apart := fun i j o p b h1 h2 hne => by obtain ⟨rfl, _⟩ := one i o h1; obtain ⟨rfl, _⟩ := one j p h2; exact absurd rfl hne
    reg := fun i o b h hb => by obtain ⟨rfl, rfl⟩ := one i o h; exact .inr ⟨trivial, hb⟩
    okb := hok
    sub := fun _ _ h => h
    env := .refl _
    envq := fun q => by cases q
    hp := fun _ _ _ _ => rfl
    newk := fun _ _ h => .inl h
    os := rfl
    tape := rfl
    output := rfl
    size := Nat.le_refl _
    old := fun _ _ _ => rfl
    keep := fun _ _ _ => rfl }
theorem softOb_heap {gh : GH} {pub : List Nat} : ∀ (ids : List Nat) (ob : List (Nat × AObj)), look ob hk = some (.heap gh pub) → look (softOb ob ids) hk = some (.heap gh pub)
  | [], ob, h => h
  | id :: r, ob, h => by
    unfold softOb
    split
    · rename_i z l hl
      refine softOb_heap r _ ?_
      simp only [look]
      split
      · rename_i e; rw [e, h] at hl; cases hl
      · rename_i e; rw [look_remOb, if_neg (Ne.symm e)]; exact h
    · rename_i l hl
      split
      · refine softOb_heap r _ ?_
        simp only [look]
        split
        · rename_i e; rw [e, h] at hl; cases hl
        · rename_i e; rw [look_remOb, if_neg (Ne.symm e)]; exact h
      · exact softOb_heap r _ h
    · exact softOb_heap r _ h
/-- What is to hold where it ends. -/
def retOkG (post : List Rs → GH → Prop) (ob : List (Nat × AObj)) (ds : List D) : Prop :=
  ∃ rs gh' pub, look ob hk = some (.heap gh' pub) ∧ rsOk (softOb ob (retIds ds rs)) [] ds rs ∧ post rs gh'
theorem rs_gs {G : Gh} {E : Env} {ok : Oks} {S : St} {a : Act} {w : World} (c : Conc G E ok S a w) {gs : List (Option Nat)} (h : ∀ i b : Nat, gs[i]? = some (some b) → ∃ id o, look S.ob id = some o ∧ ¬ o.isHeap ∧ occ E ok id o b) {gh : GH} {pub : List Nat} (hh : look S.ob hk = some (.heap gh pub)) {b : Nat} (hb : occG ok gh b) (i : Nat) : gs[i]? ≠ some (some b) := fun hi => by
  obtain ⟨id, o, h1, h2, h3⟩ := h i b hi
  have hne : id ≠ hk := fun e => by subst e; rw [hh] at h1; cases h1; exact h2 trivial
  exact c.apart id hk o _ b h1 hh hne h3 hb
theorem FnG.of (hM : P.follows .mixedOrders = true) {f : Nat} {fn : Func} {cd : Code} {xs : List V} {gh : GH} {pub : List Nat} {post : List Rs → GH → Prop} (hf : P.funcs[f]? = some fn) (hb : fn.body = some cd) (hname : (fn.name == "runtime.NumGoroutine") = false) (hn : xs.length ≤ fn.ntmps) (h : bodyWp (std P (retOkG post)) cd fn.results.toList (initStH fn.ntmps xs gh pub)) : FnG P f xs gh post := by
  refine ⟨⟨fn, hf, by simp [hb], hname⟩, fun w ok vs hok gl hl hr => ?_⟩
  have c0 := conc_initH hT (E := ⟨fun _ => none, fun _ => none, fun _ => 0, fun _ => 0⟩) (pub := pub) hok gl hl hn hr
  refine calls_of_wp hf hb (wp_mono (w_sound hT hM cd _ c0 h) fun e a w' q => ?_)
  have fin : After ⟨w, occG ok gh, ok, true, hok⟩ (fun S => match resultsD S fn.results.toList with
      | some l => (std P (retOkG post)).ret S.ob l
      | none => False) a w' → a.defers = [] ∧ ∃ v, (results fn a.tmps).run P w' = .ok v w' ∧ ∃ (us : List Value) (gs : List (Option Nat)) (ok' : Oks) (rs : List Rs) (gh' : GH), post rs gh' ∧ Ending.returned v = .returned (retVal us) ∧ Frame (occG ok gh) w w' ∧ Same ok ok' w w' ∧
      (∀ b o, ok' b o → b < w'.heap.size ∧ (ok b o ∨ occG ok gh b ∨ w.heap.size ≤ b)) ∧ us.length = rs.length ∧ gs.length = rs.length ∧
      (∀ i (h : i < rs.length) (h' : i < us.length) (h'' : i < gs.length), RsRep w.heap.size ok' w' (rs[i]'h) (us[i]'h') (gs[i]'h'')) ∧
      (∀ (i j b : Nat), gs[i]? = some (some b) → gs[j]? = some (some b) → i = j) ∧ GlOk ok' gh' w' ∧ (∀ b, occG ok' gh' b → (occG ok gh b ∨ w.heap.size ≤ b) ∧ ∀ i : Nat, gs[i]? ≠ some (some b)) := by
    rintro ⟨E, ok1, S, hS, c⟩
    refine ⟨c.defers, ?_⟩
    split at hS
    · rename_i ds hds
      obtain ⟨us, h1, h2, h3⟩ := res_run hT c _ _ hds
      obtain ⟨rs, gh', pub', hh, hrs, hpost⟩ := hS
      obtain ⟨ok2, k1, ke, c2⟩ := c.softOb' (retIds ds rs)
      have hs : Same ok1 ok2 w' w' := ⟨k1, fun _ _ _ => rfl, ke.ext⟩
      have hh2 := softOb_heap hT (retIds ds rs) S.ob hh
      obtain ⟨gs, g1, g2, g3, g4, g5⟩ := rs_of hT c2 [] ds rs us hrs h1 (fun i hi hi' => (h3 i hi hi').mono hs)
      refine ⟨retVal us, ?_, us, gs, ok2, rs, gh', hpost, rfl, ⟨c.os, c.tape, c.output, c.size, c.old⟩, ⟨c2.sub, c2.keep, c2.env⟩, ?_, g1, g2, g3, g5, (c2.obj _ _ hh2).2, fun b hb => ⟨?_, fun i => rs_gs hT c2 (fun i b hi => ?_) hh2 hb i⟩⟩
      · simp only [results]
        rw [Array.mapM_eq_mapM_toList, Sem.run_bind, Sem.run_map]
        refine (congrArg (fun r : Result (List Value) => Result.andThen (Result.andThen r fun l w' => Result.ok l.toArray w') fun (x : Array Value) w' => Sem.run P (pure (if h : x.size = 1 then x[0] else Value.tuple x)) w') h2).trans ?_
        simp only [Result.andThen_ok, Sem.run_pure]
        match us with
        | [] => rfl
        | [u] => rfl
        | _ :: _ :: _ => rfl
      · exact fun b o q => ⟨c2.okb _ _ q, (c2.newk b o q).imp (fun h => h) Or.symm⟩
      · exact ((c2.reg hk _ b hh2 hb).imp (fun h => h) And.right).symm
      · obtain ⟨id, o, _, q2, q3, q4⟩ := g4 i b hi
        exact ⟨id, o, q2, q4, q3⟩
    · exact hS.elim
  cases e with
  | normal => exact fin q
  | ret => exact fin q
  | exit id => obtain ⟨E, ok1, S, hS, c⟩ := q; exact hS.elim
  | goto l => exact q.elim
  | panic ch => exact q.elim
  | outgrown => exact q.elim
end Go.Proofs.Ythioccbgjkbmdaa.AM
namespace Go.Proofs.Ythioccbgjkbmdaa.AM
open Go Go.RowKit
theorem FnR.of' {P : Program} (hT : tableOf P = T) (hM : P.follows .mixedOrders = true) {f n : Nat} {fn : Func} {cd : Code} {res : List ResultVar} {xs : List V} {rs : List Rs} (hf : P.funcs[f]? = some fn) (hb : fn.body = some cd) (hres : fn.results.toList = res) (hn : fn.ntmps = n) (hname : (fn.name == "runtime.NumGoroutine") = false) (hle : xs.length ≤ n)
    (h : ∀ A, A = std P (retOk rs) → bodyWp A cd res (initSt n xs)) : FnR P f xs rs := by
  subst hres hn
  exact FnR.of hT hM hf hb hname hle (h _ rfl)
theorem M_ok : Try.prog.follows .mixedOrders = true := by kernel_rfl
theorem FnG.of' {P : Program} (hT : tableOf P = T) (hM : P.follows .mixedOrders = true) {f n : Nat} {fn : Func} {cd : Code} {res : List ResultVar} {xs : List V} {gh : GH} (pub : List Nat) {post : List Rs → GH → Prop} (hf : P.funcs[f]? = some fn) (hb : fn.body = some cd) (hres : fn.results.toList = res) (hn : fn.ntmps = n) (hname : (fn.name == "runtime.NumGoroutine") = false) (hle : xs.length ≤ n)
    (h : ∀ A, A = std P (retOkG post) → bodyWp A cd res (initStH n xs gh pub)) : FnG P f xs gh post := by
  subst hres hn
  exact FnG.of hT hM hf hb hname hle (h _ rfl)
end Go.Proofs.Ythioccbgjkbmdaa.AM

/-
  The abstract machine, part 24: rules for proofs with a variable 'A'; states that tell less.
-/
set_option linter.unusedVariables false
set_option linter.unusedSimpArgs false
set_option linter.unusedSectionVars false
namespace Go.Proofs.Ythioccbgjkbmdaa.AM
open Go Go.RowKit

theorem Subs.refl : ∀ xs : List V, Subs xs xs
  | [] => trivial
  | _ :: r => ⟨.inl rfl, Subs.refl r⟩
/-- What a call leads to. -/
def CallR (P : Program) (f : Nat) (xs : List V) (post : List Rs → Prop) : Prop := ∃ rs, FnR P f xs rs ∧ post rs

section
variable {A : Prim} {P : Program} {R : List (Nat × AObj) → List D → Prop} (hA : A = std P R)
include hA
theorem callI {f : Nat} {xs ys : List V} {g : Option GH} {post : List Rs → Prop} {K : List Rs → Option GH → Prop} (h : CallR P f ys post) (hK : ∀ rs, post rs → K rs none) (hs : Subs xs ys := by first | exact Subs.refl _ | simp [Subs, bytesV]) : A.call f xs g K := by
  subst hA; obtain ⟨rs, h1, h2⟩ := h; exact ⟨ys, hs, .inl ⟨rs, h1, hK rs h2⟩⟩
theorem callGI {f : Nat} {xs ys : List V} {gh : GH} {post : List Rs → GH → Prop} {K : List Rs → Option GH → Prop} (h : FnG P f ys gh post) (hK : ∀ rs gh', post rs gh' → K rs (some gh')) (hs : Subs xs ys := by first | exact Subs.refl _ | simp [Subs, bytesV]) : A.call f xs (some gh) K := by
  subst hA; exact ⟨ys, hs, .inr ⟨gh, post, rfl, h, hK⟩⟩
theorem callHI {f : Nat} {xs ys : List V} {gh : GH} {K : List Rs → Prop} (rs : List Rs) (h : FnG P f ys gh (fun rs' gh' => rs' = rs ∧ gh' = gh)) (hK : K rs) (hs : Subs xs ys := by first | exact Subs.refl _ | simp [Subs, bytesV]) : A.callH f xs gh K := by
  subst hA; exact ⟨ys, rs, hs, h, hK⟩
theorem gqI {op : Op} {xs : List V} {gh : GH} {K : V → Prop} (x : V) (h : GQ P op xs gh x) (hK : K x) : A.gq op xs gh K := by subst hA; exact ⟨x, h, hK⟩
theorem gopI {o : Oper} {xs : List V} {gh : GH} {K : V → GH → Prop} (r : V) (gh' : GH) (h : GOp P o xs gh (fun r' h' => r' = r ∧ h' = gh')) (hK : K r gh') : A.gop o xs gh K := by subst hA; exact ⟨r, gh', h, hK⟩
theorem gopNI {o : Oper} {xs : List V} {gh : GH} {K : V → GH → Prop} (Rq : V → GH → Prop) (h : GOp P o xs gh Rq) (hK : ∀ r gh', Rq r gh' → K r gh') : A.gopN o xs gh K := by subst hA; exact ⟨Rq, h, hK⟩
theorem weakA {S : St} {K : St → Prop} (S' : St) (h : Weak S S') (hK : K S') : A.weak S K := by subst hA; exact ⟨S', h, hK⟩
theorem chkI {b : Unit → Bool} {K : Unit → Prop} (h : b () = true) (hK : K ()) : A.chk b K := by subst hA; exact ⟨h, hK⟩
theorem condI {b : Bool} {K : Bool → Prop} (ht : b = true → K true) (hf : b = false → K false) : A.cond b K := by
  subst hA; intro c hc; cases c
  · exact hf hc
  · exact ht hc
theorem loopF {ι : Type} {body : (AExit → St → Prop) → St → Prop} {Q : AExit → St → Prop} {S : St} (st : ι → St) (I : ι → Prop) (μ : ι → Nat) (p0 : ι) (hw : Weak S (st p0)) (h0 : I p0) (hb : ∀ p, I p → body (fun e S' => match e with
    | .normal => ∃ q, Weak S' (st q) ∧ I q ∧ μ q < μ p
    | e => Q e S') (st p)) : A.loop body Q S := by
  subst hA; exact ⟨ι, st, I, μ, ⟨p0, hw, h0⟩, hb⟩
theorem nzI {b : Int} {K : Unit → Prop} (h : b ≠ 0) (hK : K ()) : A.nz b K := by subst hA; exact ⟨h, hK⟩
theorem nnegI {b : Int} {K : Unit → Prop} (h : 0 ≤ b) (hK : K ()) : A.nneg b K := by subst hA; exact ⟨h, hK⟩
theorem inRI {i : Int} {l : List V} {K : Unit → Prop} (h : 0 ≤ i ∧ i < l.length) (hK : K ()) : A.inR i l K := by subst hA; exact ⟨h, hK⟩
theorem catOkI {a b : List UInt8} {K : Unit → Prop} (h : a.length + b.length ≤ 9223372036854775807) (hK : K ()) : A.catOk a b K := by subst hA; exact ⟨h, hK⟩
theorem sizedI {l : List V} {z : Nat} {K : Unit → Prop} (h : ∀ x ∈ l, x.flat.length = z) (hK : K ()) : A.sized l z K := by subst hA; exact ⟨h, hK⟩
theorem roomI {a b : List V} {n : Nat} {K : Unit → Prop} (h : (a.length + b.length) * n ≤ 140737488355328 ∧ 0 < n) (hK : K ()) : A.room a b n K := by subst hA; exact ⟨h, hK⟩
theorem mkSI {n c : Int} {b : Nat} {K : Unit → Prop} (h : 0 ≤ n ∧ n ≤ c ∧ c ≤ 140737488355328 ∧ c * b ≤ 140737488355328) (hK : K ()) : A.mkS n c b K := by subst hA; exact ⟨h, hK⟩
theorem getII {k : IntKind} {l : List V} {i : Int} {K : Int → Prop} (n : Int) (h : 0 ≤ i ∧ l[i.toNat]? = some (.int k n)) (hK : K n) : A.getI k l i K := by subst hA; exact ⟨n, h, hK⟩
theorem getAI {z : Nat} {l : List V} {i : Int} {K : List V → Prop} (cs : List V) (h : 0 ≤ i ∧ l[i.toNat]? = some (.agg cs) ∧ cs.length = z) (hK : K cs) : A.getA z l i K := by subst hA; exact ⟨cs, h, hK⟩
theorem nilqI {l : List V} {K : D → Prop} (h : l ≠ []) (hK : K (.lit false)) : A.nilq l K := by subst hA; exact .inl ⟨h, hK⟩
theorem nilqU {l : List V} {K : D → Prop} (hK : K .ub) : A.nilq l K := by subst hA; exact .inr hK
theorem eqAI {t : Nat} {a b : List V} {K : Bool → Prop} (c : Bool) (h : EqOk P t a b c) (hK : K c) : A.eqA t a b K := by subst hA; exact ⟨c, h, hK⟩
theorem retI {ob : List (Nat × AObj)} {l : List D} (h : R ob l) : A.ret ob l := by subst hA; exact h
end

/-! ### States that tell less -/
theorem Weak.trans {S S' S'' : St} (h : Weak S S') (k : Weak S' S'') : Weak S S'' := fun G E ok a w c => by
  obtain ⟨E', ok', c'⟩ := h G E ok a w c
  exact k G E' ok' a w c'
def slOk (S : St) : List (Nat × D) → Prop
  | [] => True
  | (t, d) :: r => S.get t = d ∧ slOk S r
def obOk (S : St) : List (Nat × AObj) → Prop
  | [] => True
  | (t, d) :: r => look S.ob t = some d ∧ obOk S r
theorem slOk_mem {S : St} : ∀ {l : List (Nat × D)}, slOk S l → ∀ t d, look l t = some d → S.get t = d
  | [], _, t, d, h => by simp [look] at h
  | (k, x) :: r, hs, t, d, h => by
    simp only [look] at h
    split at h
    · rename_i e; subst e; cases h; exact hs.1
    · exact slOk_mem hs.2 t d h
theorem obOk_mem {S : St} : ∀ {l : List (Nat × AObj)}, obOk S l → ∀ t d, look l t = some d → look S.ob t = some d
  | [], _, t, d, h => by simp [look] at h
  | (k, x) :: r, hs, t, d, h => by
    simp only [look] at h
    split at h
    · rename_i e; subst e; cases h; exact hs.1
    · exact obOk_mem hs.2 t d h
/-- Fewer slots, fewer objects. -/
theorem weakI {S S' : St} (hn : S'.n = S.n) (hs : slOk S S'.sl) (ho : obOk S S'.ob) : Weak S S' := fun G E ok a w c => ⟨E, ok, {
  c with
  n := by rw [hn]; exact c.n
  slot := fun t => by
    unfold St.get
    cases h : look S'.sl t with
    | none => exact .any _
    | some d => rw [← slOk_mem hs t d h]; exact c.slot t
  obj := fun id o h => c.obj id o (obOk_mem ho id o h)
  apart := fun i j o p b h1 h2 => c.apart i j o p b (obOk_mem ho _ _ h1) (obOk_mem ho _ _ h2)
  reg := fun i o b h => c.reg i o b (obOk_mem ho _ _ h)
  hp := fun i gh pub h => c.hp i gh pub (obOk_mem ho _ _ h) }⟩

/-- A nil slice becomes an empty row of the call's own. -/
theorem weak_nils (S : St) (t id z : Nat) (ex : Bool) (ht : S.get t = .nils) : Weak S ((S.new id (.row z [] ex)).put (some t) (.own id)) := fun G E ok a w c => by
  have c2 := c.add (E' := E.set id none 0 0) id (.row z [] ex) (E.set_ne _ _ _ _) (.inl ⟨rfl, E.set_blk _ _ _ _, E.set_hdr _ _ _ _⟩) (fun b hb => by rw [E.set_blk] at hb; cases hb)
  refine ⟨_, ok, c2.refine (t := t) ?_⟩
  have h1 := c.slot t
  rw [ht] at h1
  rw [repD_nils h1]
  have h2 := RepD.own (E := E.set id none 0 0) (ok := ok) (w := w) id
  rw [E.set_hdr] at h2
  exact h2
end Go.Proofs.Ythioccbgjkbmdaa.AM
