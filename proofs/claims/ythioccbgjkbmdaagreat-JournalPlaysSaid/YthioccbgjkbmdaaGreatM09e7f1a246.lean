/-
 The abstract machine, part 21b: regions whose order is left open.
-/
import Derived.Test.YthioccbgjkbmdaaGreatM084d0a2978
set_option linter.unusedVariables false
set_option linter.unusedSimpArgs false
set_option linter.unusedSectionVars false
namespace Go.Proofs.YthioccbgjkbmdaaGreat.AM
open Go Go.RowKit
inductive Eff where
 | q (dst : Option Nat) (d : D)
 | l (dst : Option Nat) (d : D) (kill : List Nat) (ob : List (Nat × AObj))
def St.kills (S : St) : List Nat → St
 | [] => S
 | k :: r => (S.kill k).kills r
def Eff.app : Eff → St → St
 | .q dst d, S => S.put dst d
 | .l dst d ks ob, S => ({ S.kills ks with ob := ob } : St).put dst d
structure Eqv (S S' : St) : Prop where
 n : S.n = S'.n
 ob : S.ob = S'.ob
 get : ∀ t, S.get t = S'.get t
theorem Eqv.refl (S : St) : Eqv S S := ⟨rfl, rfl, fun _ => rfl⟩
theorem Eqv.symm {S S' : St} (h : Eqv S S') : Eqv S' S := ⟨h.n.symm, h.ob.symm, fun t => (h.get t).symm⟩
theorem Eqv.trans {S S' S'' : St} (h : Eqv S S') (k : Eqv S' S'') : Eqv S S'' := ⟨h.n.trans k.n, h.ob.trans k.ob, fun t => (h.get t).trans (k.get t)⟩
theorem Conc.eqv {G : Gh} {E : Env} {ok : Oks} {S S' : St} {a : Act} {w : World} (c : Conc G E ok S a w) (h : Eqv S S') : Conc G E ok S' a w :=
 { c with n := by rw [← h.n]; exact c.n, slot := fun t => by rw [← h.get]; exact c.slot t, obj := by rw [← h.ob]; exact c.obj, apart := by rw [← h.ob]; exact c.apart, reg := by rw [← h.ob]; exact c.reg, hp := by rw [← h.ob]; exact c.hp }
theorem Eqv.ev {S S' : St} (h : Eqv S S') (x : Operand) : S.ev x = S'.ev x := by cases x <;> first | rfl | exact h.get _
theorem Eqv.kill {S S' : St} (h : Eqv S S') (k : Nat) : Eqv (S.kill k) (S'.kill k) :=
 ⟨h.n, by simp only [St.kill, h.ob], fun t => by rw [get_kill, get_kill, h.get]⟩
theorem Eqv.put {S S' : St} (h : Eqv S S') (dst : Option Nat) (d : D) : Eqv (S.put dst d) (S'.put dst d) :=
 ⟨by rw [put_n, put_n]; exact h.n, by rw [put_ob, put_ob]; exact h.ob, fun t => by rw [get_put, get_put, h.n, h.get]⟩
def unDs : List Nat → D → D
 | [], d => d
 | k :: r, d => unDs r (unD k d)
theorem get_kills : ∀ (ks : List Nat) (S : St) (t : Nat), (S.kills ks).get t = unDs ks (S.get t)
 | [], S, t => rfl
 | k :: r, S, t => by simp only [St.kills, unDs, get_kills r, get_kill]
theorem n_kills : ∀ (ks : List Nat) (S : St), (S.kills ks).n = S.n
 | [], S => rfl
 | k :: r, S => by simp only [St.kills, n_kills r]; rfl
theorem get_app_l (dst : Option Nat) (d : D) (ks : List Nat) (ob : List (Nat × AObj)) (S : St) (t : Nat) : ((Eff.l dst d ks ob).app S).get t = if dst = some t ∧ t < S.n then d else unDs ks (S.get t) := by
 refine (get_put _ _ _ _).trans ?_
 show (if dst = some t ∧ t < (S.kills ks).n then d else (S.kills ks).get t) = _
 rw [n_kills, get_kills]
theorem n_app (e : Eff) (S : St) : (e.app S).n = S.n := by
 cases e with
 | q dst d => exact put_n _ _ _
 | l dst d ks ob => exact (put_n _ _ _).trans (n_kills ks S)
theorem ob_app_q (dst : Option Nat) (d : D) (S : St) : ((Eff.q dst d).app S).ob = S.ob := put_ob _ _ _
theorem ob_app_l (dst : Option Nat) (d : D) (ks : List Nat) (ob : List (Nat × AObj)) (S : St) : ((Eff.l dst d ks ob).app S).ob = ob := put_ob _ _ _
theorem app_get (e : Eff) {S S' : St} (hn : S.n = S'.n) {t : Nat} (h : S.get t = S'.get t) : (e.app S).get t = (e.app S').get t := by
 cases e with
 | q dst d => simp only [Eff.app, get_put, hn, h]
 | l dst d ks ob => simp only [get_app_l, hn, h]
theorem app_ob (e : Eff) {S S' : St} (h : S.ob = S'.ob) : (e.app S).ob = (e.app S').ob := by
 cases e with
 | q dst d => simp only [ob_app_q, h]
 | l dst d ks ob => simp only [ob_app_l]
theorem Eqv.app {S S' : St} (h : Eqv S S') (e : Eff) : Eqv (e.app S) (e.app S') :=
 ⟨by rw [n_app, n_app]; exact h.n, app_ob e h.ob, fun t => app_get e h.n (h.get t)⟩
def Eff.dst : Eff → Option Nat
 | .q dst _ => dst
 | .l dst _ _ _ => dst
def Eff.ks : Eff → List Nat
 | .q _ _ => []
 | .l _ _ ks _ => ks
theorem unDs_same : ∀ (ks : List Nat) (d : D), noMent ks d = true → unDs ks d = d
 | [], d, _ => rfl
 | k :: r, d, h => by
  simp only [noMent, List.all_cons, Bool.and_eq_true, Bool.not_eq_true'] at h
  have : unD k d = d := by unfold unD; rw [h.1]
  simp only [unDs, this]
  exact unDs_same r d h.2
theorem comm {dst : Option Nat} {d : D} {f : Eff} (hd : ∀ t, dst = some t → f.dst ≠ some t) (hm : noMent f.ks d = true) (S : St) : Eqv (f.app ((Eff.q dst d).app S)) ((Eff.q dst d).app (f.app S)) := by
 refine ⟨by simp only [n_app], by rw [ob_app_q]; exact app_ob f (ob_app_q _ _ _), fun t => ?_⟩
 have e1 : ((Eff.q dst d).app (f.app S)).get t = if dst = some t ∧ t < S.n then d else (f.app S).get t := by
  simp only [Eff.app.eq_1, get_put, n_app]
 rw [e1]
 by_cases ht : dst = some t ∧ t < S.n
 ·rw [if_pos ht]
  have hf := hd t ht.1
  have e2 : ((Eff.q dst d).app S).get t = d := by simp only [Eff.app, get_put]; rw [if_pos ht]
  cases f with
  | q dst' d' =>
   have : ((Eff.q dst' d').app ((Eff.q dst d).app S)).get t = ((Eff.q dst d).app S).get t := by
    simp only [Eff.app, get_put]
    have : ¬ (dst' = some t ∧ t < (S.put dst d).n) := fun h => hf h.1
    rw [if_neg this]
   rw [this, e2]
  | l dst' d' ks ob =>
   rw [get_app_l, if_neg (fun h => hf h.1), e2]
   exact unDs_same ks d hm
 ·rw [if_neg ht]
  refine app_get f (n_app _ _) ?_
  simp only [Eff.app, get_put]
  rw [if_neg ht]
open Go Go.RowKit
theorem soft_nil (S : St) : S.soft [] = S := rfl
def LoudOk (P : Program) (R : List (Nat × AObj) → List D → Prop) (o : Oper) (S : St) (e : Eff) : Prop :=
 e.dst = o.dst ∧ (∀ k ∈ e.ks, k ∈ killOf o) ∧ ∀ S2 : St, S2.n = S.n → S2.ob = S.ob → (∀ x ∈ o.op.operands.toList, S2.ev x = S.ev x) → ∀ K2 : St → Prop, K2 (e.app S2) → hWp (std P R) o S2 K2
def LoudOk0 (P : Program) (R : List (Nat × AObj) → List D → Prop) (o : Oper) (S : St) (e : Eff) : Prop :=
 e.dst = o.dst ∧ (∀ k ∈ e.ks, k ∈ killOf o) ∧ ∀ S2 : St, S2.n = S.n → S2.ob = S.ob → (∀ x ∈ o.op.operands.toList, S2.ev x = S.ev x) → ∀ K2 : St → Prop, K2 (e.app S2) → eWp (std P R) o S2 K2
section
variable {P : Program} {R : List (Nat × AObj) → List D → Prop}
theorem look_setOb (S : St) (id0 : Nat) (o : AObj) (id : Nat) (h : id ≠ id0) : look (S.setOb id0 o).ob id = look S.ob id := by
 simp only [St.setOb, look]
 rw [if_neg (Ne.symm h), look_remOb, if_neg h]
theorem storeW_eff {td : TD} {S : St} {a x : D} {K : St → Prop} (h : storeW (std P R) td S a x K) : ∃ ob', K ({ S with ob := ob' } : St) ∧ (∀ id0, ((∃ off, a = .ptr id0 off) ∨ ∃ z i off, a = .rptr id0 z i off) → ∀ id, id ≠ id0 → look ob' id = look S.ob id) ∧ ∀ S2 : St, S2.ob = S.ob → ∀ K2 : St → Prop, K2 ({ S2 with ob := ob' } : St) → storeW (std P R) td S2 a x K2 := by
 unfold storeW at h
 split at h
 ·rename_i id off
  split at h
  ·rename_i l hl
   split at h
   ·rename_i cs hcs
    split at h
    ·rename_i h1
     split at h
     ·rename_i h2
      refine ⟨_, h, fun id0 hq id hne => by rcases hq with ⟨off', e⟩ | ⟨z', i', off', e⟩ <;> cases e; exact look_setOb S _ _ id hne, fun S2 hob K2 hK => ?_⟩
      unfold storeW
      simp only [hob, hl, hcs, if_pos h1, if_pos h2]
      unfold St.setOb
      rw [hob]
      exact hK
     ·exact h.elim
    ·exact h.elim
   ·exact h.elim
  ·rename_i l hl
   split at h
   ·rename_i n e l' hk
    split at h
    ·rename_i h1
     split at h
     ·rename_i h2
      split at h
      ·rename_i h3
       split at h
       ·rename_i h4
        refine ⟨_, h, fun id0 hq id hne => by rcases hq with ⟨off', e⟩ | ⟨z', i', off', e⟩ <;> cases e; exact look_setOb S _ _ id hne, fun S2 hob K2 hK => ?_⟩
        unfold storeW
        simp only [hob, hl, hk, if_pos h1, if_pos h2, if_pos h3, if_pos h4]
        unfold St.setOb
        rw [hob]
        exact hK
       ·exact h.elim
      ·exact h.elim
     ·exact h.elim
    ·exact h.elim
   ·exact h.elim
  ·exact h.elim
 ·rename_i id z i off
  split at h
  ·rename_i z' l hl
   split at h
   ·rename_i hz
    split at h
    ·rename_i ha
     split at h
     ·rename_i h1
      split at h
      ·rename_i h2
       split at h
       ·rename_i cs hcs
        split at h
        ·rename_i h3
         split at h
         ·rename_i h4
          obtain ⟨h5, h⟩ := h
          refine ⟨_, h, fun id0 hq id hne => by rcases hq with ⟨off', e⟩ | ⟨z', i', off', e⟩ <;> cases e; exact look_setOb S _ _ id hne, fun S2 hob K2 hK => ?_⟩
          unfold storeW
          simp only [hob, hl, ha, hcs, if_pos hz, if_pos h1, if_pos h2, if_pos h3, if_pos h4]
          refine ⟨h5, ?_⟩
          unfold St.setOb
          rw [hob]
          exact hK
         ·exact h.elim
        ·exact h.elim
       ·exact h.elim
      ·exact h.elim
     ·exact h.elim
    ·rename_i ha
     split at h
     ·rename_i y hy
      split at h
      ·rename_i hc
       split at h
       ·rename_i h1
        split at h
        ·rename_i h2
         split at h
         ·rename_i h3
          obtain ⟨h5, h⟩ := h
          refine ⟨_, h, fun id0 hq id hne => by rcases hq with ⟨off', e⟩ | ⟨z', i', off', e⟩ <;> cases e; exact look_setOb S _ _ id hne, fun S2 hob K2 hK => ?_⟩
          unfold storeW
          simp only [hob, hl, ha, hy, hc, if_pos hz, if_pos h1, if_pos h2, if_pos h3, if_true]
          refine ⟨h5, ?_⟩
          unfold St.setOb
          rw [hob]
          exact hK
         ·exact h.elim
        ·exact h.elim
       ·rename_i h1
        split at h
        ·rename_i h3
         obtain ⟨cs, hcs, h⟩ := h
         split at h
         ·rename_i h4
          refine ⟨_, h, fun id0 hq id hne => by rcases hq with ⟨off', e⟩ | ⟨z', i', off', e⟩ <;> cases e; exact look_setOb S _ _ id hne, fun S2 hob K2 hK => ?_⟩
          unfold storeW
          simp only [hob, hl, ha, hy, hc, if_pos hz, if_neg h1, if_pos h3, if_true]
          refine ⟨cs, hcs, ?_⟩
          simp only [if_pos h4]
          unfold St.setOb
          rw [hob]
          exact hK
         ·exact h.elim
        ·exact h.elim
      ·exact h.elim
     ·exact h.elim
   ·exact h.elim
  ·exact h.elim
 ·exact h.elim
theorem srcW_eff {z : Nat} {ob : List (Nat × AObj)} {d : D} {K : List V → Prop} (h : srcW (std P R) z ob d K) : ∃ l, K l ∧ ∀ K2 : List V → Prop, K2 l → srcW (std P R) z ob d K2 := by
 unfold srcW at h
 split at h
 ·obtain ⟨h1, h⟩ := h
  exact ⟨_, h, fun K2 hK => by unfold srcW; exact ⟨h1, hK⟩⟩
 ·split at h
  ·rename_i h1
   exact ⟨_, h, fun K2 hK => by unfold srcW; simp only; rw [if_pos h1]; exact hK⟩
  ·exact h.elim
 ·exact ⟨_, h, fun K2 hK => by unfold srcW; exact hK⟩
 ·exact ⟨_, h, fun K2 hK => by unfold srcW; exact hK⟩
 ·split at h
  ·rename_i z' l ex hr
   split at h
   ·rename_i h1
    exact ⟨_, h, fun K2 hK => by unfold srcW; simp only [hr]; rw [if_pos h1]; exact hK⟩
   ·exact h.elim
  ·exact h.elim
 ·split at h
  ·rename_i gh pub hp
   obtain ⟨l, h1, h⟩ := h
   exact ⟨_, h, fun K2 hK => by unfold srcW; simp only [hp]; exact ⟨l, h1, hK⟩⟩
  ·exact h.elim
 ·exact h.elim
theorem new_eff (S : St) (d : Nat) (o : AObj) (x : D) : (S.new d o).put (some d) x = (Eff.l (some d) x [d] ((d, unOb d o) :: (S.kill d).ob)).app S := rfl
theorem new_eff2 {S S2 : St} (hob : S2.ob = S.ob) (d : Nat) (o : AObj) (x : D) : (S2.new d o).put (some d) x = (Eff.l (some d) x [d] ((d, unOb d o) :: (S.kill d).ob)).app S2 := by
 rw [new_eff]; simp only [St.kill, hob]
def TouchOk (o : Oper) (S : St) (e : Eff) : Prop := ∀ Ts, touchOf S o = some Ts → ∀ id, id ∉ Ts → look (e.app S).ob id = look S.ob id
theorem softOb_other (id : Nat) : ∀ (ids : List Nat) (ob : List (Nat × AObj)), id ∉ ids → look (softOb ob ids) id = look ob id
 | [], ob, _ => rfl
 | k :: r, ob, h => by
  have h1 : id ≠ k := fun e => h (by simp [e])
  have h2 : id ∉ r := fun e => h (by simp [e])
  unfold softOb
  split
  ·rw [softOb_other id r _ h2]
   simp only [look]; rw [if_neg (Ne.symm h1), look_remOb, if_neg h1]
  ·split
   ·rw [softOb_other id r _ h2]
    simp only [look]; rw [if_neg (Ne.symm h1), look_remOb, if_neg h1]
   ·exact softOb_other id r _ h2
  ·exact softOb_other id r _ h2
theorem quiet_un {ks : List Nat} {o : AObj} (h : quietOb ks o = true) {k : Nat} (hk : k ∈ ks) : unOb k o = o := by
 cases o with
 | box l =>
  have : l.map (unD k) = l := (List.map_congr_left (g := id) fun d hd => by
   have h1 := List.all_eq_true.1 h d hd
   unfold noMent at h1
   have h2 := List.all_eq_true.1 h1 k hk
   unfold unD
   rw [show mentions k d = false from by simpa using h2]; rfl).trans (List.map_id l)
  simp only [unOb, this]
 | _ => rfl
theorem look_mem : ∀ {l : List (Nat × AObj)} {j : Nat} {o : AObj}, look l j = some o → ∃ p ∈ l, p.2 = o
 | [], _, _, h => by simp [look] at h
 | (k, x) :: r, j, o, h => by
  simp only [look] at h
  split at h
  ·exact ⟨(k, x), by simp, by simpa using h⟩
  ·obtain ⟨p, h1, h2⟩ := look_mem h
   exact ⟨p, List.mem_cons_of_mem _ h1, h2⟩
theorem touch_none {o : Oper} {S : St} {e : Eff} (h : ∀ t a x, o.op ≠ .store t a x) (h2 : ∀ c, o.op ≠ .call c := by intro c h; simp_all) (h3 : ∀ t n ps, o.op ≠ .buildSlice t n ps := by intro t n ps h; simp_all) : TouchOk o S e := by
 intro Ts ht
 unfold touchOf at ht
 split at ht
 ·rename_i t a x ho; exact absurd ho (h t a x)
 ·rename_i c ho; exact absurd ho (h2 c)
 ·rename_i t n ps ho; exact absurd ho (h3 t n ps)
 ·cases ht
theorem all_remOb {f : Nat × AObj → Bool} (id : Nat) : ∀ {ob : List (Nat × AObj)}, ob.all f = true → (remOb id ob).all f = true
 | [], _ => rfl
 | (k, o) :: r, h => by
  rw [List.all_cons, Bool.and_eq_true] at h
  unfold remOb
  split
  ·exact all_remOb id h.2
  ·rw [List.all_cons, h.1, all_remOb id h.2]; rfl
theorem look_new {S : St} {d : Nat} {o : AObj} (hq : (S.ob.all fun p => quietOb [d] p.2) = true) {j : Nat} (hj : j ≠ d) : look ((d, o) :: (S.kill d).ob) j = look S.ob j := by
 simp only [look]; rw [if_neg (Ne.symm hj), look_kill, if_neg hj]
 cases h : look S.ob j with
 | none => rfl
 | some x =>
  obtain ⟨p, h1, rfl⟩ := look_mem h
  rw [Option.map_some, quiet_un (List.all_eq_true.1 hq p h1) (List.mem_singleton.2 rfl)]
theorem newTouch_some {S : St} {o : Oper} {ids Ts : List Nat} (h : newTouch S o ids = some Ts) {d : Nat} (hd : o.dst = some d) : (S.ob.all fun p => quietOb [d] p.2) = true ∧ Ts = d :: ids := by
 unfold newTouch at h
 rw [hd] at h
 split at h
 ·split at h
  ·rename_i d2 e; cases e
   split at h
   ·rename_i hq; cases h; exact ⟨hq, rfl⟩
   ·cases h
  ·cases h
 ·cases h
theorem loud_eff0 {o : Oper} {S : St} {K : St → Prop} (hl : loud o.op = true) (hv : ∀ c f, o.op = .call c → c.callee ≠ .value f) (h0 : gTouch S o = 0) (h : eWp (std P R) o S K) : ∃ e : Eff, K (e.app S) ∧ LoudOk0 P R o S e ∧ TouchOk o S e := by
 unfold loud at hl
 split at hl
 ·rename_i t a x ho
  unfold eWp at h
  simp only [ho, handsOn, soft_nil] at h
  split at h
  ·rename_i hk
   obtain ⟨ob', h1, ht, h2⟩ := storeW_eff h
   refine ⟨.l o.dst (.v (.tup [])) [] ob', h1, ⟨rfl, by simp [Eff.ks], fun S2 hn hob hev K2 hK => ?_⟩, fun Ts hT id hid => ?_⟩
   ·unfold eWp
    simp only [ho, handsOn, soft_nil, hk]
    rw [hev a (by simp [ho, Op.operands]), hev x (by simp [ho, Op.operands])]
    exact h2 S2 hob _ hK
   ·rw [ob_app_l]
    have hg : isGp (S.ev a) = false := by
     unfold gTouch at h0
     simp only [ho] at h0
     cases hb : isGp (S.ev a) with
     | false => rfl
     | true => rw [hb] at h0; cases h0
    unfold touchOf at hT
    simp only [ho] at hT
    split at hT
    ·rename_i id0 off he; cases hT
     exact ht id0 (.inl ⟨off, he⟩) id (by simpa using hid)
    ·rename_i id0 z i off he; cases hT
     exact ht id0 (.inr ⟨z, i, off, he⟩) id (by simpa using hid)
    ·rename_i he; rw [he] at hg; cases hg
    ·rename_i he; rw [he] at hg; cases hg
    ·cases hT
  ·exact h.elim
 ·rename_i t ho
  unfold eWp at h
  simp only [ho, handsOn, soft_nil] at h
  split at h
  ·rename_i d hd
   split at h
   ·exact h.elim
   ·rename_i hkn
    split at h
    ·rename_i n e hk
     split at h
     ·rename_i h1
      split at h
      ·rename_i l hcl
       split at h
       ·rename_i h2
        split at h
        ·rename_i h3
         rw [new_eff] at h
         refine ⟨_, h, ⟨hd.symm, by simp [Eff.ks, killOf, ho, hd], fun S2 hn hob hev K2 hK => ?_⟩, touch_none (by simp [ho])⟩
         unfold eWp
         simp only [ho, handsOn, soft_nil, hd, hk, hcl]
         rw [if_neg (by rw [hk] at hkn; exact hkn), if_pos h1, if_pos h2, if_pos h3, new_eff2 hob]
         exact hK
        ·exact h.elim
       ·exact h.elim
      ·exact h.elim
     ·exact h.elim
    ·rename_i hna
     rw [new_eff] at h
     refine ⟨_, h, ⟨hd.symm, by simp [Eff.ks, killOf, ho, hd], fun S2 hn hob hev K2 hK => ?_⟩, touch_none (by simp [ho])⟩
     unfold eWp
     simp only [ho, handsOn, soft_nil, hd]
     rw [if_neg hkn, new_eff2 hob]
     exact hK
  ·exact h.elim
 ·rename_i t x ho
  unfold eWp at h
  simp only [ho, handsOn, soft_nil] at h
  split at h
  ·rename_i d n e hd hk
   split at h
   ·rename_i l hx
    split at h
    ·rename_i h1
     split at h
     ·rename_i h2
      rw [new_eff] at h
      refine ⟨_, h, ⟨hd.symm, by simp [Eff.ks, killOf, ho, hd], fun S2 hn hob hev K2 hK => ?_⟩, touch_none (by simp [ho])⟩
      unfold eWp
      simp only [ho, handsOn, soft_nil, hd, hk]
      rw [hev x (by simp [ho, Op.operands]), hx]
      simp only
      rw [if_pos h1, if_pos h2, new_eff2 hob]
      exact hK
     ·exact h.elim
    ·exact h.elim
   ·exact h.elim
  ·rename_i d hd hna
   split at h
   ·rename_i l hx
    rw [new_eff] at h
    refine ⟨_, h, ⟨hd.symm, by simp [Eff.ks, killOf, ho, hd], fun S2 hn hob hev K2 hK => ?_⟩, touch_none (by simp [ho])⟩
    unfold eWp
    simp only [ho, handsOn, soft_nil, hd]
    rw [hev x (by simp [ho, Op.operands]), hx]
    simp only
    rw [new_eff2 hob]; exact hK
   ·exact h.elim
  ·exact h.elim
 ·rename_i c ho
  split at hl
  ·rename_i hcb
   unfold eWp at h
   simp only [ho, handsOn, hcb, soft_nil] at h
   split at h
   ·rename_i d t t2 s x hd hat has
    have hs : s ∈ o.op.operands.toList := by simp [ho, Op.operands, Call.operands, hcb, has]
    have hx : x ∈ o.op.operands.toList := by simp [ho, Op.operands, Call.operands, hcb, has]
    split at h
    ·rename_i e hk
     split at h
     ·exact h.elim
     ·rename_i hkn
      split at h
      ·exact h.elim
      ·rename_i hz
       split at h
       ·rename_i hst
        obtain ⟨l2, h, hsrc⟩ := srcW_eff h
        split at h
        ·rename_i hsv
         obtain ⟨h1, h⟩ := h
         rw [new_eff] at h
         refine ⟨_, h, ⟨hd.symm, by simp [Eff.ks, killOf, ho, hd, hcb], fun S2 hn hob hev K2 hK => ?_⟩, fun Ts hT id hid => ?_⟩
         rotate_left
         ·unfold touchOf at hT
          simp only [ho, hcb] at hT
          obtain ⟨hq, rfl⟩ := newTouch_some hT hd
          rw [ob_app_l]
          exact look_new hq (fun e => hid (by simp [e]))
         unfold eWp
         simp only [ho, handsOn, hcb, soft_nil, hd, hat, has, hk]
         rw [if_neg hkn, if_neg hz, hev x hx, hst, hob]
         refine hsrc _ ?_
         rw [hev s hs, hsv]
         exact ⟨h1, by rw [new_eff2 hob]; exact hK⟩
        ·rename_i id hsv
         split at h
         ·rename_i z l ex hr
          split at h
          ·rename_i h2
           obtain ⟨h1, h⟩ := h
           rw [new_eff] at h
           refine ⟨.l (some d) (.own d) [d] ((d, unOb d (.row z ((std P R).app l l2) ex)) :: (({ S with ob := remOb id S.ob } : St).kill d).ob), h, ⟨hd.symm, by simp [Eff.ks, killOf, ho, hd, hcb], fun S2 hn hob hev K2 hK => ?_⟩, fun Ts hT id2 hid => ?_⟩
           rotate_left
           ·unfold touchOf at hT
            simp only [ho, hcb] at hT
            obtain ⟨hq, rfl⟩ := newTouch_some hT hd
            rw [ob_app_l]
            have hi : id2 ≠ id := fun e => hid (by simp [appIds, has, hsv, e])
            refine (look_new (S := { S with ob := remOb id S.ob }) (all_remOb id hq) (fun e => hid (by simp [e]))).trans ?_
            show look (remOb id S.ob) id2 = _
            rw [look_remOb, if_neg hi]
           unfold eWp
           simp only [ho, handsOn, hcb, soft_nil, hd, hat, has, hk]
           rw [if_neg hkn, if_neg hz, hev x hx, hst, hob]
           refine hsrc _ ?_
           rw [hev s hs, hsv]
           simp only [hr]
           rw [if_pos h2]
           exact ⟨h1, hK⟩
          ·exact h.elim
         ·exact h.elim
        ·exact h.elim
       ·exact h.elim
    ·exact h.elim
   ·exact h.elim
  ·rename_i f hc; exact absurd hc (hv c f ho)
  ·cases hl
 ·rename_i t n ps ho
  split at hl
  ·rename_i hps
   unfold eWp at h
   simp only [ho, handsOn, hps, List.map_nil, idsDs, soft_nil] at h
   split at h
   ·rename_i d e hd hk
    unfold qWp at h
    simp only [hk, hps, List.map_nil] at h
    split at h
    ·exact h.elim
    ·rename_i g1
     split at h
     ·rename_i g2
      split at h
      ·rename_i g3
       split at h
       ·rename_i g4
        split at h
        ·rename_i l hl2
         split at h
         ·rename_i r hr
          split at h
          ·rename_i g5
           rw [new_eff] at h
           refine ⟨_, h, ⟨hd.symm, by simp [Eff.ks, killOf, ho, hd], fun S2 hn hob hev K2 hK => ?_⟩, fun Ts hT id hid => ?_⟩
           rotate_left
           ·unfold touchOf at hT
            simp only [ho] at hT
            obtain ⟨hq, rfl⟩ := newTouch_some hT hd
            rw [ob_app_l]
            exact look_new hq (fun e => hid (by simp [e]))
           unfold eWp
           simp only [ho, handsOn, hps, List.map_nil, idsDs, soft_nil, hd, hk]
           unfold qWp
           simp only [hk, hps, List.map_nil]
           rw [if_neg g1, if_pos g2, if_pos g3, if_pos g4]
           simp only [hl2, hob, hr]
           rw [if_pos g5, new_eff2 hob]
           exact hK
          ·exact h.elim
         ·exact h.elim
        ·exact h.elim
       ·exact h.elim
      ·exact h.elim
     ·exact h.elim
   ·exact h.elim
  ·cases hl
 ·cases hl
theorem gTouch_eq {o : Oper} {S S2 : St} (hob : S2.ob = S.ob) (hev : ∀ x ∈ o.op.operands.toList, S2.ev x = S.ev x) : gTouch S2 o = gTouch S o := by
 unfold gTouch
 split
 ·rename_i t a x ho; rw [hev a (by simp [ho, Op.operands])]
 ·rw [hob]
 ·rw [hob]
 ·rw [hob]
 ·rw [hob]
 ·rfl
 ·rfl
 ·rfl
 ·rfl
 ·rfl
 ·rfl
 ·rename_i c ho
  split
  ·rename_i x r hc ha
   rw [hev x (by simp [ho, Op.operands, Call.operands, hc, ha]), hob]
  ·rfl
  ·rfl
  ·rfl
  ·rw [hob]
  ·rfl
 ·rfl
theorem gTouch_two {o : Oper} {S : St} (hl : loud o.op = true) (hv : ∀ c f, o.op = .call c → c.callee ≠ .value f) : gTouch S o = 0 ∨ gTouch S o = 1 := by
 unfold loud at hl
 split at hl
 ·rename_i t a x ho; unfold gTouch; simp only [ho]; split <;> simp
 ·rename_i t ho
  unfold gTouch; simp only [ho]
  split
  ·split <;> simp
  ·simp
 ·rename_i t x ho
  unfold gTouch; simp only [ho]
  split
  ·split <;> simp
  ·simp
 ·rename_i c ho
  split at hl
  ·rename_i hc
   unfold gTouch; simp only [ho, hc]
   split
   ·split
    ·simp
    ·split
     ·split <;> simp
     ·simp
   all_goals first | (simp; done) | (exfalso; simp_all; done)
  ·rename_i f hc; exact absurd hc (hv c f ho)
  ·cases hl
 ·rename_i t n ps ho
  unfold gTouch; simp only [ho]
  split
  ·split <;> simp
  ·simp
 ·cases hl
theorem loud_effH {o : Oper} {S : St} {K : St → Prop} (hl : loud o.op = true) (hv : ∀ c f, o.op = .call c → c.callee ≠ .value f) (h : hWp (std P R) o S K) : ∃ e : Eff, K (e.app S) ∧ LoudOk P R o S e ∧ TouchOk o S e := by
 unfold hWp at h
 rcases gTouch_two (S := S) hl hv with h0 | h1
 ·simp only [h0] at h
  obtain ⟨e, h1, ⟨h2, h3, h4⟩, ht⟩ := loud_eff0 hl hv h0 h
  refine ⟨e, h1, ⟨h2, h3, fun S2 hn hob hev K2 hK => ?_⟩, ht⟩
  unfold hWp
  rw [gTouch_eq hob hev, h0]
  exact h4 S2 hn hob hev K2 hK
 ·simp only [h1] at h
  have soft_ob : ∀ ids, (S.soft ids).ob = softOb S.ob ids := fun _ => rfl
  split at h
  ·rename_i gh pub hp
   split at h
   ·rename_i xs hx
    obtain ⟨r, gh', hg, h⟩ := h
    refine ⟨.l o.dst (.v r) [] ((S.soft (idsDs false (o.op.operands.toList.map S.ev))).setOb hk (.heap gh' pub)).ob, h, ⟨rfl, by simp [Eff.ks], fun S2 hn hob hev K2 hK => ?_⟩, fun Ts hT id hid => ?_⟩
    rotate_left
    ·rw [ob_app_l]
     have h9 : id ≠ hk ∧ id ∉ idsDs false (o.op.operands.toList.map S.ev) := by
      unfold touchOf at hT
      split at hT
      ·rename_i t a x ho
       have hgp : isGp (S.ev a) = true := by
        unfold gTouch at h1
        simp only [ho] at h1
        cases hb : isGp (S.ev a) with
        | true => rfl
        | false => rw [hb] at h1; cases h1
       split at hT
       ·rename_i he; rw [he] at hgp; cases hgp
       ·rename_i he; rw [he] at hgp; cases hgp
       ·cases hT; simpa using hid
       ·cases hT; simpa using hid
       ·cases hT
      ·rename_i c ho
       split at hT
       ·rename_i f hc; exact absurd hc (hv c f ho)
       ·unfold newTouch at hT; rw [h1] at hT; cases hT
       ·cases hT
      ·unfold newTouch at hT; rw [h1] at hT; cases hT
      ·cases hT
     rw [look_setOb _ _ _ _ h9.1]
     exact softOb_other _ _ _ h9.2
    have hm : o.op.operands.toList.map S2.ev = o.op.operands.toList.map S.ev := List.map_congr_left hev
    have hso : (S2.soft (idsDs false (o.op.operands.toList.map S2.ev))).ob = (S.soft (idsDs false (o.op.operands.toList.map S.ev))).ob := by
     show softOb S2.ob _ = softOb S.ob _
     rw [hob, hm]
    have hsl : ∀ (T : St) ids, (T.soft ids).ev = T.ev := fun T ids => by funext x; cases x <;> rfl
    unfold hWp
    rw [gTouch_eq hob hev, h1]
    simp only
    rw [hso, hp]
    simp only
    rw [hsl] at hx ⊢
    rw [hm, hx]
    refine ⟨r, gh', hg, ?_⟩
    have e : (S2.soft (idsDs false (o.op.operands.toList.map S.ev))).setOb hk (.heap gh' pub) = ({ S2 with ob := ((S.soft (idsDs false (o.op.operands.toList.map S.ev))).setOb hk (.heap gh' pub)).ob } : St) := by
     have := hso; rw [hm] at this
     simp only [St.setOb, this]; rfl
    change K2 (St.put _ _ _)
    rw [e]
    exact hK
   ·exact h.elim
  ·exact h.elim
def keysR : List (Nat × AObj) → List Nat
 | [] => []
 | (k, _) :: r => keysR r ++ [k]
theorem kills_append (S : St) (a : List Nat) (k : Nat) : S.kills (a ++ [k]) = (S.kills a).kill k := by
 induction a generalizing S with
 | nil => rfl
 | cons x r ih => exact ih _
theorem addObs_kills : ∀ (obs : List (Nat × AObj)) (S : St), addObs S obs = { S.kills (keysR obs) with ob := (addObs S obs).ob }
 | [], S => rfl
 | (k, o) :: r, S => by
  have ih := addObs_kills r S
  have e1 : (addObs S ((k, o) :: r)) = (addObs S r).new k o := rfl
  rw [e1]
  have e2 : ((addObs S r).new k o).n = ((S.kills (keysR ((k, o) :: r)))).n := by
   rw [keysR, kills_append]
   show (addObs S r).n = (S.kills (keysR r)).n
   rw [ih]
  have e3 : ((addObs S r).new k o).sl = ((S.kills (keysR ((k, o) :: r)))).sl := by
   rw [keysR, kills_append]
   show (addObs S r).sl.map _ = (S.kills (keysR r)).sl.map _
   rw [ih]
  cases h : (addObs S r).new k o with
  | mk n sl ob =>
   rw [h] at e2 e3
   simp only at e2 e3
   rw [e2, e3]
theorem addObs_ob : ∀ (obs : List (Nat × AObj)) {S S2 : St}, S2.ob = S.ob → (addObs S2 obs).ob = (addObs S obs).ob
 | [], _, _, h => h
 | (k, o) :: r, S, S2, h => by
  have ih := addObs_ob r h
  simp only [addObs, St.new, St.kill, ih]
theorem kills_sl (ks : List Nat) : ∀ {S S2 : St}, S2.n = S.n → S2.sl = S.sl → (S2.kills ks).n = (S.kills ks).n ∧ (S2.kills ks).sl = (S.kills ks).sl := by
 induction ks with
 | nil => exact fun h k => ⟨h, k⟩
 | cons x r ih => exact fun {S S2} h k => ih (S := S.kill x) (S2 := S2.kill x) h (by simp only [St.kill, k])
theorem resObs_keys (d : Nat) : ∀ (j : Nat) (rs : List Rs) (k : Nat), k ∈ keysR (resObs d j rs) → ∃ i, j ≤ i ∧ i < j + rs.length ∧ k = 1000 + 8 * d + i
 | _, [], k, h => by simp [resObs, keysR] at h
 | j, .v _ :: r, k, h => by
  obtain ⟨i, h1, h2, h3⟩ := resObs_keys d (j + 1) r k h
  exact ⟨i, by omega, by simp; omega, h3⟩
 | j, .o z l :: r, k, h => by
  simp only [resObs, keysR, List.mem_append, List.mem_singleton] at h
  rcases h with h | h
  ·obtain ⟨i, h1, h2, h3⟩ := resObs_keys d (j + 1) r k h
   exact ⟨i, by omega, by simp; omega, h3⟩
  ·exact ⟨j, Nat.le_refl _, by simp, h⟩
theorem look_addObs (id : Nat) : ∀ (obs : List (Nat × AObj)) (S : St), (∀ p ∈ S.ob, ∀ k ∈ keysR obs, unOb k p.2 = p.2) → id ∉ keysR obs → look (addObs S obs).ob id = look S.ob id
 | [], S, _, _ => rfl
 | (k, o) :: r, S, hq, hn => by
  simp only [keysR, List.mem_append, List.mem_singleton, not_or] at hn
  have ih := look_addObs id r S (fun p hp k hk => hq p hp k (by simp [keysR, hk])) hn.1
  show look (((k, unOb k o) :: ((addObs S r).kill k).ob)) id = _
  simp only [look]
  rw [if_neg (Ne.symm hn.2), look_kill, if_neg hn.2, ih]
  cases h : look S.ob id with
  | none => rfl
  | some x =>
   obtain ⟨p, h1, rfl⟩ := look_mem h
   rw [Option.map_some, hq p h1 k (by simp [keysR])]
theorem lc_eff {o : Oper} {S : St} {K : St → Prop} {c : Call} {f : Operand} (ho : o.op = .call c) (hc : c.callee = .value f) (h : lcWp (std P R) o f c S K) : ∃ e : Eff, K (e.app S) ∧ LoudOk P R o S e ∧ TouchOk o S e := by
 unfold lcWp at h
 split at h
 ·rename_i h0
  simp only at h
  split at h
  ·rename_i d g fst cap hd hcal
   split at h
   ·rename_i xs hx
    obtain ⟨ys, hsub, h⟩ := h
    rcases h with ⟨rs, hf, h⟩ | ⟨gh, post, hh, _⟩
    ·simp only at h
     split at h
     ·rename_i hok
      unfold lcOk at hok
      rw [Bool.and_eq_true] at hok
      obtain ⟨hlen, hq⟩ := hok
      have hlen : rs.length ≤ 8 := Nat.le_of_ble_eq_true hlen
      have hkeys : ∀ k ∈ keysR (resObs d 0 rs), k ∈ newIds d := fun k hk => by
       obtain ⟨i, h1, h2, h3⟩ := resObs_keys d 0 rs k hk
       exact List.mem_map.2 ⟨i, List.mem_range.2 (by omega), h3.symm⟩
      generalize hS1 : S.soft (handsOn S o.op) = S1 at h hx hq
      have happ : ∀ S2 : St, (S2.soft (handsOn S o.op)).ob = S1.ob → (addObs (S2.soft (handsOn S o.op)) (resObs d 0 rs)).put (some d) (resD d rs) = (Eff.l (some d) (resD d rs) (keysR (resObs d 0 rs)) (addObs S1 (resObs d 0 rs)).ob).app S2 := fun S2 h2 => by
       have e := addObs_kills (resObs d 0 rs) (S2.soft (handsOn S o.op))
       obtain ⟨k1, k2⟩ := kills_sl (keysR (resObs d 0 rs)) (S := S2) (S2 := S2.soft (handsOn S o.op)) rfl rfl
       refine (congrArg (fun T : St => T.put (some d) (resD d rs)) e).trans ?_
       refine congrArg (fun T : St => T.put (some d) (resD d rs)) (?_ : ({ (S2.soft (handsOn S o.op)).kills (keysR (resObs d 0 rs)) with ob := (addObs (S2.soft (handsOn S o.op)) (resObs d 0 rs)).ob } : St) = { S2.kills (keysR (resObs d 0 rs)) with ob := (addObs S1 (resObs d 0 rs)).ob })
       rw [St.mk.injEq]
       exact ⟨k1, k2, addObs_ob _ h2⟩
      refine ⟨.l (some d) (resD d rs) (keysR (resObs d 0 rs)) (addObs S1 (resObs d 0 rs)).ob, ?_, ⟨hd.symm, fun k hk => ?_, fun S2 hn hob hev K2 hK => ?_⟩, fun Ts hT id hid => ?_⟩
      ·rw [← happ S (by rw [hS1]), hS1]; exact h
      ·unfold killOf; simp only [ho, hc, hd]; exact hkeys k hk
      ·have hfo : f ∈ o.op.operands.toList := by simp [ho, Op.operands, Call.operands, hc]
       have hao : ∀ x ∈ c.args.toList, x ∈ o.op.operands.toList := fun x hx => by simp [ho, Op.operands, Call.operands, hc]; right; simpa using hx
       have hho : handsOn S2 o.op = handsOn S o.op := by
        unfold handsOn
        simp only [ho, hc]
        rw [hev f hfo, List.map_congr_left fun x hx => hev x (hao x hx)]
       have hsl : ∀ (T : St) ids, (T.soft ids).ev = T.ev := fun T ids => by funext x; cases x <;> rfl
       have h2 : (S2.soft (handsOn S o.op)).ob = S1.ob := by
        rw [← hS1]
        show softOb S2.ob _ = softOb S.ob _
        rw [hob]
       have e1 : S1.ev = S.ev := by rw [← hS1]; exact hsl S _
       have e2 : c.args.toList.map S2.ev = c.args.toList.map S.ev := List.map_congr_left fun x hx => hev x (hao x hx)
       have e3 := hev f hfo
       rw [e1] at hx
       rw [hsl] at hcal
       unfold hWp
       rw [gTouch_eq hob hev, h0]
       simp only
       unfold eWp
       simp only [hho]
       have happ2 := happ S2 h2
       generalize handsOn S o.op = ids at h2 happ2 ⊢
       simp only [ho, hc, hd, hsl]
       rw [e3, hcal]
       simp only
       rw [e2, h2, hx]
       refine ⟨ys, hsub, .inl ⟨rs, hf, ?_⟩⟩
       simp only [St.setHeap]
       rw [happ2]
       exact hK
      ·have hT2 : Ts = handsOn S o.op ++ newIds d := by
        unfold touchOf at hT
        simp only [ho, hc] at hT
        unfold killOf at hT
        simp only [ho, hc, hd] at hT
        cases hT; rw [ho]
       rw [hT2, List.mem_append, not_or] at hid
       rw [ob_app_l, look_addObs id _ S1 (fun p hp k hk => quiet_un (List.all_eq_true.1 hq p hp) (hkeys k hk)) (fun q => hid.2 (hkeys _ q)), ← hS1]
       exact softOb_other _ _ _ hid.1
     ·exact h.elim
    ·cases hh
   ·exact h.elim
  ·exact h.elim
 ·exact h.elim
theorem heapOf_set {ob : List (Nat × AObj)} {gh : GH} {pub : List Nat} (h : heapOf ob = some (gh, pub)) : look ob hk = some (.heap gh pub) := by
 unfold heapOf at h
 split at h
 ·rename_i hq; cases h; exact hq
 ·cases h
theorem lh_eff {o : Oper} {S : St} {K : St → Prop} {c : Call} {f : Operand} (ho : o.op = .call c) (hc : c.callee = .value f) (h : lhWp (std P R) o f c S K) : ∃ e : Eff, K (e.app S) ∧ LoudOk P R o S e ∧ TouchOk o S e := by
 unfold lhWp at h
 split at h
 ·rename_i h0
  simp only at h
  split at h
  ·rename_i d g fst cap hd hcal
   split at h
   ·rename_i xs hx
    split at h
    ·rename_i gh hgh
     obtain ⟨ys, rs, hsub, hf, h⟩ := h
     split at h
     ·rename_i hok
      unfold lcOk at hok
      rw [Bool.and_eq_true] at hok
      obtain ⟨hlen, hq⟩ := hok
      have hlen : rs.length ≤ 8 := Nat.le_of_ble_eq_true hlen
      have hkeys : ∀ k ∈ keysR (resObs d 0 rs), k ∈ newIds d := fun k hk => by
       obtain ⟨i, h1, h2, h3⟩ := resObs_keys d 0 rs k hk
       exact List.mem_map.2 ⟨i, List.mem_range.2 (by omega), h3.symm⟩
      have hset : ∀ T : St, T.ob = (S.soft (handsOn S o.op)).ob → ∃ ob', (T.setHeap (some gh)) = { T with ob := ob' } ∧ ob' = ((S.soft (handsOn S o.op)).setHeap (some gh)).ob := fun T hT => by
       refine ⟨(T.setHeap (some gh)).ob, ?_, ?_⟩
       ·unfold St.setHeap; simp only; split <;> rfl
       ·unfold St.setHeap; simp only; rw [hT]; split
        ·simp only [St.setOb]; rw [hT]
        ·exact hT
      have hlook : ∀ id, look ((S.soft (handsOn S o.op)).setHeap (some gh)).ob id = look (S.soft (handsOn S o.op)).ob id := fun id => by
       simp only [St.setHeap]
       unfold gheap at hgh
       split at hgh
       ·rename_i gh' pub hp
        cases hgh
        by_cases e : id = hk
        ·rw [e, heapOf_set hp]; simp [St.setOb, look]
        ·exact look_setOb _ _ _ _ e
       ·cases hgh
      generalize hS1 : (S.soft (handsOn S o.op)).setHeap (some gh) = S1 at h hq hset hlook
      have happ : ∀ S2 : St, (S2.soft (handsOn S o.op)).ob = (S.soft (handsOn S o.op)).ob → (addObs ((S2.soft (handsOn S o.op)).setHeap (some gh)) (resObs d 0 rs)).put (some d) (resD d rs) = (Eff.l (some d) (resD d rs) (keysR (resObs d 0 rs)) (addObs S1 (resObs d 0 rs)).ob).app S2 := fun S2 h2 => by
       obtain ⟨ob', e1, e2⟩ := hset _ h2
       have e := addObs_kills (resObs d 0 rs) ((S2.soft (handsOn S o.op)).setHeap (some gh))
       obtain ⟨k1, k2⟩ := kills_sl (keysR (resObs d 0 rs)) (S := S2) (S2 := (S2.soft (handsOn S o.op)).setHeap (some gh)) (by rw [e1]; rfl) (by rw [e1]; rfl)
       refine (congrArg (fun T : St => T.put (some d) (resD d rs)) e).trans ?_
       refine congrArg (fun T : St => T.put (some d) (resD d rs)) (?_ : ({ ((S2.soft (handsOn S o.op)).setHeap (some gh)).kills (keysR (resObs d 0 rs)) with ob := (addObs ((S2.soft (handsOn S o.op)).setHeap (some gh)) (resObs d 0 rs)).ob } : St) = { S2.kills (keysR (resObs d 0 rs)) with ob := (addObs S1 (resObs d 0 rs)).ob })
       rw [St.mk.injEq]
       exact ⟨k1, k2, addObs_ob _ (by rw [e1]; exact e2)⟩
      refine ⟨.l (some d) (resD d rs) (keysR (resObs d 0 rs)) (addObs S1 (resObs d 0 rs)).ob, ?_, ⟨hd.symm, fun k hk => ?_, fun S2 hn hob hev K2 hK => ?_⟩, fun Ts hT id hid => ?_⟩
      ·rw [← happ S rfl, hS1]; exact h
      ·unfold killOf; simp only [ho, hc, hd]; exact hkeys k hk
      ·have hfo : f ∈ o.op.operands.toList := by simp [ho, Op.operands, Call.operands, hc]
       have hao : ∀ x ∈ c.args.toList, x ∈ o.op.operands.toList := fun x hx => by simp [ho, Op.operands, Call.operands, hc]; right; simpa using hx
       have hho : handsOn S2 o.op = handsOn S o.op := by
        unfold handsOn
        simp only [ho, hc]
        rw [hev f hfo, List.map_congr_left fun x hx => hev x (hao x hx)]
       have hsl : ∀ (T : St) ids, (T.soft ids).ev = T.ev := fun T ids => by funext x; cases x <;> rfl
       have h2 : (S2.soft (handsOn S o.op)).ob = (S.soft (handsOn S o.op)).ob := by
        show softOb S2.ob _ = softOb S.ob _
        rw [hob]
       have e2 : c.args.toList.map S2.ev = c.args.toList.map S.ev := List.map_congr_left fun x hx => hev x (hao x hx)
       have e3 := hev f hfo
       rw [hsl] at hx hcal
       unfold hWp
       rw [gTouch_eq hob hev, h0]
       simp only
       unfold eWp
       simp only [hho]
       have happ2 := happ S2 h2
       rw [← h2] at hx hgh
       generalize handsOn S o.op = ids at h2 happ2 hx hgh ⊢
       simp only [ho, hc, hd, hsl]
       rw [e3, hcal]
       simp only
       rw [e2, hx]
       refine ⟨ys, hsub, .inr ⟨gh, _, hgh, hf, fun rs' gh' q => ?_⟩⟩
       obtain ⟨rfl, rfl⟩ := q
       rw [happ2]
       exact hK
      ·have hT2 : Ts = handsOn S o.op ++ newIds d := by
        unfold touchOf at hT
        simp only [ho, hc] at hT
        unfold killOf at hT
        simp only [ho, hc, hd] at hT
        cases hT; rw [ho]
       rw [hT2, List.mem_append, not_or] at hid
       rw [ob_app_l, look_addObs id _ S1 (fun p hp k hk => quiet_un (List.all_eq_true.1 hq p hp) (hkeys k hk)) (fun q => hid.2 (hkeys _ q)), hlook]
       exact softOb_other _ _ _ hid.1
     ·exact h.elim
    ·exact h.elim
   ·exact h.elim
  ·exact h.elim
 ·exact h.elim
theorem loud_eff {o : Oper} {S : St} {K : St → Prop} (hl : loud o.op = true) (h : lWp (std P R) o S K) : ∃ e : Eff, K (e.app S) ∧ LoudOk P R o S e ∧ TouchOk o S e := by
 unfold lWp at h
 split at h
 ·rename_i c ho
  split at h
  ·rename_i f hc
   split at h
   ·split at h
    ·exact lh_eff ho hc h
    ·exact lc_eff ho hc h
   ·exact lc_eff ho hc h
  ·rename_i hnv
   exact loud_effH hl (fun c' f h1 h2 => by rw [ho] at h1; cases h1; exact hnv f h2) h
 ·rename_i hnc
  exact loud_effH hl (fun c' f h1 _ => hnc c' h1) h
end
open Go Go.RowKit
def GOk (ops : List Oper) (o : Oper) (S : St) (run : Bool) : Prop :=
 (o.guard = none ∧ run = true) ∨ ∃ j want p t, o.guard = some (j, want) ∧ look? ops j = some p ∧ p.dst = some t ∧ ((∃ b, S.get t = .lit b ∧ run = (b == want)) ∨ (S.get t = .v (.tup []) ∧ run = false))
def QuietOk (P : Program) (ob : List (Nat × AObj)) (o : Oper) (S : St) (d : D) : Prop :=
 ∃ d0, Comes' P ob S.ev o.op d0 ∧ (d = d0 ∨ ∃ c, d0 = .v (.bool c) ∧ d = .lit c)
abbrev Wat := List (Nat × List Nat)
def Watch (anc : List (Nat × Nat)) (i : Nat) (W : Wat) (S : St) (e : Eff) : Prop := ∀ k U, (k, U) ∈ W → Nat.testBit (getA anc i) k = true ∨ ∀ id ∈ U, look (e.app S).ob id = look S.ob id
def OpOk (P : Program) (R : List (Nat × AObj) → List D → Prop) (ops : List Oper) (anc : List (Nat × Nat)) (i : Nat) (r : List Nat) (W W' : Wat) (o : Oper) (S : St) (e : Eff) : Prop :=
 ∃ run, GOk ops o S run ∧ (run = false → e = .q o.dst (.v (.tup []))) ∧ (run = true →
  (loud o.op = true ∧ LoudOk P R o S e ∧ Watch anc i W S e) ∨
  (loud o.op = false ∧ ∃ d, e = .q o.dst d ∧ ((freeOf ops anc i r = none ∧ QuietOk P S.ob o S d) ∨ ∃ ks, freeOf ops anc i r = some ks ∧ (∀ x ∈ o.op.operands.toList, noMent ks (S.ev x) = true) ∧ noMent ks d = true ∧ ∃ U, (i, U) ∈ W' ∧ QuietOk P (restrict S.ob U) o S d)))
def TrOk (P : Program) (R : List (Nat × AObj) → List D → Prop) (ops : List Oper) (anc : List (Nat × Nat)) : Wat → List Nat → St → List Eff → Prop
 | _, [], _, [] => True
 | W, i :: r, S, e :: es => ∃ W' : Wat, (∃ o, look? ops i = some o ∧ OpOk P R ops anc i r W W' o S e) ∧ (∀ p ∈ W, p ∈ W') ∧ TrOk P R ops anc W' r (e.app S) es
 | _, _, _, _ => False
def foldE (es : List Eff) (S : St) : St := es.foldl (fun S e => e.app S) S
section
variable {P : Program} {R : List (Nat × AObj) → List D → Prop} (hT : tableOf P = T)
include hT
theorem noMent_lit (ks : List Nat) (b : Bool) : noMent ks (.lit b) = true := by simp [noMent, mentions]
theorem dRes_eff {g : Bool} {dst : Option Nat} {S : St} {d : D} {K : St → Prop} (h : dRes (std P R) g dst S d K) : ∃ d', K ((Eff.q dst d').app S) ∧ (d' = d ∨ ∃ c, d = .v (.bool c) ∧ d' = .lit c) := by
 unfold dRes at h
 split at h
 ·split at h
  ·exact ⟨_, h, .inl rfl⟩
  ·rename_i c; exact ⟨.lit c, h c rfl, .inr ⟨c, rfl, rfl⟩⟩
  ·exact h.elim
 ·exact ⟨_, h, .inl rfl⟩
theorem watch_of {anc : List (Nat × Nat)} {i : Nat} {o : Oper} {S : St} {e : Eff} (ht : TouchOk o S e) : ∀ {W : Wat}, watchOk anc i (touchOf S o) W = true → Watch anc i W S e
 | [], _ => fun k U h => by simp at h
 | (k, U) :: r, hw => fun k' U' h => by
  unfold watchOk at hw
  rw [Bool.and_eq_true] at hw
  rcases List.mem_cons.1 h with e1 | h
  ·cases e1
   cases hb : Nat.testBit (getA anc i) k with
   | true => exact .inl rfl
   | false =>
    refine .inr fun id hid => ?_
    have h1 := hw.1
    rw [hb, Bool.false_or] at h1
    have ap : ∀ (Ts U : List Nat), apartL Ts U = true → ∀ id ∈ U, id ∉ Ts := by
     intro Ts U
     induction U with
     | nil => simp
     | cons u s ih =>
      intro h id hid
      unfold apartL at h
      rw [Bool.and_eq_true] at h
      rcases List.mem_cons.1 hid with rfl | hid
      ·simpa using h.1
      ·exact ih h.2 id hid
    split at h1
    ·simp at hid
    ·split at h1
     ·rename_i Ts hT
      exact ht Ts hT id (ap _ _ h1 id hid)
     ·cases h1
  ·exact watch_of ht hw.2 k' U' h
theorem d_trace (ops : List Oper) (anc : List (Nat × Nat)) : ∀ (W : Wat) (π : List Nat) (S : St) (K : St → Prop), dWp (std P R) ops anc W π S K → ∃ es, TrOk P R ops anc W π S es ∧ K (foldE es S)
 | W, [], S, K, h => ⟨[], trivial, h⟩
 | W, i :: r, S, K, h => by
  unfold dWp at h
  split at h
  ·rename_i o ho
   have skip : GOk ops o S false → dWp (std P R) ops anc W r (S.put o.dst (.v (.tup []))) K → ∃ es, TrOk P R ops anc W (i :: r) S es ∧ K (foldE es S) := fun hg h => by
    obtain ⟨es, h1, h2⟩ := d_trace ops anc W r _ K h
    exact ⟨.q o.dst (.v (.tup [])) :: es, ⟨W, ⟨o, ho, false, hg, fun _ => rfl, fun h => (nomatch h)⟩, fun _ h => h, h1⟩, h2⟩
   have run : GOk ops o S true → (match loud o.op with
     | true => match watchOk anc i (touchOf S o) W with
      | true => lWp (std P R) o S fun S => dWp (std P R) ops anc W r S K
      | false => False
     | false => match freeOf ops anc i r with
      | none => rWp (std P R) S.ob S.ev o.op fun d => dRes (std P R) (isGuard i ops) o.dst S d fun S => dWp (std P R) ops anc W r S K
      | some ks => match (o.op.operands.toList.map S.ev).all (noMent ks) with
       | true => rWp (std P R) (restrict S.ob (watchIds S.ev o.op)) S.ev o.op fun d => match noMent ks d with
        | true => dRes (std P R) (isGuard i ops) o.dst S d fun S' => dWp (std P R) ops anc ((i, watchIds S.ev o.op) :: W) r S' K
        | false => False
       | false => False) → ∃ es, TrOk P R ops anc W (i :: r) S es ∧ K (foldE es S) := fun hg h => by
    split at h
    ·rename_i hl
     split at h
     ·rename_i hw
      obtain ⟨e, h1, h2, h5⟩ := loud_eff hl h
      obtain ⟨es, h3, h4⟩ := d_trace ops anc W r _ K h1
      exact ⟨e :: es, ⟨W, ⟨o, ho, true, hg, fun h => (nomatch h), fun _ => .inl ⟨hl, h2, watch_of hT h5 hw⟩⟩, fun _ h => h, h3⟩, h4⟩
     ·exact h.elim
    ·rename_i hl
     split at h
     ·rename_i hf
      obtain ⟨d, h1, h2⟩ := r_sound hT _ _ _ _ h
      obtain ⟨d', h3, h4⟩ := dRes_eff hT h1
      obtain ⟨es, h5, h6⟩ := d_trace ops anc W r _ K h3
      exact ⟨.q o.dst d' :: es, ⟨W, ⟨o, ho, true, hg, fun h => (nomatch h), fun _ => .inr ⟨hl, d', rfl, .inl ⟨hf, d, h2, h4⟩⟩⟩, fun _ h => h, h5⟩, h6⟩
     ·rename_i ks hf
      split at h
      ·rename_i hm
       obtain ⟨d, h1, h2⟩ := r_sound hT _ _ _ _ h
       split at h1
       ·rename_i hd
        obtain ⟨d', h3, h4⟩ := dRes_eff hT h1
        obtain ⟨es, h5, h6⟩ := d_trace ops anc _ r _ K h3
        have hd' : noMent ks d' = true := by
         rcases h4 with rfl | ⟨c, _, rfl⟩
         ·exact hd
         ·exact noMent_lit hT ks c
        exact ⟨.q o.dst d' :: es, ⟨(i, watchIds S.ev o.op) :: W, ⟨o, ho, true, hg, fun h => (nomatch h), fun _ => .inr ⟨hl, d', rfl, .inr ⟨ks, hf, fun x hx => by
         have := List.all_eq_true.1 hm _ (List.mem_map_of_mem (f := S.ev) hx); exact this, hd', watchIds S.ev o.op, List.mem_cons_self, d, h2, h4⟩⟩⟩, fun _ h => List.mem_cons_of_mem _ h, h5⟩, h6⟩
       ·exact h1.elim
      ·exact h.elim
   unfold dGuard at h
   split at h
   ·rename_i hg
    exact run (.inl ⟨hg, rfl⟩) h
   ·rename_i j want hg
    split at h
    ·rename_i p hp
     split at h
     ·rename_i t ht
      split at h
      ·rename_i b hb
       split at h
       ·rename_i e
        exact run (.inr ⟨j, want, p, t, hg, hp, ht, .inl ⟨b, hb, e.symm⟩⟩) h
       ·rename_i e
        exact skip (.inr ⟨j, want, p, t, hg, hp, ht, .inl ⟨b, hb, e.symm⟩⟩) h
      ·rename_i hb
       exact skip (.inr ⟨j, want, p, t, hg, hp, ht, .inr ⟨hb, rfl⟩⟩) h
      ·exact h.elim
     ·exact h.elim
    ·exact h.elim
  ·exact h.elim
end
end Go.Proofs.YthioccbgjkbmdaaGreat.AM
