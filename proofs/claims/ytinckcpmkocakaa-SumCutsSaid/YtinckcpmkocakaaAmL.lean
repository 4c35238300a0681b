/-
  The abstract machine, part 24: rules for proofs with a variable 'A'; states that tell less.
-/
import Derived.Test.YtinckcpmkocakaaAmF
set_option linter.unusedVariables false
set_option linter.unusedSimpArgs false
set_option linter.unusedSectionVars false
namespace Go.Proofs.Ytinckcpmkocakaa.AM
open Go Go.RowKit

/-- What a call leads to. -/
def CallR (P : Program) (f : Nat) (xs : List V) (post : List Rs → Prop) : Prop := ∃ rs, FnR P f xs rs ∧ post rs

section
variable {A : Prim} {P : Program} {R : List (Nat × AObj) → List D → Prop} (hA : A = std P R)
include hA
theorem callI {f : Nat} {xs : List V} {post : List Rs → Prop} {K : List Rs → Prop} (h : CallR P f xs post) (hK : ∀ rs, post rs → K rs) : A.call f xs K := by
  subst hA; obtain ⟨rs, h1, h2⟩ := h; exact ⟨rs, h1, hK rs h2⟩
theorem chkI {b : Unit → Bool} {K : Unit → Prop} (h : b () = true) (hK : K ()) : A.chk b K := by subst hA; exact ⟨h, hK⟩
theorem condI {b : Bool} {K : Bool → Prop} (ht : b = true → K true) (hf : b = false → K false) : A.cond b K := by
  subst hA; intro c hc; cases c
  · exact hf hc
  · exact ht hc
theorem loopF {ι : Type} {body : (AExit → St → Prop) → St → Prop} {Q : AExit → St → Prop} {S : St} (st : ι → St) (I : ι → Prop) (μ : ι → Nat) (p0 : ι) (hw : Weak S (st p0)) (h0 : I p0) (hb : ∀ p, I p → body (fun e S' => match e with
    | .normal => ∃ q, Weak S' (st q) ∧ I q ∧ μ q < μ p
    | e => Q e S') (st p)) : A.loop body Q S := by
  subst hA; exact ⟨ι, st, I, μ, ⟨p0, hw, h0⟩, hb⟩
theorem nzI {b : Int} {K : Unit → Prop} (h : b ≠ 0) (hK : K ()) : A.nz b K := by subst hA; exact ⟨h, hK⟩
theorem nnegI {b : Int} {K : Unit → Prop} (h : 0 ≤ b) (hK : K ()) : A.nneg b K := by subst hA; exact ⟨h, hK⟩
theorem inRI {i : Int} {l : List V} {K : Unit → Prop} (h : 0 ≤ i ∧ i < l.length) (hK : K ()) : A.inR i l K := by subst hA; exact ⟨h, hK⟩
theorem catOkI {a b : List UInt8} {K : Unit → Prop} (h : a.length + b.length ≤ 9223372036854775807) (hK : K ()) : A.catOk a b K := by subst hA; exact ⟨h, hK⟩
theorem sizedI {l : List V} {z : Nat} {K : Unit → Prop} (h : ∀ x ∈ l, x.flat.length = z) (hK : K ()) : A.sized l z K := by subst hA; exact ⟨h, hK⟩
theorem isLenI {l : List V} {n : Nat} {K : Unit → Prop} (h : l.length = n ∧ ∀ x ∈ l, x.cell = true) (hK : K ()) : A.isLen l n K := by subst hA; exact ⟨h, hK⟩
theorem roomI {a b : List V} {n : Nat} {K : Unit → Prop} (h : (a.length + b.length) * n ≤ 140737488355328 ∧ 0 < n) (hK : K ()) : A.room a b n K := by subst hA; exact ⟨h, hK⟩
theorem mkSI {n c : Int} {b : Nat} {K : Unit → Prop} (h : 0 ≤ n ∧ n ≤ c ∧ c ≤ 140737488355328 ∧ c * b ≤ 140737488355328) (hK : K ()) : A.mkS n c b K := by subst hA; exact ⟨h, hK⟩
theorem getII {k : IntKind} {l : List V} {i : Int} {K : Int → Prop} (n : Int) (h : 0 ≤ i ∧ l[i.toNat]? = some (.int k n)) (hK : K n) : A.getI k l i K := by subst hA; exact ⟨n, h, hK⟩
theorem getXI {l : List V} {i : Int} {K : V → Prop} (x : V) (h : 0 ≤ i ∧ l[i.toNat]? = some x ∧ x.cell = true) (hK : K x) : A.getX l i K := by subst hA; exact ⟨x, h, hK⟩
theorem getAI {z : Nat} {l : List V} {i : Int} {K : List V → Prop} (cs : List V) (h : 0 ≤ i ∧ l[i.toNat]? = some (.agg cs) ∧ cs.length = z) (hK : K cs) : A.getA z l i K := by subst hA; exact ⟨cs, h, hK⟩
theorem getCI {s : List UInt8} {i : Int} {K : Int → Prop} (b : UInt8) (h : 0 ≤ i ∧ s[i.toNat]? = some b) (hK : K (b.toNat : Int)) : A.getC s i K := by subst hA; exact ⟨b, h, hK⟩
theorem subSI {s : List UInt8} {lo hi : Int} {K : List UInt8 → Prop} (h : 0 ≤ lo ∧ lo ≤ hi ∧ hi ≤ s.length) (hK : K ((s.take hi.toNat).drop lo.toNat)) : A.subS s lo hi K := by subst hA; exact ⟨h, hK⟩
theorem subLI {s : List V} {lo hi : Int} {K : List V → Prop} (h : 0 ≤ lo ∧ lo ≤ hi ∧ hi ≤ s.length) (hK : K ((s.take hi.toNat).drop lo.toNat)) : A.subL s lo hi K := by subst hA; exact ⟨h, hK⟩
theorem b2sI {l : List V} {K : List UInt8 → Prop} (s : List UInt8) (h : l = bytesV s) (hK : K s) : A.b2s l K := by subst hA; exact ⟨s, h, hK⟩
theorem nilqI {l : List V} {K : Bool → Prop} (h : l ≠ []) (hK : K false) : A.nilq l K := by subst hA; exact ⟨h, hK⟩
theorem eqAI {t : Nat} {a b : List V} {K : Bool → Prop} (c : Bool) (h : EqOk P t a b c) (hK : K c) : A.eqA t a b K := by subst hA; exact ⟨c, h, hK⟩
theorem retI {ob : List (Nat × AObj)} {l : List D} (h : R ob l) : A.ret ob l := by subst hA; exact h
end

/-! ### States that tell less -/
theorem Weak.trans {S S' S'' : St} (h : Weak S S') (k : Weak S' S'') : Weak S S'' := fun G E ok a w c => by
  obtain ⟨E', ok', c'⟩ := h G E ok a w c
  exact k G E' ok' a w c'
def slOk (S : St) : List (Nat × D) → Prop
  | [] => True
  | (t, d) :: r => S.get t = d ∧ slOk S r
def obOk (S : St) : List (Nat × AObj) → Prop
  | [] => True
  | (t, d) :: r => look S.ob t = some d ∧ obOk S r
theorem slOk_mem {S : St} : ∀ {l : List (Nat × D)}, slOk S l → ∀ t d, look l t = some d → S.get t = d
  | [], _, t, d, h => by simp [look] at h
  | (k, x) :: r, hs, t, d, h => by
    simp only [look] at h
    split at h
    · rename_i e; subst e; cases h; exact hs.1
    · exact slOk_mem hs.2 t d h
theorem obOk_mem {S : St} : ∀ {l : List (Nat × AObj)}, obOk S l → ∀ t d, look l t = some d → look S.ob t = some d
  | [], _, t, d, h => by simp [look] at h
  | (k, x) :: r, hs, t, d, h => by
    simp only [look] at h
    split at h
    · rename_i e; subst e; cases h; exact hs.1
    · exact obOk_mem hs.2 t d h
/-- Fewer slots, fewer objects. -/
theorem weakI {S S' : St} (hn : S'.n = S.n) (hs : slOk S S'.sl) (ho : obOk S S'.ob) : Weak S S' := fun G E ok a w c => ⟨E, ok, {
  c with
  n := by rw [hn]; exact c.n
  slot := fun t => by
    unfold St.get
    cases h : look S'.sl t with
    | none => exact .any _
    | some d => rw [← slOk_mem hs t d h]; exact c.slot t
  obj := fun id o h => c.obj id o (obOk_mem ho id o h)
  apart := fun i j o p b h1 h2 => c.apart i j o p b (obOk_mem ho _ _ h1) (obOk_mem ho _ _ h2)
  reg := fun i o b h => c.reg i o b (obOk_mem ho _ _ h) }⟩

/-- A number given to what had another one. -/
def renD (id id' : Nat) : D → D
  | .own i => if i = id then .own id' else if i = id' then .any else .own i
  | .ptr i off => if i = id then .ptr id' off else if i = id' then .any else .ptr i off
  | d => if mentions id d || mentions id' d then .any else d
def renOb (id id' : Nat) : AObj → AObj
  | .box l => .box (l.map (renD id id'))
  | o => o
def St.ren (S : St) (id id' : Nat) : St :=
  { S with sl := S.sl.map fun p => (p.1, renD id id' p.2), ob := ((remOb id' S.ob).map fun p => (if p.1 = id then id' else p.1, renOb id id' p.2)) }
def Env.ren (E : Env) (id id' : Nat) : Env :=
  { blk := fun j => if j = id' then E.blk id else E.blk j, ha := fun j => if j = id' then E.ha id else E.ha j, hl := fun j => if j = id' then E.hl id else E.hl j, hc := fun j => if j = id' then E.hc id else E.hc j }
theorem Env.ren_ne (E : Env) (id id' : Nat) : ∀ j, j ≠ id' → (E.ren id id').blk j = E.blk j ∧ (E.ren id id').hdr j = E.hdr j := by
  intro j hj; simp [Env.ren, Env.hdr, hj]
theorem Env.ren_eq (E : Env) (id id' : Nat) : (E.ren id id').blk id' = E.blk id ∧ (E.ren id id').hdr id' = E.hdr id := by simp [Env.ren, Env.hdr]
theorem renD_rep {E : Env} {ok : Oks} {w : World} {d : D} {u : Value} (id id' : Nat) (h : RepD E ok w d u) : RepD (E.ren id id') ok w (renD id id' d) u := by
  have rest : RepD (E.ren id id') ok w (if mentions id d || mentions id' d then .any else d) u := by
    split
    · exact .any _
    · rename_i hm
      simp only [Bool.or_eq_true, not_or, Bool.not_eq_true] at hm
      exact h.env (E.ren_ne id id') hm.2
  cases h with
  | own i =>
    show RepD (E.ren id id') ok w (if i = id then .own id' else if i = id' then .any else .own i) _
    split
    · rename_i e; subst e; rw [← (E.ren_eq i id').2]; exact .own _
    · split
      · exact .any _
      · rename_i e; rw [← (E.ren_ne id id' i e).2]; exact .own _
  | ptr i off b hb =>
    show RepD (E.ren id id') ok w (if i = id then .ptr id' off else if i = id' then .any else .ptr i off) _
    split
    · rename_i e; subst e; exact .ptr _ _ _ ((E.ren_eq i id').1.trans hb)
    · split
      · exact .any _
      · rename_i e; exact .ptr _ _ _ ((E.ren_ne id id' i e).1.trans hb)
  | _ => exact rest
theorem look_ren (id id' : Nat) (hne : id ≠ id') : ∀ (ob : List (Nat × AObj)) (j : Nat), look ((remOb id' ob).map fun p => (if p.1 = id then id' else p.1, renOb id id' p.2)) j = if j = id' then (look ob id).map (renOb id id') else if j = id then none else (look ob j).map (renOb id id')
  | [], j => by simp [remOb, look]
  | (k, o) :: r, j => by
    have ih := look_ren id id' hne r j
    unfold remOb
    by_cases hk : k = id'
    · subst hk
      rw [if_pos rfl, ih]
      simp only [look]
      rw [if_neg (Ne.symm hne)]
      by_cases hj : j = k
      · simp [hj]
      · simp [hj, Ne.symm hj]
    · rw [if_neg hk]
      simp only [List.map_cons, look, ih]
      by_cases hki : k = id
      · subst hki
        rw [if_pos rfl]
        by_cases hj : id' = j
        · simp [hj]
        · simp only [hj, if_false, Ne.symm hj]
          by_cases hjk : j = k
          · simp [hjk]
          · simp [hjk, Ne.symm hjk]
      · rw [if_neg hki]
        by_cases hj : k = j
        · subst hj; simp [hk, hki]
        · simp [hj, hki]
/-- An object gets another number. -/
theorem weak_ren (S : St) (id id' : Nat) (hne : id ≠ id') : Weak S (S.ren id id') := fun G E ok a w c => by
  have hob : ∀ j o, look (S.ren id id').ob j = some o → ∃ i o', look S.ob i = some o' ∧ o = renOb id id' o' ∧ (E.ren id id').blk j = E.blk i ∧ (E.ren id id').hdr j = E.hdr i ∧ ((j = id' ∧ i = id) ∨ (j ≠ id' ∧ i = j ∧ i ≠ id)) := by
    intro j o h
    simp only [St.ren] at h
    rw [look_ren id id' hne] at h
    split at h
    · rename_i e
      subst e
      simp only [Option.map_eq_some_iff] at h
      obtain ⟨o', h1, rfl⟩ := h
      exact ⟨id, o', h1, rfl, (E.ren_eq id j).1, (E.ren_eq id j).2, .inl ⟨rfl, rfl⟩⟩
    · rename_i e
      split at h
      · cases h
      · rename_i e2
        simp only [Option.map_eq_some_iff] at h
        obtain ⟨o', h1, rfl⟩ := h
        exact ⟨j, o', h1, rfl, (E.ren_ne id id' j e).1, (E.ren_ne id id' j e).2, .inr ⟨e, rfl, e2⟩⟩
  refine ⟨E.ren id id', ok, { c with n := c.n, slot := fun t => ?_, obj := fun j o h => ?_, apart := fun i j o p b h1 h2 hij hb => ?_, reg := fun i o b h hb => ?_ }⟩
  · have h1 : (S.ren id id').get t = renD id id' (S.get t) := by
      simp only [St.ren, St.get, look_map]
      cases look S.sl t with
      | none => simp [renD, mentions]
      | some d => rfl
    rw [h1]; exact renD_rep id id' (c.slot t)
  · obtain ⟨i, o', h1, rfl, h2, h3, _⟩ := hob j o h
    have h4 := c.obj i o' h1
    cases o' with
    | box l =>
      obtain ⟨b, e, cs, q1, q2, q3, q4, q5⟩ := h4
      refine ⟨b, e, cs, h2.trans q1, q2, by simpa using q3, q4, fun k hk => ?_⟩
      obtain ⟨u, k1, k2, k3⟩ := q5 k (by simpa using hk)
      exact ⟨u, k1, k2, by simp only [List.getElem_map]; exact renD_rep id id' k3⟩
    | cbox l =>
      obtain ⟨b, q1, q2⟩ := h4
      exact ⟨b, h2.trans q1, q2⟩
    | row z l ex =>
      rcases h4 with ⟨q1, q2, q3⟩ | ⟨b, cap, cs, e, q1, q2, q3⟩
      · exact .inl ⟨q1, h2.trans q2, h3.trans q3⟩
      · exact .inr ⟨b, cap, cs, e, h2.trans q1, h3.trans q2, q3⟩
  · obtain ⟨i', o', q1, _, q2, _, q3⟩ := hob i o h1
    obtain ⟨j', p', k1, _, k2, _, k3⟩ := hob j p h2
    rw [k2]
    rw [q2] at hb
    refine c.apart i' j' o' p' b q1 k1 (fun e => ?_) hb
    rcases q3 with ⟨rfl, rfl⟩ | ⟨_, rfl, q4⟩ <;> rcases k3 with ⟨rfl, rfl⟩ | ⟨_, rfl, k4⟩
    · exact hij rfl
    · exact k4 e.symm
    · exact q4 e
    · exact hij e
  · obtain ⟨i', o', q1, _, q2, _, _⟩ := hob i o h
    rw [q2] at hb
    exact c.reg i' o' b q1 hb

/-- A nil slice becomes an empty row of the call's own. -/
theorem weak_nils (S : St) (t id z : Nat) (ex : Bool) (ht : S.get t = .nils) : Weak S ((S.new id (.row z [] ex)).put (some t) (.own id)) := fun G E ok a w c => by
  have c2 := c.add (E' := E.set id none 0 0) id (.row z [] ex) (E.set_ne _ _ _ _) (.inl ⟨rfl, E.set_blk _ _ _ _, E.set_hdr _ _ _ _⟩) (fun b hb => by rw [E.set_blk] at hb; cases hb)
  refine ⟨_, ok, c2.refine (t := t) ?_⟩
  have h1 := c.slot t
  rw [ht] at h1
  rw [repD_nils h1]
  have h2 := RepD.own (E := E.set id none 0 0) (ok := ok) (w := w) id
  rw [E.set_hdr] at h2
  exact h2
end Go.Proofs.Ytinckcpmkocakaa.AM
