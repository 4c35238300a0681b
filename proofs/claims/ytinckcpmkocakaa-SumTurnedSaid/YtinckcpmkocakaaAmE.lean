/-
  The abstract machine, part 15: the state's own changes.
-/
import Derived.Test.YtinckcpmkocakaaAmQA
set_option linter.unusedVariables false
set_option linter.unusedSimpArgs false
namespace Go.Proofs.Ytinckcpmkocakaa.AM
open Go Go.RowKit

theorem look_remOb (id : Nat) : ∀ (ob : List (Nat × AObj)) (j : Nat), look (remOb id ob) j = if j = id then none else look ob j
  | [], j => by simp [remOb, look]
  | (k, o) :: r, j => by
    have ih := look_remOb id r j
    unfold remOb
    by_cases h : k = id
    · subst h
      rw [if_pos rfl, ih]
      by_cases hj : j = k
      · simp [hj]
      · simp [hj, look, Ne.symm hj]
    · rw [if_neg h]
      simp only [look]
      by_cases hj : k = j
      · subst hj; simp [h]
      · simp [hj, ih]
theorem look_map {α β : Type} (f : α → β) : ∀ (l : List (Nat × α)) (j : Nat), look (l.map fun p => (p.1, f p.2)) j = (look l j).map f
  | [], j => rfl
  | (k, x) :: r, j => by
    simp only [List.map_cons, look]
    by_cases h : k = j
    · simp [h]
    · simp [h, look_map f r j]
theorem get_kill (S : St) (id t : Nat) : (S.kill id).get t = unD id (S.get t) := by
  simp only [St.kill, St.get, look_map]
  cases look S.sl t with
  | none => simp [unD, mentions]
  | some d => rfl
theorem look_kill (S : St) (id j : Nat) : look (S.kill id).ob j = if j = id then none else (look S.ob j).map (unOb id) := by
  simp only [St.kill, look_map, look_remOb]
  split <;> rfl
theorem unD_rep {E : Env} {ok : Oks} {w : World} {d : D} {u : Value} (id : Nat) (h : RepD E ok w d u) : RepD E ok w (unD id d) u := by
  unfold unD; split
  · exact .any _
  · exact h
theorem unOb_rep {E : Env} {ok : Oks} {w : World} {o : AObj} {j : Nat} (id : Nat) (h : ObjRep E ok w j o) : ObjRep E ok w j (unOb id o) := by
  cases o with
  | box l =>
    obtain ⟨b, e, cs, h1, h2, h3, h4, h5⟩ := h
    refine ⟨b, e, cs, h1, h2, by simpa using h3, h4, fun i hi => ?_⟩
    obtain ⟨u, q1, q2, q3⟩ := h5 i (by simpa using hi)
    exact ⟨u, q1, q2, by simp only [List.getElem_map]; exact unD_rep id q3⟩
  | _ => exact h
theorem Conc.kill {G : Gh} {E : Env} {ok : Oks} {S : St} {a : Act} {w : World} (c : Conc G E ok S a w) (id : Nat) : Conc G E ok (S.kill id) a w := by
  have hob : ∀ j o, look (S.kill id).ob j = some o → ∃ o', look S.ob j = some o' ∧ o = unOb id o' := by
    intro j o h
    rw [look_kill] at h
    split at h
    · simp at h
    · simp only [Option.map_eq_some_iff] at h
      obtain ⟨o', h1, rfl⟩ := h
      exact ⟨o', h1, rfl⟩
  refine { c with n := c.n, slot := fun t => ?_, obj := fun j o h => ?_, apart := fun i j o p b h1 h2 => ?_, reg := fun i o b h => ?_ }
  · rw [get_kill]; exact unD_rep id (c.slot t)
  · obtain ⟨o', h1, rfl⟩ := hob j o h
    exact unOb_rep id (c.obj _ _ h1)
  · obtain ⟨o', h3, _⟩ := hob i o h1
    obtain ⟨p', h4, _⟩ := hob j p h2
    exact c.apart i j o' p' b h3 h4
  · obtain ⟨o', h3, _⟩ := hob i o h
    exact c.reg i o' b h3
theorem Conc.rem {G : Gh} {E : Env} {ok : Oks} {S : St} {a : Act} {w : World} (c : Conc G E ok S a w) (id : Nat) : Conc G E ok { S with ob := remOb id S.ob } a w := by
  have hob : ∀ j o, look (remOb id S.ob) j = some o → look S.ob j = some o := by
    intro j o h
    rw [look_remOb] at h
    split at h
    · simp at h
    · exact h
  exact { c with obj := fun j o h => c.obj j o (hob j o h), apart := fun i j o p b h1 h2 => c.apart i j o p b (hob _ _ h1) (hob _ _ h2), reg := fun i o b h => c.reg i o b (hob _ _ h) }

theorem mentionsL_get {id : Nat} : ∀ {l : List D}, mentionsL id l = false → ∀ i (h : i < l.length), mentions id (l[i]'h) = false
  | [], _, i, h => by simp at h
  | d :: r, hm, i, h => by
    simp only [mentionsL, Bool.or_eq_false_iff] at hm
    cases i with
    | zero => exact hm.1
    | succ i => exact mentionsL_get hm.2 i (by simpa using h)
/-- Of what does not mention a number, its place tells nothing. -/
theorem RepD.env {E E' : Env} {ok : Oks} {w : World} {d : D} {u : Value} {id : Nat} (he : ∀ j, j ≠ id → E'.blk j = E.blk j ∧ E'.hdr j = E.hdr j) (r : RepD E ok w d u) (hm : mentions id d = false) : RepD E' ok w d u := by
  induction r with
  | any u => exact .any u
  | lit b => exact .lit b
  | v x u r => exact .v x u r
  | nils => exact .nils
  | agg l cs hl hcell hr ih => exact .agg l cs hl hcell (fun i h h' => ih i h h' (mentionsL_get (by simpa [mentions] using hm) i h))
  | tup l cs hl hr ih => exact .tup l cs hl (fun i h h' => ih i h h' (mentionsL_get (by simpa [mentions] using hm) i h))
  | ptr j off b hb => exact .ptr j off b (by rw [(he j (by simpa [mentions] using hm)).1]; exact hb)
  | own j => rw [← (he j (by simpa [mentions] using hm)).2]; exact .own j
  | rptr j z i off b hb hi => exact .rptr j z i off b (by rw [(he j (by simpa [mentions] using hm)).1]; exact hb) hi
  | fn f cap cs hl hr ih => exact .fn f cap cs hl (fun i h h' => ih i h h' (mentionsL_get (by simpa [mentions] using hm) i h))
theorem mentions_unD (id : Nat) (d : D) : mentions id (unD id d) = false := by
  unfold unD
  cases h : mentions id d with
  | true => rfl
  | false => exact h
theorem ObjRep.env {E E' : Env} {ok : Oks} {w : World} {o : AObj} {j id : Nat} (he : ∀ j, j ≠ id → E'.blk j = E.blk j ∧ E'.hdr j = E.hdr j) (hj : j ≠ id) (h : ObjRep E ok w j (unOb id o)) : ObjRep E' ok w j (unOb id o) := by
  cases o with
  | box l =>
    obtain ⟨b, e, cs, h1, h2, h3, h4, h5⟩ := h
    refine ⟨b, e, cs, by rw [(he j hj).1]; exact h1, h2, h3, h4, fun i hi => ?_⟩
    obtain ⟨u, q1, q2, q3⟩ := h5 i hi
    exact ⟨u, q1, q2, q3.env he (by simp only [List.getElem_map]; exact mentions_unD id _)⟩
  | cbox l =>
    obtain ⟨b, h1, h2⟩ := h
    exact ⟨b, by rw [(he j hj).1]; exact h1, h2⟩
  | row z l ex =>
    rcases h with ⟨h1, h2, h3⟩ | ⟨b, cap, cs, e, h1, h2, h3⟩
    · exact .inl ⟨h1, by rw [(he j hj).1]; exact h2, by rw [(he j hj).2]; exact h3⟩
    · exact .inr ⟨b, cap, cs, e, by rw [(he j hj).1]; exact h1, by rw [(he j hj).2]; exact h2, h3⟩

/-- The world goes on, and leaves the objects alone. -/
structure Step (G : Gh) (E : Env) (S : St) (w : World) (ok : Oks) (w' : World) (ok' : Oks) : Prop where
  same : Same ok ok' w w'
  blocks : ∀ id o b, look S.ob id = some o → E.blk id = some b → w'.heap[b]? = w.heap[b]? ∧ ∀ o', ok' b o' → ok b o'
  okb : ∀ b o, ok' b o → b < w'.heap.size
  newk : ∀ b o, ok' b o → ok b o ∨ G.w0.heap.size ≤ b ∨ G.M b
  os : w'.os = w.os
  tape : w'.tape = w.tape
  output : w'.output = w.output
  size : w.heap.size ≤ w'.heap.size
  old : ∀ b, b < G.w0.heap.size → ¬ G.M b → w'.heap[b]? = w.heap[b]?
theorem ObjRep.step {G : Gh} {E : Env} {S : St} {w w' : World} {ok ok' : Oks} (s : Step G E S w ok w' ok') {id : Nat} {o : AObj} (hl : look S.ob id = some o) (h : ObjRep E ok w id o) : ObjRep E ok' w' id o := by
  cases o with
  | box l =>
    obtain ⟨b, e, cs, h1, h2, h3, h4, h5⟩ := h
    obtain ⟨q1, q2⟩ := s.blocks _ _ _ hl h1
    refine ⟨b, e, cs, h1, q1.trans h2, h3, fun o' q => h4 o' (q2 o' q), fun i hi => ?_⟩
    obtain ⟨u, q3, q4, q5⟩ := h5 i hi
    exact ⟨u, q3, q4, q5.mono s.same⟩
  | cbox l =>
    obtain ⟨b, h1, hlt, h2, h3⟩ := h
    refine ⟨b, h1, Nat.lt_of_lt_of_le hlt s.size, h2, fun j hj => ?_⟩
    obtain ⟨q, u, hu, hr⟩ := h3 j hj
    exact ⟨s.same.sub _ _ q, u, (s.same.cell _ _ q).trans hu, hr.mono s.same⟩
  | row z l ex =>
    rcases h with h | ⟨b, cap, cs, e, h1, h2, h3, h4, h5, h6, h7, h8⟩
    · exact .inl h
    · obtain ⟨q1, q2⟩ := s.blocks _ _ _ hl h1
      have hc : ∀ o, w'.cell? ⟨b, o, none⟩ = w.cell? ⟨b, o, none⟩ := fun o => by simp only [World.cell?, q1]
      exact .inr ⟨b, cap, cs, e, h1, h2, q1.trans h3, h4, h5, h6, h7.mono s.same (fun i _ => hc _), fun o' => ⟨fun q => (h8 o').1 (q2 o' q), fun q => s.same.sub _ _ ((h8 o').2 q)⟩⟩
theorem Conc.step {G : Gh} {E : Env} {ok ok' : Oks} {S : St} {a : Act} {w w' : World} (c : Conc G E ok S a w) (s : Step G E S w ok w' ok') : Conc G E ok' S a w' where
  n := c.n
  defers := c.defers
  slot t := (c.slot t).mono s.same
  obj id o h := (c.obj id o h).step s h
  apart := c.apart
  reg := c.reg
  okb := s.okb
  sub b o h := s.same.sub _ _ (c.sub b o h)
  newk b o h := (s.newk b o h).elim (c.newk b o) .inr
  os := s.os.trans c.os
  tape := s.tape.trans c.tape
  output := s.output.trans c.output
  size := Nat.le_trans c.size s.size
  old b h1 h2 := (s.old b h1 h2).trans (c.old b h1 h2)
theorem Step.of_grow {G : Gh} {E : Env} {ok ok' : Oks} {S : St} {a : Act} {w w' : World} (c : Conc G E ok S a w) (g : Grow w ok w' ok') : Step G E S w ok w' ok' where
  same := g.same c.okb
  blocks id o b h1 h2 := by
    have hlt : b < w.heap.size := by
      have := c.obj id o h1
      cases o with
      | box l => obtain ⟨b', _, _, q, q', _⟩ := this; rw [h2] at q; cases q; exact heap_lt q'
      | cbox l => obtain ⟨b', q, q', _⟩ := this; rw [h2] at q; cases q; exact q'
      | row z l ex =>
        rcases this with ⟨_, q, _⟩ | ⟨b', _, _, _, q, _, q', _⟩
        · rw [h2] at q; cases q
        · rw [h2] at q; cases q; exact heap_lt q'
    refine ⟨g.below.block b hlt, fun o' q => ?_⟩
    rcases g.new b o' q with q | ⟨q, _⟩
    · exact q
    · omega
  okb := g.okb c.okb
  newk b o h := (g.new b o h).imp id fun q => .inl (Nat.le_trans c.size q.1)
  os := g.below.os
  tape := g.below.tape
  output := g.below.output
  size := g.below.size
  old b h1 _ := g.below.block b (Nat.lt_of_lt_of_le h1 c.size)
theorem obj_lt {G : Gh} {E : Env} {ok : Oks} {S : St} {a : Act} {w : World} (c : Conc G E ok S a w) {id b : Nat} {o : AObj} (h1 : look S.ob id = some o) (h2 : E.blk id = some b) : b < w.heap.size := by
  have := c.obj id o h1
  cases o with
  | box l => obtain ⟨b', _, _, q, q', _⟩ := this; rw [h2] at q; cases q; exact heap_lt q'
  | cbox l => obtain ⟨b', q, q', _⟩ := this; rw [h2] at q; cases q; exact q'
  | row z l ex =>
    rcases this with ⟨_, q, _⟩ | ⟨b', _, _, _, q, _, q', _⟩
    · rw [h2] at q; cases q
    · rw [h2] at q; cases q; exact heap_lt q'

/-- An object comes to a state that does not mention it. -/
theorem Conc.add {G : Gh} {E E' : Env} {ok : Oks} {S : St} {a : Act} {w : World} (c : Conc G E ok S a w) (id : Nat) (o : AObj) (he : ∀ j, j ≠ id → E'.blk j = E.blk j ∧ E'.hdr j = E.hdr j)
    (ho : ObjRep E' ok w id (unOb id o)) (hap : ∀ b, E'.blk id = some b → (∀ j p, j ≠ id → look S.ob j = some p → E.blk j ≠ some b) ∧ (G.w0.heap.size ≤ b ∨ G.M b)) : Conc G E' ok (S.new id o) a w := by
  have ck := c.kill id
  have hob : ∀ j p, look (S.new id o).ob j = some p → (j = id ∧ p = unOb id o) ∨ (j ≠ id ∧ ∃ p', look S.ob j = some p' ∧ p = unOb id p') := by
    intro j p h
    simp only [St.new, look] at h
    split at h
    · rename_i e; simp at h; exact .inl ⟨e.symm, h.symm⟩
    · rename_i e
      rw [look_kill, if_neg (Ne.symm e)] at h
      simp only [Option.map_eq_some_iff] at h
      obtain ⟨p', h1, rfl⟩ := h
      exact .inr ⟨Ne.symm e, p', h1, rfl⟩
  refine { ck with n := ck.n, slot := fun t => ?_, obj := fun j p h => ?_, apart := fun i j p q b h1 h2 hne hb => ?_, reg := fun i p b h hb => ?_ }
  · have h1 := ck.slot t
    have h2 : (S.new id o).get t = (S.kill id).get t := rfl
    rw [h2]
    exact h1.env he (by rw [get_kill]; exact mentions_unD id _)
  · rcases hob j p h with ⟨rfl, rfl⟩ | ⟨hj, p', h1, rfl⟩
    · exact ho
    · exact (unOb_rep id (c.obj _ _ h1)).env he hj
  · rcases hob i p h1 with ⟨rfl, _⟩ | ⟨hi, p', h3, _⟩ <;> rcases hob j q h2 with ⟨rfl, _⟩ | ⟨hj, q', h4, _⟩
    · exact absurd rfl hne
    · rw [(he j hj).1]
      exact (hap b hb).1 j q' hj h4
    · rw [(he i hi).1] at hb
      intro hx
      exact (hap b hx).1 i p' hi h3 hb
    · rw [(he i hi).1] at hb
      rw [(he j hj).1]
      exact c.apart i j p' q' b h3 h4 hne hb
  · rcases hob i p h with ⟨rfl, _⟩ | ⟨hi, p', h3, _⟩
    · exact (hap b hb).2
    · rw [(he i hi).1] at hb
      exact c.reg i p' b h3 hb
/-- An object that was taken out comes back, changed. -/
theorem Conc.back {G : Gh} {E : Env} {ok : Oks} {S : St} {a : Act} {w : World} {id : Nat} (c : Conc G E ok { S with ob := remOb id S.ob } a w) (o : AObj) (ho : ObjRep E ok w id o)
    (hap : ∀ b, E.blk id = some b → (∀ j p, j ≠ id → look S.ob j = some p → E.blk j ≠ some b) ∧ (G.w0.heap.size ≤ b ∨ G.M b)) : Conc G E ok (S.setOb id o) a w := by
  have hob : ∀ j p, look (S.setOb id o).ob j = some p → (j = id ∧ p = o) ∨ (j ≠ id ∧ look S.ob j = some p) := by
    intro j p h
    simp only [St.setOb, look] at h
    split at h
    · rename_i e; simp at h; exact .inl ⟨e.symm, h.symm⟩
    · rename_i e
      rw [look_remOb, if_neg (Ne.symm e)] at h
      exact .inr ⟨Ne.symm e, h⟩
  refine { c with n := c.n, slot := fun t => c.slot t, obj := fun j p h => ?_, apart := fun i j p q b h1 h2 hne hb => ?_, reg := fun i p b h hb => ?_ }
  · rcases hob j p h with ⟨rfl, rfl⟩ | ⟨hj, h1⟩
    · exact ho
    · exact c.obj j p (by simp only [look_remOb, if_neg hj]; exact h1)
  · rcases hob i p h1 with ⟨rfl, _⟩ | ⟨hi, h3⟩ <;> rcases hob j q h2 with ⟨rfl, _⟩ | ⟨hj, h4⟩
    · exact absurd rfl hne
    · exact (hap b hb).1 j q hj h4
    · intro hx
      exact (hap b hx).1 i p hi h3 hb
    · exact c.apart i j p q b (by simp only [look_remOb, if_neg hi]; exact h3) (by simp only [look_remOb, if_neg hj]; exact h4) hne hb
  · rcases hob i p h with ⟨rfl, _⟩ | ⟨hi, h3⟩
    · exact (hap b hb).2
    · exact c.reg i p b (by simp only [look_remOb, if_neg hi]; exact h3) hb
end Go.Proofs.Ytinckcpmkocakaa.AM
