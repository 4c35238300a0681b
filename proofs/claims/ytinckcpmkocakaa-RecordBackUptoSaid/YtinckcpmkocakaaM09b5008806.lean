/-
  The abstract machine, part 15: the state's own changes.
-/
import Derived.Test.YtinckcpmkocakaaM0842d1620d
import Derived.Deep.AppendSrc
import Derived.Deep.Upon
set_option linter.unusedVariables false
set_option linter.unusedSimpArgs false
namespace Go.Proofs.Ytinckcpmkocakaa.AM
open Go Go.RowKit

theorem look_remOb (id : Nat) : ∀ (ob : List (Nat × AObj)) (j : Nat), look (remOb id ob) j = if j = id then none else look ob j
  | [], j => by simp [remOb, look]
  | (k, o) :: r, j => by
    have ih := look_remOb id r j
    unfold remOb
    by_cases h : k = id
    · subst h
      rw [if_pos rfl, ih]
      by_cases hj : j = k
      · simp [hj]
      · simp [hj, look, Ne.symm hj]
    · rw [if_neg h]
      simp only [look]
      by_cases hj : k = j
      · subst hj; simp [h]
      · simp [hj, ih]
theorem look_map {α β : Type} (f : α → β) : ∀ (l : List (Nat × α)) (j : Nat), look (l.map fun p => (p.1, f p.2)) j = (look l j).map f
  | [], j => rfl
  | (k, x) :: r, j => by
    simp only [List.map_cons, look]
    by_cases h : k = j
    · simp [h]
    · simp [h, look_map f r j]
theorem get_kill (S : St) (id t : Nat) : (S.kill id).get t = unD id (S.get t) := by
  simp only [St.kill, St.get, look_map]
  cases look S.sl t with
  | none => simp [unD, mentions]
  | some d => rfl
theorem look_kill (S : St) (id j : Nat) : look (S.kill id).ob j = if j = id then none else (look S.ob j).map (unOb id) := by
  simp only [St.kill, look_map, look_remOb]
  split <;> rfl
theorem unD_rep {E : Env} {ok : Oks} {w : World} {d : D} {u : Value} (id : Nat) (h : RepD E ok w d u) : RepD E ok w (unD id d) u := by
  unfold unD; split
  · exact .any _
  · exact h
theorem unOb_rep {E : Env} {ok : Oks} {w : World} {o : AObj} {j : Nat} (id : Nat) (h : ObjRep E ok w j o) : ObjRep E ok w j (unOb id o) := by
  cases o with
  | box l =>
    obtain ⟨b, e, cs, h1, h2, h3, h4, h5⟩ := h
    refine ⟨b, e, cs, h1, h2, by simpa using h3, h4, fun i hi => ?_⟩
    obtain ⟨u, q1, q2, q3⟩ := h5 i (by simpa using hi)
    exact ⟨u, q1, q2, by simp only [List.getElem_map]; exact unD_rep id q3⟩
  | _ => exact h
theorem occ_unOb (E : Env) (ok : Oks) (id j : Nat) (o : AObj) (b : Nat) : occ E ok j (unOb id o) b ↔ occ E ok j o b := by cases o <;> exact Iff.rfl
theorem isHeap_unOb (id : Nat) (o : AObj) : (unOb id o).isHeap ↔ o.isHeap := by cases o <;> exact Iff.rfl
theorem occ_E {E E' : Env} {id : Nat} (he : ∀ j, j ≠ id → E'.blk j = E.blk j ∧ E'.hdr j = E.hdr j) (ok : Oks) {j : Nat} (hj : j ≠ id) (o : AObj) (b : Nat) : occ E' ok j o b ↔ occ E ok j o b := by
  cases o <;> first | exact Iff.rfl | (unfold occ; rw [(he j hj).1])
theorem Conc.kill {G : Gh} {E : Env} {ok : Oks} {S : St} {a : Act} {w : World} (c : Conc G E ok S a w) (id : Nat) : Conc G E ok (S.kill id) a w := by
  have hob : ∀ j o, look (S.kill id).ob j = some o → ∃ o', look S.ob j = some o' ∧ o = unOb id o' := by
    intro j o h
    rw [look_kill] at h
    split at h
    · simp at h
    · simp only [Option.map_eq_some_iff] at h
      obtain ⟨o', h1, rfl⟩ := h
      exact ⟨o', h1, rfl⟩
  refine { c with n := c.n, slot := fun t => ?_, obj := fun j o h => ?_, apart := fun i j o p b h1 h2 => ?_, reg := fun i o b h => ?_, hp := fun i gh pub h => ?_ }
  · rw [get_kill]; exact unD_rep id (c.slot t)
  · obtain ⟨o', h1, rfl⟩ := hob j o h
    exact unOb_rep id (c.obj _ _ h1)
  · obtain ⟨o', h3, rfl⟩ := hob i o h1
    obtain ⟨p', h4, rfl⟩ := hob j p h2
    rw [occ_unOb, occ_unOb]
    exact c.apart i j o' p' b h3 h4
  · obtain ⟨o', h3, rfl⟩ := hob i o h
    rw [occ_unOb, isHeap_unOb]
    exact c.reg i o' b h3
  · obtain ⟨o', h3, e⟩ := hob i _ h
    cases o' with
    | heap gh2 pub2 => exact c.hp i _ _ h3
    | _ => simp [unOb] at e
theorem Conc.rem {G : Gh} {E : Env} {ok : Oks} {S : St} {a : Act} {w : World} (c : Conc G E ok S a w) (id : Nat) : Conc G E ok { S with ob := remOb id S.ob } a w := by
  have hob : ∀ j o, look (remOb id S.ob) j = some o → look S.ob j = some o := by
    intro j o h
    rw [look_remOb] at h
    split at h
    · simp at h
    · exact h
  exact { c with obj := fun j o h => c.obj j o (hob j o h), apart := fun i j o p b h1 h2 => c.apart i j o p b (hob _ _ h1) (hob _ _ h2), reg := fun i o b h => c.reg i o b (hob _ _ h), hp := fun i gh pub h => c.hp i gh pub (hob _ _ h) }

theorem mentionsL_get {id : Nat} : ∀ {l : List D}, mentionsL id l = false → ∀ i (h : i < l.length), mentions id (l[i]'h) = false
  | [], _, i, h => by simp at h
  | d :: r, hm, i, h => by
    simp only [mentionsL, Bool.or_eq_false_iff] at hm
    cases i with
    | zero => exact hm.1
    | succ i => exact mentionsL_get hm.2 i (by simpa using h)
/-- Of what does not mention a number, its place tells nothing. -/
theorem RepD.env {E E' : Env} {ok : Oks} {w : World} {d : D} {u : Value} {id : Nat} (he : ∀ j, j ≠ id → E'.blk j = E.blk j ∧ E'.hdr j = E.hdr j) (r : RepD E ok w d u) (hm : mentions id d = false) : RepD E' ok w d u := by
  induction r with
  | any u => exact .any u
  | ub b => exact .ub b
  | lit b => exact .lit b
  | v x u r => exact .v x u r
  | nils => exact .nils
  | agg l cs hl hcell hr ih => exact .agg l cs hl hcell (fun i h h' => ih i h h' (mentionsL_get (by simpa [mentions] using hm) i h))
  | tup l cs hl hr ih => exact .tup l cs hl (fun i h h' => ih i h h' (mentionsL_get (by simpa [mentions] using hm) i h))
  | ptr j off b hb => exact .ptr j off b (by rw [(he j (by simpa [mentions] using hm)).1]; exact hb)
  | own j => rw [← (he j (by simpa [mentions] using hm)).2]; exact .own j
  | rptr j z i off b hb hi => exact .rptr j z i off b (by rw [(he j (by simpa [mentions] using hm)).1]; exact hb) hi
  | fn f cap cs hl hr ih => exact .fn f cap cs hl (fun i h h' => ih i h h' (mentionsL_get (by simpa [mentions] using hm) i h))
theorem mentions_unD (id : Nat) (d : D) : mentions id (unD id d) = false := by
  unfold unD
  cases h : mentions id d with
  | true => rfl
  | false => exact h
theorem ObjRep.env {E E' : Env} {ok : Oks} {w : World} {o : AObj} {j id : Nat} (he : ∀ j, j ≠ id → E'.blk j = E.blk j ∧ E'.hdr j = E.hdr j) (hj : j ≠ id) (h : ObjRep E ok w j (unOb id o)) : ObjRep E' ok w j (unOb id o) := by
  cases o with
  | box l =>
    obtain ⟨b, e, cs, h1, h2, h3, h4, h5⟩ := h
    refine ⟨b, e, cs, by rw [(he j hj).1]; exact h1, h2, h3, h4, fun i hi => ?_⟩
    obtain ⟨u, q1, q2, q3⟩ := h5 i hi
    exact ⟨u, q1, q2, q3.env he (by simp only [List.getElem_map]; exact mentions_unD id _)⟩
  | cbox l =>
    obtain ⟨b, h1, h2⟩ := h
    exact ⟨b, by rw [(he j hj).1]; exact h1, h2⟩
  | row z l ex =>
    rcases h with ⟨h1, h2, h3⟩ | ⟨b, cap, cs, e, h1, h2, h3⟩
    · exact .inl ⟨h1, by rw [(he j hj).1]; exact h2, by rw [(he j hj).2]; exact h3⟩
    · exact .inr ⟨b, cap, cs, e, by rw [(he j hj).1]; exact h1, by rw [(he j hj).2]; exact h2, h3⟩
  | heap gh pub => exact h

/-- The world goes on, and leaves the objects alone. -/
structure Step (G : Gh) (E : Env) (S : St) (w : World) (ok : Oks) (w' : World) (ok' : Oks) : Prop where
  same : Same ok ok' w w'
  env : EnvEq ok ok'
  blocks : ∀ id o b, look S.ob id = some o → occ E ok id o b → w'.heap[b]? = w.heap[b]? ∧ ∀ o', ok' b o' → ok b o'
  okb : ∀ b o, ok' b o → b < w'.heap.size
  newk : ∀ b o, ok' b o → ok b o ∨ G.w0.heap.size ≤ b ∨ G.M b
  os : w'.os = w.os
  tape : w'.tape = w.tape
  output : w'.output = w.output
  size : w.heap.size ≤ w'.heap.size
  old : ∀ b, b < G.w0.heap.size → ¬ G.M b → w'.heap[b]? = w.heap[b]?
theorem ObjRep.step {G : Gh} {E : Env} {S : St} {w w' : World} {ok ok' : Oks} (s : Step G E S w ok w' ok') {id : Nat} {o : AObj} (hl : look S.ob id = some o) (h : ObjRep E ok w id o) : ObjRep E ok' w' id o := by
  cases o with
  | box l =>
    obtain ⟨b, e, cs, h1, h2, h3, h4, h5⟩ := h
    obtain ⟨q1, q2⟩ := s.blocks _ _ _ hl h1
    refine ⟨b, e, cs, h1, q1.trans h2, h3, fun o' q => h4 o' (q2 o' q), fun i hi => ?_⟩
    obtain ⟨u, q3, q4, q5⟩ := h5 i hi
    exact ⟨u, q3, q4, q5.mono s.same⟩
  | cbox l =>
    obtain ⟨b, h1, hlt, h2, h3⟩ := h
    refine ⟨b, h1, Nat.lt_of_lt_of_le hlt s.size, h2, fun j hj => ?_⟩
    obtain ⟨q, u, hu, hr⟩ := h3 j hj
    exact ⟨s.same.sub _ _ q, u, (s.same.cell _ _ q).trans hu, hr.mono s.same⟩
  | row z l ex =>
    rcases h with h | ⟨b, cap, cs, e, h1, h2, h3, h4, h5, h6, h7, h8⟩
    · exact .inl h
    · obtain ⟨q1, q2⟩ := s.blocks _ _ _ hl h1
      have hc : ∀ o, w'.cell? ⟨b, o, none⟩ = w.cell? ⟨b, o, none⟩ := fun o => by simp only [World.cell?, q1]
      exact .inr ⟨b, cap, cs, e, h1, h2, q1.trans h3, h4, h5, h6, h7.mono s.same (fun i _ => hc _), fun o' => ⟨fun q => (h8 o').1 (q2 o' q), fun q => s.same.sub _ _ ((h8 o').2 q)⟩⟩
  | heap gh pub => exact ⟨h.1, GlOk.stay s.same s.size s.env (fun b hb => s.blocks _ _ b hl hb) h.2⟩
theorem Conc.step {G : Gh} {E : Env} {ok ok' : Oks} {S : St} {a : Act} {w w' : World} (c : Conc G E ok S a w) (s : Step G E S w ok w' ok') : Conc G E ok' S a w' where
  n := c.n
  defers := c.defers
  slot t := (c.slot t).mono s.same
  obj id o h := (c.obj id o h).step s h
  apart i j o p b h1 h2 hne hb := by rw [occ_env s.env] at hb ⊢; exact c.apart i j o p b h1 h2 hne hb
  reg i o b h1 hb := by rw [occ_env s.env] at hb; exact c.reg i o b h1 hb
  okb := s.okb
  sub b o h := s.same.sub _ _ (c.sub b o h)
  env := c.env.trans s.env.ext
  envq q := (c.envq q).trans s.env
  hp := c.hp
  newk b o h := (s.newk b o h).elim (c.newk b o) .inr
  os := s.os.trans c.os
  tape := s.tape.trans c.tape
  output := s.output.trans c.output
  size := Nat.le_trans c.size s.size
  old b h1 h2 := (s.old b h1 h2).trans (c.old b h1 h2)
  keep b o q := (s.same.cell b o (c.sub b o q)).trans (c.keep b o q)
theorem obj_lt {G : Gh} {E : Env} {ok : Oks} {S : St} {a : Act} {w : World} (c : Conc G E ok S a w) {id b : Nat} {o : AObj} (h1 : look S.ob id = some o) (h2 : occ E ok id o b) : b < w.heap.size := by
  have := c.obj id o h1
  cases o with
  | box l => obtain ⟨b', _, _, q, q', _⟩ := this; rw [show E.blk id = some b from h2] at q; cases q; exact heap_lt q'
  | cbox l => obtain ⟨b', q, q', _⟩ := this; rw [show E.blk id = some b from h2] at q; cases q; exact q'
  | row z l ex =>
    rcases this with ⟨_, q, _⟩ | ⟨b', _, _, _, q, _, q', _⟩
    · rw [show E.blk id = some b from h2] at q; cases q
    · rw [show E.blk id = some b from h2] at q; cases q; exact heap_lt q'
  | heap gh pub => exact GlOk.lt this.2 h2
theorem Step.of_grow {G : Gh} {E : Env} {ok ok' : Oks} {S : St} {a : Act} {w w' : World} (c : Conc G E ok S a w) (g : Grow w ok w' ok') : Step G E S w ok w' ok' where
  same := g.same c.okb
  env := g.env
  blocks id o b h1 h2 := by
    have hlt : b < w.heap.size := obj_lt c h1 h2
    refine ⟨g.below.block b hlt, fun o' q => ?_⟩
    rcases g.new b o' q with q | ⟨q, _⟩
    · exact q
    · omega
  okb := g.okb c.okb
  newk b o h := (g.new b o h).imp id fun q => .inl (Nat.le_trans c.size q.1)
  os := g.below.os
  tape := g.below.tape
  output := g.below.output
  size := g.below.size
  old b h1 _ := g.below.block b (Nat.lt_of_lt_of_le h1 c.size)

/-- The common heap is changed, by itself or by a callee; nothing else that was there. -/
theorem Conc.swap2 {G : Gh} {E : Env} {ok ok' : Oks} {S : St} {a : Act} {w w' : World} {gh gh' : GH} {pub pub' : List Nat} (c : Conc G E ok S a w) (hh : look S.ob hk = some (.heap gh pub)) (fr : Frame (occG ok gh) w w') (same : Same ok ok' w w')
    (hn : ∀ b o, ok' b o → b < w'.heap.size ∧ (ok b o ∨ occG ok gh b ∨ w.heap.size ≤ b)) (gl : GlOk ok' gh' w') (hg : ∀ b, occG ok' gh' b → occG ok gh b ∨ w.heap.size ≤ b ∨ (G.w0.heap.size ≤ b ∧ ∀ j p, j ≠ hk → look S.ob j = some p → ¬ occ E ok j p b)) : Conc G E ok' (S.setOb hk (.heap gh' pub')) a w' := by
  have hs := same.sub
  have he := same.env
  have blocks : ∀ id o b, id ≠ hk → look S.ob id = some o → occ E ok id o b → w'.heap[b]? = w.heap[b]? ∧ ∀ o', ok' b o' → ok b o' := fun id o b hne hl hb => by
    have h1 := obj_lt c hl hb
    have h2 : ¬ occG ok gh b := fun h => c.apart id hk o _ b hl hh hne hb h
    refine ⟨fr.old b h1 h2, fun o' q => ?_⟩
    rcases (hn b o' q).2 with q | q | q
    · exact q
    · exact absurd q h2
    · omega
  have nh : ∀ id o, id ≠ hk → look S.ob id = some o → ∀ b, occ E ok' id o b ↔ occ E ok id o b := fun id o hne hl b => by
    cases o with
    | heap gh2 pub2 => exact absurd (c.obj _ _ hl).1 hne
    | _ => exact Iff.rfl
  have hob : ∀ j p, look (S.setOb hk (.heap gh' pub')).ob j = some p → (j = hk ∧ p = .heap gh' pub') ∨ (j ≠ hk ∧ look S.ob j = some p) := by
    intro j p h
    simp only [St.setOb, look] at h
    split at h
    · rename_i e; simp at h; exact .inl ⟨e.symm, h.symm⟩
    · rename_i e
      rw [look_remOb, if_neg (Ne.symm e)] at h
      exact .inr ⟨Ne.symm e, h⟩
  exact {
    n := c.n
    defers := c.defers
    slot := fun t => (c.slot t).mono same
    obj := fun id o h => by
      rcases hob id o h with ⟨rfl, rfl⟩ | ⟨hne, h⟩
      · exact ⟨rfl, gl⟩
      · have r := c.obj id o h
        cases o with
        | box l =>
          obtain ⟨b, e, cs, h1, h2, h3, h4, h5⟩ := r
          obtain ⟨q1, q2⟩ := blocks _ _ b hne h h1
          refine ⟨b, e, cs, h1, q1.trans h2, h3, fun o' q => h4 o' (q2 o' q), fun i hi => ?_⟩
          obtain ⟨u, q3, q4, q5⟩ := h5 i hi
          exact ⟨u, q3, q4, q5.mono same⟩
        | cbox l =>
          obtain ⟨b, h1, hlt, h2, h3⟩ := r
          refine ⟨b, h1, Nat.lt_of_lt_of_le hlt fr.size, h2, fun j hj => ?_⟩
          obtain ⟨q, u, hu, hr⟩ := h3 j hj
          exact ⟨hs _ _ q, u, (same.cell _ _ q).trans hu, hr.mono same⟩
        | row z l ex =>
          rcases r with r | ⟨b, cap, cs, e, h1, h2, h3, h4, h5, h6, h7, h8⟩
          · exact .inl r
          · obtain ⟨q1, q2⟩ := blocks _ _ b hne h h1
            have hc : ∀ o, w'.cell? ⟨b, o, none⟩ = w.cell? ⟨b, o, none⟩ := fun o => by simp only [World.cell?, q1]
            exact .inr ⟨b, cap, cs, e, h1, h2, q1.trans h3, h4, h5, h6, h7.mono same (fun i _ => hc _), fun o' => ⟨fun q => (h8 o').1 (q2 o' q), fun q => hs _ _ ((h8 o').2 q)⟩⟩
        | heap gh2 pub2 => exact absurd r.1 hne
    apart := fun i j o p b h1 h2 hne hb hb' => by
      rcases hob i o h1 with ⟨rfl, rfl⟩ | ⟨hi, h3⟩ <;> rcases hob j p h2 with ⟨rfl, rfl⟩ | ⟨hj, h4⟩
      · exact hne rfl
      · rw [nh j p hj h4] at hb'
        rcases hg b hb with q | q | q
        · exact c.apart j hk p _ b h4 hh hj hb' q
        · have := obj_lt c h4 hb'; omega
        · exact q.2 j p hj h4 hb'
      · rw [nh i o hi h3] at hb
        rcases hg b hb' with q | q | q
        · exact c.apart i hk o _ b h3 hh hi hb q
        · have := obj_lt c h3 hb; omega
        · exact q.2 i o hi h3 hb
      · rw [nh i o hi h3] at hb
        rw [nh j p hj h4] at hb'
        exact c.apart i j o p b h3 h4 hne hb hb'
    reg := fun i o b h1 hb => by
      rcases hob i o h1 with ⟨rfl, rfl⟩ | ⟨hi, h3⟩
      · rcases hg b hb with q | q | q
        · exact (c.reg hk _ b hh q).imp (fun h => h) fun h => ⟨trivial, h.2⟩
        · exact .inl (Nat.le_trans c.size q)
        · exact .inl q.1
      · rw [nh i o hi h3] at hb
        exact c.reg i o b h3 hb
    okb := fun b o q => (hn b o q).1
    sub := fun b o q => hs _ _ (c.sub b o q)
    env := c.env.trans he
    envq := fun q => by rw [c.hp _ _ _ hh] at q; cases q
    hp := fun i gh2 pub2 h => c.hp _ _ _ hh
    newk := fun b o q => by
      rcases (hn b o q).2 with q | q | q
      · exact c.newk b o q
      · exact .inr ((c.reg hk _ b hh q).imp (fun h => h) And.right)
      · exact .inr (.inl (Nat.le_trans c.size q))
    os := fr.os.trans c.os
    tape := fr.tape.trans c.tape
    output := fr.output.trans c.output
    size := Nat.le_trans c.size fr.size
    old := fun b h1 h2 => by
      refine (fr.old b (Nat.lt_of_lt_of_le h1 c.size) fun h => ?_).trans (c.old b h1 h2)
      rcases c.reg hk _ b hh h with q | q
      · omega
      · exact h2 q.2
    keep := fun b o q => (same.cell b o (c.sub b o q)).trans (c.keep b o q) }
theorem Conc.swap {G : Gh} {E : Env} {ok ok' : Oks} {S : St} {a : Act} {w w' : World} {gh gh' : GH} {pub pub' : List Nat} (c : Conc G E ok S a w) (hh : look S.ob hk = some (.heap gh pub)) (fr : Frame (occG ok gh) w w') (same : Same ok ok' w w')
    (hn : ∀ b o, ok' b o → b < w'.heap.size ∧ (ok b o ∨ occG ok gh b ∨ w.heap.size ≤ b)) (gl : GlOk ok' gh' w') (hg : ∀ b, occG ok' gh' b → occG ok gh b ∨ w.heap.size ≤ b) : Conc G E ok' (S.setOb hk (.heap gh' pub')) a w' :=
  c.swap2 hh fr same hn gl fun b h => (hg b h).imp id .inl

/-- An object comes to a state that does not mention it. -/
theorem Conc.add {G : Gh} {E E' : Env} {ok : Oks} {S : St} {a : Act} {w : World} (c : Conc G E ok S a w) (id : Nat) (o : AObj) (he : ∀ j, j ≠ id → E'.blk j = E.blk j ∧ E'.hdr j = E.hdr j)
    (ho : ObjRep E' ok w id (unOb id o)) (hap : ∀ b, E'.blk id = some b → (∀ j p, j ≠ id → look S.ob j = some p → ¬ occ E ok j p b) ∧ G.w0.heap.size ≤ b) (hnh : ∀ b, occ E' ok id o b → E'.blk id = some b := by exact fun _ h => h) (hno : ∀ gh pub, unOb id o ≠ .heap gh pub := by intro _ _ h; simp [unOb] at h) : Conc G E' ok (S.new id o) a w := by
  have ck := c.kill id
  have hob : ∀ j p, look (S.new id o).ob j = some p → (j = id ∧ p = unOb id o) ∨ (j ≠ id ∧ ∃ p', look S.ob j = some p' ∧ p = unOb id p') := by
    intro j p h
    simp only [St.new, look] at h
    split at h
    · rename_i e; simp at h; exact .inl ⟨e.symm, h.symm⟩
    · rename_i e
      rw [look_kill, if_neg (Ne.symm e)] at h
      simp only [Option.map_eq_some_iff] at h
      obtain ⟨p', h1, rfl⟩ := h
      exact .inr ⟨Ne.symm e, p', h1, rfl⟩
  refine { ck with n := ck.n, slot := fun t => ?_, obj := fun j p h => ?_, apart := fun i j p q b h1 h2 hne hb => ?_, reg := fun i p b h hb => ?_, hp := fun i gh pub h => ?_ }
  · have h1 := ck.slot t
    have h2 : (S.new id o).get t = (S.kill id).get t := rfl
    rw [h2]
    exact h1.env he (by rw [get_kill]; exact mentions_unD id _)
  · rcases hob j p h with ⟨rfl, rfl⟩ | ⟨hj, p', h1, rfl⟩
    · exact ho
    · exact (unOb_rep id (c.obj _ _ h1)).env he hj
  · rcases hob i p h1 with ⟨rfl, rfl⟩ | ⟨hi, p', h3, rfl⟩ <;> rcases hob j q h2 with ⟨rfl, rfl⟩ | ⟨hj, q', h4, rfl⟩
    · exact absurd rfl hne
    · rw [occ_unOb] at hb ⊢
      rw [occ_E he ok hj]
      exact (hap b (hnh b hb)).1 j q' hj h4
    · rw [occ_unOb] at hb ⊢
      rw [occ_E he ok hi] at hb
      intro hx
      exact (hap b (hnh b hx)).1 i p' hi h3 hb
    · rw [occ_unOb] at hb ⊢
      rw [occ_E he ok hi] at hb
      rw [occ_E he ok hj]
      exact c.apart i j p' q' b h3 h4 hne hb
  · rcases hob i p h with ⟨rfl, rfl⟩ | ⟨hi, p', h3, rfl⟩
    · rw [occ_unOb] at hb
      exact .inl (hap b (hnh b hb)).2
    · rw [occ_unOb, occ_E he ok hi] at hb
      rw [isHeap_unOb]
      exact c.reg i p' b h3 hb
  · rcases hob i _ h with ⟨rfl, e⟩ | ⟨hi, p', h3, e⟩
    · exact absurd e.symm (hno _ _)
    · cases p' with
      | heap gh2 pub2 => exact c.hp i _ _ h3
      | _ => simp [unOb] at e
/-- An object that was taken out comes back, changed. -/
theorem Conc.back' {G : Gh} {E : Env} {ok : Oks} {S : St} {a : Act} {w : World} {id : Nat} (c : Conc G E ok { S with ob := remOb id S.ob } a w) (o : AObj) (ho : ObjRep E ok w id o)
    (hap : ∀ b, occ E ok id o b → (∀ j p, j ≠ id → look S.ob j = some p → ¬ occ E ok j p b) ∧ (G.w0.heap.size ≤ b ∨ (o.isHeap ∧ G.M b))) (hpo : ∀ gh pub, o = .heap gh pub → G.heap = true) : Conc G E ok (S.setOb id o) a w := by
  have hob : ∀ j p, look (S.setOb id o).ob j = some p → (j = id ∧ p = o) ∨ (j ≠ id ∧ look S.ob j = some p) := by
    intro j p h
    simp only [St.setOb, look] at h
    split at h
    · rename_i e; simp at h; exact .inl ⟨e.symm, h.symm⟩
    · rename_i e
      rw [look_remOb, if_neg (Ne.symm e)] at h
      exact .inr ⟨Ne.symm e, h⟩
  refine { c with n := c.n, slot := fun t => c.slot t, obj := fun j p h => ?_, apart := fun i j p q b h1 h2 hne hb => ?_, reg := fun i p b h hb => ?_, hp := fun i gh pub h => ?_ }
  · rcases hob j p h with ⟨rfl, rfl⟩ | ⟨hj, h1⟩
    · exact ho
    · exact c.obj j p (by simp only [look_remOb, if_neg hj]; exact h1)
  · rcases hob i p h1 with ⟨rfl, rfl⟩ | ⟨hi, h3⟩ <;> rcases hob j q h2 with ⟨rfl, rfl⟩ | ⟨hj, h4⟩
    · exact absurd rfl hne
    · exact (hap b hb).1 j q hj h4
    · intro hx
      exact (hap b hx).1 i p hi h3 hb
    · exact c.apart i j p q b (by simp only [look_remOb, if_neg hi]; exact h3) (by simp only [look_remOb, if_neg hj]; exact h4) hne hb
  · rcases hob i p h with ⟨rfl, rfl⟩ | ⟨hi, h3⟩
    · exact (hap b hb).2
    · exact c.reg i p b (by simp only [look_remOb, if_neg hi]; exact h3) hb
  · rcases hob i _ h with ⟨rfl, e⟩ | ⟨hi, h3⟩
    · exact hpo _ _ e.symm
    · exact c.hp i _ _ (by simp only [look_remOb, if_neg hi]; exact h3)
theorem Conc.back {G : Gh} {E : Env} {ok : Oks} {S : St} {a : Act} {w : World} {id : Nat} (c : Conc G E ok { S with ob := remOb id S.ob } a w) (o : AObj) (ho : ObjRep E ok w id o)
    (hap : ∀ b, E.blk id = some b → (∀ j p, j ≠ id → look S.ob j = some p → ¬ occ E ok j p b) ∧ G.w0.heap.size ≤ b) (hnh : ∀ b, occ E ok id o b → E.blk id = some b := by exact fun _ h => h) (hno : ∀ gh pub, o ≠ .heap gh pub := by intro _ _ h; cases h) : Conc G E ok (S.setOb id o) a w :=
  c.back' o ho (fun b hb => ⟨(hap b (hnh b hb)).1, .inl (hap b (hnh b hb)).2⟩) fun gh pub e => absurd e (hno gh pub)
end Go.Proofs.Ytinckcpmkocakaa.AM

/-
  The abstract machine, part 16: append.
-/
set_option linter.unusedVariables false
set_option linter.unusedSimpArgs false
namespace Go.Proofs.Ytinckcpmkocakaa.AM
open Go Go.RowKit

theorem setCell_row {w : World} {b o : Nat} {cs : Array Value} {e : TypeId} {fr : Nat × Nat} (v : Value) (h : w.heap[b]? = some (.cells cs e fr)) :
    (w.setCell ⟨b, o, none⟩ v).heap[b]? = some (.cells (cs.setIfInBounds o v) e fr) ∧ ∀ k, k ≠ b → (w.setCell ⟨b, o, none⟩ v).heap[k]? = w.heap[k]? := by
  constructor
  · simp only [World.setCell, Array.getElem?_modify, if_pos, h, Option.map_some]
    simp
  · intro k hk
    simp only [World.setCell, Array.getElem?_modify]
    rw [if_neg (Ne.symm hk)]
theorem setCells_row {b : Nat} {e : TypeId} {fr : Nat × Nat} : ∀ (vs : List Value) (o : Nat) (w : World) (cs : Array Value), w.heap[b]? = some (.cells cs e fr) → o + vs.length ≤ cs.size →
    ∃ cs', (w.setCells b o vs).heap[b]? = some (.cells cs' e fr) ∧ cs'.size = cs.size ∧ (∀ j, cs'[j]? = if o ≤ j ∧ j < o + vs.length then vs[j - o]? else cs[j]?) ∧ (∀ k, k ≠ b → (w.setCells b o vs).heap[k]? = w.heap[k]?) ∧
      (w.setCells b o vs).os = w.os ∧ (w.setCells b o vs).tape = w.tape ∧ (w.setCells b o vs).output = w.output ∧ (w.setCells b o vs).heap.size = w.heap.size
  | [], o, w, cs, h, hl => ⟨cs, h, rfl, fun j => by rw [if_neg (by intro q; simp at q; omega)], fun _ _ => rfl, rfl, rfl, rfl, rfl⟩
  | v :: r, o, w, cs, h, hl => by
    simp only [List.length_cons] at hl
    obtain ⟨h1, h2⟩ := setCell_row (o := o) v h
    obtain ⟨cs', g1, g2, g3, g4, g5, g6, g7, g8⟩ := setCells_row r (o + 1) _ _ h1 (by simp; omega)
    refine ⟨cs', g1, by rw [g2]; simp, fun j => ?_, fun k hk => (g4 k hk).trans (h2 k hk), g5, g6, g7, ?_⟩
    · rw [g3]
      simp only [List.length_cons, Array.getElem?_setIfInBounds]
      by_cases hj : j = o
      · subst hj
        rw [if_neg (by omega), if_pos rfl, if_pos (by omega), if_pos (by omega)]
        simp
      · by_cases hj2 : o + 1 ≤ j ∧ j < o + 1 + r.length
        · rw [if_pos hj2, if_pos (by omega)]
          rw [show j - o = (j - (o + 1)) + 1 from by omega, List.getElem?_cons_succ]
        · rw [if_neg hj2, if_neg (Ne.symm hj), if_neg (by omega)]
    · simp only [World.setCells] at g8 ⊢
      rw [g8]; simp [World.setCell]

/-- Where new cells tell a list of data. -/
def News (ok : Oks) (w : World) (z : Nat) (l : List V) (news : List Value) : Prop :=
  news.length = l.length * z ∧ (∀ i (h : i < l.length), (l[i]'h).flat.length = z) ∧ ∀ i (h : i < l.length) j (hj : j < (l[i]'h).flat.length), ((l[i]'h).flat[j]'hj).cell = true ∧ ∃ u, news[i * z + j]? = some u ∧ Rep ok w ((l[i]'h).flat[j]'hj) u
theorem RowAt.news {ok : Oks} {w : World} {b off z : Nat} {l : List V} (r : RowAt ok w b off z l) : ∃ news : List Value, News ok w z l news ∧ (∀ j u, news[j]? = some u → w.cell? ⟨b, off + j, none⟩ = some u) ∧ ∀ u ∈ news, u.oneCell' = true := by
  have all : ∀ k, k < l.length * z → ∃ u, w.cell? ⟨b, off + k, none⟩ = some u ∧ u.oneCell' = true := by
    intro k hk
    rcases Nat.eq_zero_or_pos z with h0 | h0
    · subst h0; omega
    · have h1 : k / z < l.length := Nat.div_lt_of_lt_mul (by rw [Nat.mul_comm]; exact hk)
      have h3 : k / z * z + k % z = k := by rw [Nat.mul_comm]; exact Nat.div_add_mod k z
      have h4 : k % z < (l[k / z]'h1).flat.length := by rw [r.hz]; exact Nat.mod_lt _ h0
      obtain ⟨u, hu, hr⟩ := r.hr (k / z) h1 (k % z) h4
      rw [h3] at hu
      exact ⟨u, hu, (hr.oneCell (r.hcell _ _ _ h4)).2⟩
  refine ⟨(List.range (l.length * z)).map fun k => (w.cell? ⟨b, off + k, none⟩).getD undef, ⟨by simp, r.hz, fun i hi j hj => ⟨r.hcell i hi j hj, ?_⟩⟩, fun j u hu => ?_, fun u hu => ?_⟩
  · obtain ⟨u, hu, hr⟩ := r.hr i hi j hj
    refine ⟨u, ?_, hr⟩
    have h2 : i * z + z ≤ l.length * z := by rw [← Nat.succ_mul]; exact Nat.mul_le_mul_right _ hi
    have h1 := r.hz i hi
    rw [List.getElem?_map, List.getElem?_range (by omega)]
    simp [hu]
  · rw [List.getElem?_map] at hu
    by_cases hj : j < l.length * z
    · obtain ⟨v, hv, _⟩ := all j hj
      rw [List.getElem?_range hj] at hu
      simp [hv] at hu
      rw [hv, hu]
    · rw [List.getElem?_eq_none (by simp; omega)] at hu
      simp at hu
  · obtain ⟨k, hk, rfl⟩ := List.mem_map.1 hu
    obtain ⟨v, hv, h1⟩ := all k (by simpa using hk)
    rw [hv]; exact h1
theorem News.nil (ok : Oks) (w : World) (z : Nat) : News ok w z [] [] := ⟨by simp, by simp, by simp⟩
theorem News.mono {ok ok' : Oks} {w w' : World} {z : Nat} {l : List V} {news : List Value} (hs : Same ok ok' w w') (h : News ok w z l news) : News ok' w' z l news :=
  ⟨h.1, h.2.1, fun i hi j hj => by
    obtain ⟨h1, u, h2, h3⟩ := h.2.2 i hi j hj
    exact ⟨h1, u, h2, h3.mono hs⟩⟩
theorem News.append {ok : Oks} {w : World} {z : Nat} {l l2 : List V} {n n2 : List Value} (h : News ok w z l n) (h2 : News ok w z l2 n2) : News ok w z (l ++ l2) (n ++ n2) := by
  refine ⟨by rw [List.length_append, List.length_append, h.1, h2.1, Nat.add_mul], fun i hi => ?_, fun i hi j hj => ?_⟩
  · by_cases hlt : i < l.length
    · rw [List.getElem_append_left hlt]; exact h.2.1 i hlt
    · rw [List.getElem_append_right (by omega)]; exact h2.2.1 _ _
  · by_cases hlt : i < l.length
    · have e : (l ++ l2)[i]'hi = l[i]'hlt := List.getElem_append_left hlt
      have hj' : j < (l[i]'hlt).flat.length := by rw [← e]; exact hj
      obtain ⟨q1, u, q2, q3⟩ := h.2.2 i hlt j hj'
      have hz := h.2.1 i hlt
      have hle : i * z + z ≤ l.length * z := by rw [← Nat.succ_mul]; exact Nat.mul_le_mul_right _ hlt
      simp only [e]
      exact ⟨q1, u, by rw [List.getElem?_append_left (by rw [h.1]; omega)]; exact q2, q3⟩
    · have hlt2 : i - l.length < l2.length := by simp at hi; omega
      have e : (l ++ l2)[i]'hi = l2[i - l.length]'hlt2 := List.getElem_append_right (by omega)
      have hj' : j < (l2[i - l.length]'hlt2).flat.length := by rw [← e]; exact hj
      obtain ⟨q1, u, q2, q3⟩ := h2.2.2 _ hlt2 j hj'
      simp only [e]
      refine ⟨q1, u, ?_, q3⟩
      have hi2 : i * z + j = n.length + ((i - l.length) * z + j) := by
        rw [h.1, ← Nat.add_assoc, ← Nat.add_mul]
        congr 2; omega
      rw [hi2, List.getElem?_append_right (by omega)]
      rw [Nat.add_sub_cancel_left]; exact q2
/-- A row out of cells. -/
theorem row_of_news {ok : Oks} {w : World} {b z : Nat} {l : List V} {news : List Value} (h : News ok w z l news) (hc : ∀ j u, news[j]? = some u → w.cell? ⟨b, j, none⟩ = some u) : RowAt ok w b 0 z l :=
  ⟨h.2.1, fun i hi j hj => (h.2.2 i hi j hj).1, fun i hi j hj => by
    obtain ⟨_, u, h2, h3⟩ := h.2.2 i hi j hj
    exact ⟨u, by rw [Nat.zero_add]; exact hc _ _ h2, h3⟩⟩

theorem RowAt.take {ok : Oks} {w : World} {b off z : Nat} {l : List V} (r : RowAt ok w b off z l) (n : Nat) : RowAt ok w b off z (l.take n) where
  hz i hi := by simp only [List.getElem_take]; exact r.hz _ _
  hcell i hi j hj := by simp only [List.getElem_take]; exact r.hcell i (by simp at hi; omega) j (by simpa using hj)
  hr i hi j hj := by simp only [List.getElem_take]; exact r.hr i (by simp at hi; omega) j (by simpa using hj)
section
variable {P : Program} {R : List (Nat × AObj) → List D → Prop} (hT : tableOf P = T)
include hT
theorem src_sound {ob : List (Nat × AObj)} {z : Nat} {t2 : Nat} {d : D} {K : List V → Prop} (hk : isSrcT (tyOf t2).k d = true) (hz0 : 0 < z) (h : srcW (std P R) z ob d K) :
    ∃ l, K l ∧ ∀ (E : Env) (ok : Oks) (w : World) (u : Value), (∀ id o, look ob id = some o → ObjRep E ok w id o) → RepD E ok w d u → ∃ news, Src P z t2 u l.length news w ∧ News ok w z l news := by
  unfold srcW at h
  split at h
  · rename_i l
    have hk' : ∃ e, (tyOf t2).k = .slice e := by
      unfold isSrcT at hk; split at hk <;> simp_all
    obtain ⟨e, hk'⟩ := hk'
    obtain ⟨hsz, h⟩ := h
    refine ⟨l, h, fun E ok w u ho hr => ?_⟩
    obtain ⟨ad, c, rfl, _, _, z', hz, hcell, hp⟩ := slice_row (repD_v hr)
    cases ad with
    | none =>
      have hl : l = [] := by
        rcases Nat.eq_zero_or_pos l.length with q | q
        · exact List.eq_nil_of_length_eq_zero q
        · obtain ⟨_, _, q', _⟩ := hp q; cases q'
      subst hl
      exact ⟨[], Src.ofNil w (ty_slice hT hk') c, News.nil _ _ _⟩
    | some ad =>
      rcases Nat.eq_zero_or_pos l.length with q | q
      · have hl := List.eq_nil_of_length_eq_zero q
        subst hl
        exact ⟨[], Src.ofSlice w (ty_slice hT hk') ad 0 c [] (by simp) (by simp) (by simp), News.nil _ _ _⟩
      · obtain ⟨b, off, e1, hrow, _⟩ := hp q
        cases e1
        have hzz : z' = z := by
          rw [← hz 0 q]; exact hsz _ (List.getElem_mem _)
        subst hzz
        obtain ⟨news, n1, n2, n3⟩ := hrow.news
        exact ⟨news, Src.ofSlice w (ty_slice hT hk') _ l.length c news n1.1 (fun j u hu => by rw [add_plain]; exact n2 j u hu) n3, n1⟩
  · rename_i s
    split at h
    · rename_i hz1
      subst hz1
      have hk' : (tyOf t2).k = .str := by
        unfold isSrcT at hk; split at hk <;> simp_all
      refine ⟨_, h, fun E ok w u ho hr => ?_⟩
      rw [repD_str hr]
      have hs := Src.ofString (P := P) w (ty_str hT hk') ⟨s.toArray⟩
      rw [size_mk] at hs
      have hlen : (bytesV s).length = s.length := by simp [bytesV]
      refine ⟨_, by simp only [std]; rw [hlen]; exact hs, ?_⟩
      refine ⟨by simp [byteCells, std, hlen], fun i hi => by simp only [std, bytesV_get]; rfl, fun i hi j hj => ?_⟩
      simp only [std] at hi hj ⊢
      have hf : ((bytesV s)[i]'hi).flat = [.int .u8 (s[i]'(by omega)).toNat] := by rw [bytesV_get]; rfl
      have hj0 : j = 0 := by rw [hf] at hj; simpa using hj
      subst hj0
      simp only [hf, List.getElem_cons_zero]
      refine ⟨rfl, .int .u8 (s[i]'(by omega)).toNat, ?_, .int _ _⟩
      simp [byteCells, show i < s.length from by omega]
    · exact h.elim
  · have hk' : ∃ e, (tyOf t2).k = .slice e := by
      unfold isSrcT at hk; split at hk <;> simp_all
    obtain ⟨e, hk'⟩ := hk'
    refine ⟨_, h, fun E ok w u ho hr => ?_⟩
    rw [repD_nils hr]
    exact ⟨[], Src.ofNil w (ty_slice hT hk') 0, News.nil _ _ _⟩
  · have hk' : ∃ e, (tyOf t2).k = .slice e := by
      unfold isSrcT at hk; split at hk <;> simp_all
    obtain ⟨e, hk'⟩ := hk'
    refine ⟨_, h, fun E ok w u ho hr => ?_⟩
    rw [rep_nils (repD_v hr)]
    exact ⟨[], Src.ofNil w (ty_slice hT hk') 0, News.nil _ _ _⟩
  · rename_i id
    have hk' : ∃ e, (tyOf t2).k = .slice e := by
      unfold isSrcT at hk; split at hk <;> simp_all
    obtain ⟨e, hk'⟩ := hk'
    split at h
    · rename_i z' l ex hrow
      split at h
      · rename_i hz
        subst hz
        refine ⟨_, h, fun E ok w u ho hr => ?_⟩
        rw [repD_own hr]
        rcases ho _ _ (rowOf_some hrow) with ⟨rfl, _, h3⟩ | ⟨b, cap, cs, e', h1, h2, h3, h4, h5, h6, h7, h8⟩
        · rw [h3]; exact ⟨[], Src.ofNil w (ty_slice hT hk') 0, News.nil _ _ _⟩
        · obtain ⟨news, n1, n2, n3⟩ := h7.news
          rw [h2]
          exact ⟨news, Src.ofSlice w (ty_slice hT hk') _ l.length cap news n1.1 (fun j u hu => by rw [add_plain]; exact n2 j u hu) n3, n1⟩
      · exact h.elim
    · exact h.elim
  · rename_i id n
    have hk' : ∃ e, (tyOf t2).k = .slice e := by
      unfold isSrcT at hk; split at hk <;> simp_all
    obtain ⟨e, hk'⟩ := hk'
    split at h
    · rename_i gh pub hh
      obtain ⟨l, ⟨q1, q2, q3⟩, h⟩ := h
      refine ⟨_, h, fun E ok w u ho hr => ?_⟩
      obtain ⟨_, hrow⟩ := (ho _ _ (heapOf_some hh)).2.obj _ _ q1
      obtain ⟨_, hv⟩ := rep_gs (repD_v hr)
      rcases hv with ⟨rfl, _, rfl⟩ | ⟨b, hb, h0, hc, hm, rfl⟩
      · exact ⟨[], Src.ofNil w (ty_slice hT hk') 0, News.nil _ _ _⟩
      · rcases hrow with ⟨rfl, hb'⟩ | ⟨b', cs, e', hb', h2, h3, h4, h5, h6, h7⟩
        · rw [hb] at hb'; cases hb'
        · rw [hb] at hb'; cases hb'
          have hlen : (l.take n.toNat).length = n.toNat := by rw [List.length_take]; omega
          obtain ⟨news, n1, n2, n3⟩ := (h6.take n.toNat).news
          refine ⟨news, ?_, n1⟩
          suffices q : ∀ m, m = (l.take n.toNat).length → Src P z t2 (.slice (some ⟨b, 0, none⟩) m (ok.cap id)) (l.take n.toNat).length news w from q _ hlen.symm
          rintro _ rfl
          exact Src.ofSlice w (ty_slice hT hk') _ (l.take n.toNat).length (ok.cap id) news n1.1 (fun j u hu => by rw [add_plain]; exact n2 j u hu) n3
    · exact h.elim
  · exact h.elim
end
end Go.Proofs.Ytinckcpmkocakaa.AM
