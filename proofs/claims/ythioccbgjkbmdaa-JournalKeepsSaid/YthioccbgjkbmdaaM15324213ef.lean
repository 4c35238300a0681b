/-
  The common heap: maps gone through; rows and variables of the call's own that come to the heap, or are told as pure data.
-/
import Derived.Test.YthioccbgjkbmdaaM1448e8d3df
import Derived.Test.YthioccbgjkbmdaaM13fd9be897
import Derived.Test.YthioccbgjkbmdaaM12f4b0f101
set_option linter.unusedVariables false
set_option linter.unusedSimpArgs false
set_option linter.unusedSectionVars false
namespace Go.Proofs.Ythioccbgjkbmdaa.AM
open Go Go.RowKit
open Go.ChangeMaps (setBlock)

theorem rep_gp0 {ok : Oks} {w : World} {id off : Nat} {u : Value} (h : Rep ok w (.gp id off) u) : ∃ b, id < ok.next ∧ ok.blk id = some b ∧ u = .pointer (some ⟨b, off, none⟩) := by
  cases h with
  | gp _ _ b hn hb => exact ⟨b, hn, hb, rfl⟩
theorem mit_of {ok : Oks} {gh : GH} {w : World} (gl : GlOk ok gh w) {it id b since st : Nat} {seen : List Nat} (hg : gh.get it = some (.mit (some id) since seen st)) (hb : ok.blk it = some b) : ∃ bm, ok.blk id = some bm ∧ w.heap[b]? = some (.mapIter (some bm) since seen.toArray st) ∧ (∀ o, ¬ ok b o) ∧ id < ok.next := by
  obtain ⟨b', r, h1, h2, h3, h4, bk, h5, h6⟩ := (gl.obj _ _ hg).2
  rw [hb] at h1; cases h1
  subst h6
  exact ⟨bk, h5, h2, h3, h4⟩
/-- One step through a map. -/
def NextR (gh : GH) (it id since : Nat) (seen : List Nat) (es : List (Nat × V × V)) (clock : Nat) (r : V) (gh' : GH) : Prop :=
  (∃ e ∈ es, e.1 ∉ seen ∧ r = .tup [.bool true, e.2.1, e.2.2] ∧ gh' = gh.set it (.mit (some id) since (seen ++ [e.1]) clock)) ∨ ((∀ e ∈ es, e.1 ∈ seen) ∧ r = .tup [.bool false] ∧ gh' = gh)
section
variable {P : Program} (hT : tableOf P = T)
include hT
theorem gop_range {o : Oper} {t kt et : TypeId} {x : Operand} (ho : o.op = .range t x) (hm : P.underlying t = some (.map kt et)) {gh : GH} {id clock : Nat} {es : List (Nat × V × V)} (hg : gh.get id = some (.map es clock)) : GOp P o [.gm id] gh (One (.gp gh.next 0) (gh.new (.mit (some id) clock [] clock))) := by
  refine GOp.of_run fun ok w a gl hokb hx => ?_
  rw [ho] at hx
  obtain ⟨b, hn, hb, he⟩ := rep_gm (hx.get 0 rfl (by simp [Op.operands]; rfl))
  obtain ⟨ents, h2, h5, h3, h4⟩ := map_of gl hg hb
  have hs : Same ok (ok.bind (some w.heap.size) 0) w (w.alloc (.mapIter (some b) clock #[] clock)) := ⟨fun _ _ h => h, fun k o h => by simp only [World.cell?, heap_alloc_old w _ (hokb _ _ h)], Oks.bind_ext _ _ _⟩
  refine ⟨.pointer (some ⟨w.heap.size, 0, none⟩), w.alloc (.mapIter (some b) clock #[] clock), ok.bind (some w.heap.size) 0, _, _, .inl ?_, ⟨rfl, rfl⟩, frame_alloc _ _ _, hs, fun k o h => ⟨by have := hokb _ _ (h : ok k o); simp; omega, .inl h⟩,
    gl.new hokb (fun k hk => heap_alloc_old w _ hk) (by simp) (fun bb h => by cases h; exact Nat.le_refl _) ⟨w.heap.size, some b, Oks.bind_blk _ _ _, heap_alloc_new w _, fun o h => by have := hokb _ _ (h : ok w.heap.size o); omega, Nat.lt_succ_of_lt hn, b, (Oks.bind_ext ok (some w.heap.size) 0).blk id hn ▸ hb, rfl⟩,
    fun k h => occG_new gl (fun bb h => by cases h; exact Nat.le_refl _) h, .gp _ _ _ (by rw [gl.next]; exact Nat.lt_succ_self _) (by rw [gl.next]; exact Oks.bind_blk _ _ _)⟩
  simp only [execOp, ho, he, Sem.run_bind]
  simp [Instr.range, run_underlying hm, MapKept.run_getObj_map h2, newObj, Sem.run]
theorem gop_next {o : Oper} {x : Operand} (ho : o.op = .next x false) {gh : GH} {it id since st clock : Nat} {seen : List Nat} {es : List (Nat × V × V)} (hi : gh.get it = some (.mit (some id) since seen st)) (hg : gh.get id = some (.map es clock)) (hold : ∀ e ∈ es, e.1 < since) (hst : since ≤ st) :
    GOp P o [.gp it 0] gh (NextR gh it id since seen es clock) := by
  refine GOp.of_run fun ok w a gl hokb hx => ?_
  rw [ho] at hx
  obtain ⟨r, hn, hb, he⟩ := rep_gp0 (hx.get 0 rfl (by simp [Op.operands]; rfl))
  obtain ⟨bm, hbm, hw, hno, hid⟩ := mit_of gl hi hb
  obtain ⟨ents, h2, h5, h3, h4⟩ := map_of gl hg hbm
  have hborn : ∀ x ∈ ents.toList, x.born < since := fun y hy => by
    obtain ⟨i, hi, rfl⟩ := List.getElem_of_mem hy
    have hi1 : i < ents.size := by simpa using hi
    have hi2 : i < es.length := by omega
    have := (h4 i hi2 hi1).1
    simp only [Array.getElem_toList]
    rw [← this]
    exact hold _ (List.getElem_mem hi2)
  rcases run_next_at (P := P) w o.type r bm since st seen.toArray ents clock hw h2 hborn hst with ⟨q1, q2⟩ | ⟨e, q1, w1, q2, q3⟩
  · refine ⟨.tuple #[.bool false], w, ok, .tup [.bool false], gh, .inl ?_, .inr ⟨fun e hem => ?_, rfl, rfl⟩, ⟨rfl, rfl, rfl, Nat.le_refl _, fun _ _ _ => rfl⟩, .refl _ _, fun b o h => ⟨hokb _ _ h, .inl h⟩, gl, fun b h => .inl h, .tup _ [.bool false] rfl fun i h h' => ?_⟩
    · simp only [execOp, ho, he, Sem.run_bind, q2, Result.andThen_ok, Sem.run_pure]
    · obtain ⟨i, hi1, rfl⟩ := List.getElem_of_mem hem
      have hi2 : i < ents.size := by omega
      have hb1 := (h4 i hi1 hi2).1
      refine Classical.byContradiction fun hne => ?_
      have hin : ents[i] ∈ leftOf ents seen.toArray := by
        unfold leftOf
        rw [Array.mem_filter]
        exact ⟨Array.getElem_mem hi2, by rw [← hb1]; simpa using hne⟩
      have := Array.size_pos_of_mem hin
      omega
    · match i, h, h' with
      | 0, _, _ => exact .bool _
  · have hel : e ∈ ents.toList ∧ seen.toArray.contains e.born = false := by
      unfold leftOf at q1
      have : e ∈ ents.filter fun e => !seen.toArray.contains e.born := by simpa using q1
      rw [Array.mem_filter] at this
      exact ⟨by simpa using this.1, by simpa using this.2⟩
    obtain ⟨i, hi1, hie⟩ := List.getElem_of_mem hel.1
    have hi2 : i < ents.size := by simpa using hi1
    have hi3 : i < es.length := by omega
    have hei : ents[i] = e := by simpa using hie
    have h6 := h4 i hi3 hi2
    rw [hei] at h6
    obtain ⟨x', hx'⟩ : ∃ x', x' = Obj.mapIter (some bm) since (seen.toArray.push e.born) clock := ⟨_, rfl⟩
    rw [← hx'] at q3
    obtain ⟨k1, k2, k3⟩ := heap_setBlock (o' := x') hw
    have hs := same_block (o' := x') hw hno
    have hrep : GRep ok (setBlock w r x') it (.mit (some id) since (seen ++ [(es[i]'hi3).1]) clock) := ⟨r, some bm, hb, by rw [k1, hx', h6.1]; simp, hno, hid, bm, hbm, rfl⟩
    have gl1 := gl.upd (o' := .mit (some id) since (seen ++ [(es[i]'hi3).1]) clock) hi (fun h => h) (fun h => h) hb k2 k3 (fun h => h) hrep
    have e2 : ∀ w1 : World, (w1 = w ∨ w1 = w.drew) → (setBlock w1 r x').heap = (setBlock w r x').heap := fun w1 h => by rcases h with rfl | rfl <;> rfl
    have hs2 : Same ok ok (setBlock w r x') (setBlock w1 r x') := ⟨fun _ _ h => h, fun k o h => by simp only [World.cell?, e2 w1 q2], .refl _⟩
    have gl2 := gl1.stay hs2 (by rw [e2 w1 q2]; exact Nat.le_refl _) (.refl _) fun k _ => ⟨by rw [e2 w1 q2], fun _ h => h⟩
    refine ⟨.tuple #[.bool true, e.key, e.val], setBlock w1 r x', ok, .tup [.bool true, (es[i]'hi3).2.1, (es[i]'hi3).2.2], _, .inl ?_, .inl ⟨_, List.getElem_mem hi3, ?_, rfl, rfl⟩, ⟨?_, ?_, ?_, ?_, ?_⟩, hs.trans hs2, fun k o h => ⟨by rw [e2 w1 q2, k3]; exact hokb _ _ h, .inl h⟩, gl2, fun k h => .inl (occG_set hi (fun h => h) h), .tup _ [.bool true, e.key, e.val] rfl fun j h h' => ?_⟩
    · simp only [execOp, ho, he, Sem.run_bind, q3, Result.andThen_ok, Sem.run_pure]
    · rw [h6.1]; have := hel.2; simpa using this
    · rcases q2 with rfl | rfl <;> rfl
    · rcases q2 with rfl | rfl <;> rfl
    · rcases q2 with rfl | rfl <;> rfl
    · rw [e2 w1 q2, k3]; exact Nat.le_refl _
    · intro k hk hM
      rw [e2 w1 q2]
      exact k2 k fun q => by subst q; exact hM ⟨it, _, hi, fun h => h, hb⟩
    · match j, h, h' with
      | 0, _, _ => exact .bool _
      | 1, _, _ => exact (h6.2.1.mono hs).mono hs2
      | 2, _, _ => exact (h6.2.2.mono hs).mono hs2
theorem gq_entry {x : Operand} {gh : GH} {it id since clock : Nat} {seen : List Nat} {es : List (Nat × V × V)} {e : Nat × V × V} (hi : gh.get it = some (.mit (some id) since (seen ++ [e.1]) clock)) (hg : gh.get id = some (.map es clock)) (he : e ∈ es) (hnd : (es.map (·.1)).Nodup) :
    GQ P (.entry x) [.gp it 0] gh (.tup [e.2.1, e.2.2]) := by
  intro ok w a o ho gl hokb hx
  obtain ⟨r, hn, hb, hev⟩ := rep_gp0 (hx.get 0 rfl (by simp [Op.operands]; rfl))
  obtain ⟨bm, hbm, hw, hno, hid⟩ := mit_of gl hi hb
  obtain ⟨ents, h2, h5, h3, h4⟩ := map_of gl hg hbm
  obtain ⟨i, hi1, rfl⟩ := List.getElem_of_mem he
  have hi2 : i < ents.size := by omega
  have h6 := h4 i hi1 hi2
  have hborns : ents.toList.map (·.born) = es.map (·.1) := by
    refine List.ext_getElem (by simp [h3]) fun j q1 q2 => ?_
    simp only [List.getElem_map, Array.getElem_toList]
    exact ((h4 j (by simpa using q2) (by simpa using q1)).1).symm
  have hrun := run_entry_at (P := P) w r bm since seen.toArray ents clock ents[i] (by rw [hw, h6.1]; simp) h2 (by simp) (by rw [hborns]; exact hnd)
  refine ⟨.tuple #[ents[i].key, ents[i].val], ?_, .tup _ [ents[i].key, ents[i].val] rfl fun j h h' => ?_⟩
  · simp only [execOp, ho, hev, Sem.run_bind, hrun, Result.andThen_ok, Sem.run_pure]
  · match j, h, h' with
    | 0, _, _ => exact h6.2.1
    | 1, _, _ => exact h6.2.2
end

/-! ### States that tell less -/
/-- A slice of what is only added to is told as pure data. -/
theorem weak_sl (S : St) (t z : Nat) {x : V} {l : List V} {gh : GH} {pub : List Nat} (hh : look S.ob hk = some (.heap gh pub)) (ht : S.get t = .v x) (hx : SlIs gh z l x) : Weak S (S.put (some t) (.v (.slice l))) := fun G E ok a w c => by
  have gl : GlOk ok gh w := (c.obj _ _ hh).2
  have h1 := c.slot t
  rw [ht] at h1
  exact ⟨E, ok, c.refine (.v _ _ (hx.rep gl (repD_v h1)))⟩
/-- A variable of the common heap that nobody writes any more. -/
theorem weak_ref (S : St) (t : Nat) {id : Nat} {l : List V} {gh : GH} {pub : List Nat} (hh : look S.ob hk = some (.heap gh pub)) (ht : S.get t = .v (.gp id 0)) (hg : gh.get id = some (.box l)) :
    Weak S ((S.setOb hk (.heap (gh.del id) pub)).put (some t) (.v (.ref l))) := fun G E ok a w c => by
  have gl : GlOk ok gh w := (c.obj _ _ hh).2
  have h1 := c.slot t
  rw [ht] at h1
  obtain ⟨b, hn, hb, he⟩ := rep_gp0 (repD_v h1)
  obtain ⟨b', e, cs, h2, h3, h4, h5, h6⟩ := (gl.obj _ _ hg).2
  rw [hb] at h2; cases h2
  have hs : Same ok (okAdd ok b l.length) w w := ⟨fun _ _ h => .inl h, fun _ _ _ => rfl, ⟨Nat.le_refl _, fun _ _ => rfl, fun _ _ => rfl⟩⟩
  have gl2 : GlOk (okAdd ok b l.length) (gh.del id) w := {
    next := gl.next
    obj := fun j p q => by
      simp only [GH.del_get] at q
      split at q
      · cases q
      · rename_i ej
        refine ⟨(gl.obj j p q).1, (gl.obj j p q).2.stay hs (gl.obj j p q).1 (Nat.le_refl _) fun f2 bb hbb => ⟨rfl, fun o h => ?_⟩⟩
        rcases h with h | ⟨rfl, _⟩
        · exact h
        · exact absurd hb (gl.apart j id p _ _ q hg ej f2 (fun h => h) hbb)
    apart := fun i j p q bb k1 k2 => by
      simp only [GH.del_get] at k1 k2
      split at k1
      · cases k1
      · split at k2
        · cases k2
        · exact gl.apart i j p q bb k1 k2 }
  have c2 := c.swap (pub' := pub) (ok' := okAdd ok b l.length) (w' := w) (gh' := gh.del id) hh ⟨rfl, rfl, rfl, Nat.le_refl _, fun _ _ _ => rfl⟩ hs (fun k o h => by
    rcases h with h | ⟨rfl, _⟩
    · exact ⟨c.okb _ _ h, .inl h⟩
    · exact ⟨heap_lt h3, .inr (.inl ⟨id, _, hg, fun h => h, hb⟩)⟩) gl2 (fun k h => .inl (occG_del h))
  refine ⟨E, _, c2.refine (t := t) ?_⟩
  change RepD E _ w _ (a.tmps.getD t undef)
  rw [he]
  refine .v _ _ (.ref l b 0 (fun j => (w.cell? ⟨b, j, none⟩).getD undef) (fun j hj => ?_) (fun j hj => ?_) (fun j hj => ?_))
  · obtain ⟨u, q1, q2, q3⟩ := h6 j hj
    rw [Nat.zero_add]
    exact ⟨.inr ⟨rfl, hj⟩, by rw [cell_of_heap h3, q1]; rfl⟩
  · obtain ⟨u, q1, q2, q3⟩ := h6 j hj
    exact rep_cell q3 q2
  · obtain ⟨u, q1, q2, q3⟩ := h6 j hj
    have : (w.cell? ⟨b, j, none⟩).getD undef = u := by rw [cell_of_heap h3, q1]; rfl
    rw [this]; exact q3.mono hs
/-- A row of the call's own comes to the common heap. -/
theorem weak_pub (S : St) (t : Nat) {id0 z : Nat} {l : List V} {ex : Bool} {gh : GH} {pub : List Nat} (hh : look S.ob hk = some (.heap gh pub)) (ht : S.get t = .own id0) (ho : look S.ob id0 = some (.row z l ex)) :
    Weak S ((({ S with ob := remOb id0 S.ob } : St).setOb hk (.heap (gh.new (.arow z l)) pub)).put (some t) (.v (.gs gh.next l.length))) := fun G E ok a w c => by
  have hne : id0 ≠ hk := fun e => by subst e; rw [hh] at ho; cases ho
  have h1 := c.slot t
  rw [ht] at h1
  have he : a.tmps.getD t undef = E.hdr id0 := by
    generalize a.tmps.getD t undef = u at h1
    cases h1; rfl
  have cr := c.rem id0
  have hh1 : look (({ S with ob := remOb id0 S.ob } : St)).ob hk = some (.heap gh pub) := by rw [look_remOb, if_neg (Ne.symm hne)]; exact hh
  rcases c.obj _ _ ho with ⟨h0, h2, h3⟩ | ⟨b, cap, cs, e, h2, h3, h4, h5, h6, h7, h8, h9⟩
  · subst h0
    have gl : GlOk ok gh w := (c.obj _ _ hh).2
    have c2 := cr.swap (pub' := pub) (ok' := ok.bind none 0) (w' := w) (gh' := gh.new (.arow z [])) hh1 ⟨rfl, rfl, rfl, Nat.le_refl _, fun _ _ _ => rfl⟩ ⟨fun _ _ h => h, fun _ _ _ => rfl, Oks.bind_ext _ _ _⟩ (fun b o h => ⟨c.okb _ _ h, .inl h⟩)
      (gl.new c.okb (fun _ _ => rfl) (Nat.le_refl _) (fun bb h => by cases h) (.inl ⟨rfl, Oks.bind_blk _ _ _⟩)) (fun b h => occG_new gl (fun bb h => by cases h) h)
    refine ⟨E, _, c2.refine (t := t) ?_⟩
    rw [he, h3]
    exact .v _ _ (.gs0 _ (by rw [gl.next]; exact Nat.lt_succ_self _) (by rw [gl.next]; exact Oks.bind_blk _ _ _))
  · have hs1 : Same ok (okAdd ok b (l.length * z)) w w := ⟨fun _ _ h => .inl h, fun _ _ _ => rfl, ⟨Nat.le_refl _, fun _ _ => rfl, fun _ _ => rfl⟩⟩
    have c1 := cr.step (w' := w) (ok' := okAdd ok b (l.length * z)) {
      same := hs1
      env := ⟨rfl, rfl, rfl⟩
      blocks := fun j p b' hj hb' => ⟨rfl, fun o' q => by
        simp only [look_remOb] at hj
        split at hj
        · cases hj
        · rename_i hne
          rcases q with q | ⟨rfl, _⟩
          · exact q
          · exact absurd h2 (c.apart j id0 p _ b' hj ho hne hb')⟩
      okb := fun b' o' q => by
        rcases q with q | ⟨rfl, _⟩
        · exact c.okb _ _ q
        · exact heap_lt h4
      newk := fun b' o' q => q.imp (fun h => h) fun ⟨hb', _⟩ => by subst hb'; exact .inl (c.regL ho (fun h => h) h2)
      os := rfl, tape := rfl, output := rfl, size := Nat.le_refl _, old := fun _ _ _ => rfl }
    generalize hokk : okAdd ok b (l.length * z) = ok1 at c1 hs1
    have ok1i : ∀ o, ok1 b o ↔ o < l.length * z := fun o => by
      subst hokk
      refine ⟨fun h => ?_, fun h => .inr ⟨rfl, h⟩⟩
      rcases h with h | ⟨_, h⟩
      · exact ((h9 o).1 h).2
      · exact h
    have gl : GlOk ok1 gh w := (c1.obj _ _ hh1).2
    have hnb : ¬ occG ok1 gh b := fun q => by
      have q' : occG ok gh b := by subst hokk; exact q
      exact c.apart hk id0 _ _ b hh ho (Ne.symm hne) q' h2
    have hs : Same ok1 (ok1.bind (some b) cap) w w := ⟨fun _ _ h => h, fun _ _ _ => rfl, Oks.bind_ext _ _ _⟩
    have old : ∀ k r, gh.get k = some r → (ok1.bind (some b) cap).blk k = ok1.blk k := fun k r hk => (Oks.bind_ext ok1 (some b) cap).blk k (gl.obj k r hk).1
    have gl2 : GlOk (ok1.bind (some b) cap) (gh.new (.arow z l)) w := {
      next := congrArg (· + 1) gl.next
      obj := fun j p q => by
        simp only [GH.new_get] at q
        split at q
        · rename_i ej; subst ej; cases q
          rw [gl.next]
          exact ⟨Nat.lt_succ_self _, .inr ⟨b, cs, e, Oks.bind_blk _ _ _, h4, by rw [Oks.bind_cap]; omega, by rw [Oks.bind_cap]; exact h6, by rw [Oks.bind_cap]; exact h7, (h8.mono hs1 (fun _ _ => rfl)).mono hs (fun _ _ => rfl), fun o h => (ok1i o).2 h, fun o k1 k2 k3 => by have := (ok1i o).1 k3; omega⟩⟩
        · exact ⟨Nat.lt_succ_of_lt (gl.obj j p q).1, (gl.obj j p q).2.stay hs (gl.obj j p q).1 (Nat.le_refl _) fun _ bb _ => ⟨rfl, fun _ h => h⟩⟩
      apart := fun i j p q bb k1 k2 hij f1 f2 hb1 hb2 => by
        simp only [GH.new_get, gl.next] at k1 k2
        split at k1 <;> split at k2
        · rename_i n1 n2; exact hij (n1.trans n2.symm)
        · rename_i n1 n2
          subst n1
          rw [Oks.bind_blk] at hb1; cases hb1
          rw [old j q k2] at hb2
          exact hnb ⟨j, q, k2, f2, hb2⟩
        · rename_i n1 n2
          subst n2
          rw [Oks.bind_blk] at hb2; cases hb2
          rw [old i p k1] at hb1
          exact hnb ⟨i, p, k1, f1, hb1⟩
        · rw [old i p k1] at hb1
          rw [old j q k2] at hb2
          exact gl.apart i j p q bb k1 k2 hij f1 f2 hb1 hb2 }
    have c2 := c1.swap2 (pub' := pub) (ok' := ok1.bind (some b) cap) (w' := w) (gh' := gh.new (.arow z l)) hh1 ⟨rfl, rfl, rfl, Nat.le_refl _, fun _ _ _ => rfl⟩ hs (fun k o h => ⟨c1.okb _ _ h, .inl h⟩) gl2 (fun k h => by
      obtain ⟨j, p, k1, k2, k3⟩ := h
      simp only [GH.new_get, gl.next] at k1
      split at k1
      · rename_i ej; subst ej
        rw [Oks.bind_blk] at k3; cases k3
        refine .inr (.inr ⟨c.regL ho (fun h => h) h2, fun j p hj hl hb => ?_⟩)
        simp only [look_remOb] at hl
        split at hl
        · cases hl
        · rename_i hne2
          have hb' : occ E ok j p b := by subst hokk; exact (occ_env (ok' := okAdd ok b (l.length * z)) (ok := ok) ⟨rfl, rfl, rfl⟩ j p b).1 hb
          exact c.apart j id0 p _ b hl ho hne2 hb' h2
      · rw [old j p k1] at k3
        exact .inl ⟨j, p, k1, k2, k3⟩)
    refine ⟨E, _, c2.refine (t := t) ?_⟩
    rw [he, h3]
    have hc : (ok1.bind (some b) cap).cap gh.next = cap := by rw [gl.next]; exact Oks.bind_cap _ _ _
    have := Rep.gs (ok := ok1.bind (some b) cap) (w := w) gh.next (l.length : Int) b (by rw [gl.next]; exact Nat.lt_succ_self _) (by rw [gl.next]; exact Oks.bind_blk _ _ _) (by omega) (by rw [hc]; omega) (by rw [hc]; exact h7)
    rw [hc, Int.toNat_natCast] at this
    exact .v _ _ this
end Go.Proofs.Ythioccbgjkbmdaa.AM

/-
  The common heap: rules for proofs with a variable 'A'.
-/
set_option linter.unusedVariables false
set_option linter.unusedSimpArgs false
set_option linter.unusedSectionVars false
namespace Go.Proofs.Ythioccbgjkbmdaa.AM
open Go Go.RowKit

section
variable {A : Prim} {R : List (Nat × AObj) → List D → Prop} (hA : A = std Try.prog R)
include hA
theorem gldI {t : TypeId} {x : Operand} {gh : GH} {id off : Nat} {K : V → Prop} {v : V} (l : List V) (hg : gh.get id = some (.box l)) (hK : K v) (hv : l[off]? = some v := by rfl) (hkn : known (tyOf t).k = true := by rfl) (hag : isAggT (tyOf t).k = false := by rfl) : A.gq (.load t x) [.gp id off] gh K :=
  gqI hA v (gq_load T_ok hkn hag hg hv) hK
theorem gldAI {t : TypeId} {x : Operand} {gh : GH} {id off : Nat} {K : V → Prop} (l : List V) (hg : gh.get id = some (.box l)) (hK : K (.agg ((l.drop off).take (tyOf t).size))) (hle : off + (tyOf t).size ≤ l.length := by first | decide | exact Nat.le_of_ble_eq_true rfl) (hag : isAggT (tyOf t).k = true := by rfl) : A.gq (.load t x) [.gp id off] gh K :=
  gqI hA _ (gq_loadA T_ok hag hg hle) hK
theorem gldRI {t : TypeId} {x : Operand} {gh : GH} {id z off : Nat} {i : Int} {K : V → Prop} {y v : V} (l : List V) (hg : gh.get id = some (.row z l) ∨ gh.get id = some (.frow z l) ∨ gh.get id = some (.arow z l)) (hy : l[i.toNat]? = some y) (hK : K v) (hv : y.flat[off]? = some v := by rfl) (hkn : known (tyOf t).k = true := by rfl) (hag : isAggT (tyOf t).k = false := by rfl) : A.gq (.load t x) [.ge id z i off] gh K :=
  gqI hA v (gq_loadR T_ok hkn hag hg hy hv) hK
/-- A row of bytes, read. -/
theorem gldBI {t : TypeId} {x : Operand} {gh : GH} {id j : Nat} {i : Int} {K : V → Prop} (b : List UInt8) (hg : gh.get id = some (.row 1 (bytesV b))) (hi : i = (j : Int)) (hj : j < b.length) (hK : ∀ r : Int, r = ((b[j]'hj).toNat : Nat) → K (.int .u8 r)) (hkn : known (tyOf t).k = true := by rfl) (hag : isAggT (tyOf t).k = false := by rfl) : A.gq (.load t x) [.ge id 1 i 0] gh K :=
  gqI hA _ (gq_loadR T_ok (y := .int .u8 ((b[j]'hj).toNat : Nat)) hkn hag (.inl hg) (by subst hi; simp [bytesV, hj]) rfl) (hK _ rfl)
theorem gixI {t e : TypeId} {x i : Operand} {gh : GH} {id : Nat} {n m : Int} {k : IntKind} {K : V → Prop} (h0 : 0 ≤ m ∧ m < n) (hK : K (.ge id (tyOf e).size m 0)) (ht : (tyOf t).k = .slice e := by rfl) (hkn : known (tyOf e).k = true := by rfl) : A.gq (.indexAddr t x i) [.gs id n, .int k m] gh K :=
  gqI hA _ (gq_index T_ok ht hkn h0.1 h0.2) hK
theorem glenI {c : Call} {t e : TypeId} {x : Operand} {gh : GH} {id : Nat} {n : Int} {K : V → Prop} (hK : K (.int .i64 n)) (hc : c.callee = .builtin .len := by rfl) (ha : c.args = #[x] := by rfl) (hat : c.argTypes = #[t] := by rfl) (ht : (tyOf t).k = .slice e := by rfl) : A.gq (.call c) [.gs id n] gh K :=
  gqI hA _ (gq_len T_ok hc ha hat ht) hK
theorem gop1 {o : Oper} {xs : List V} {gh : GH} {K : V → GH → Prop} {r : V} {g : GH} (h : GOp Try.prog o xs gh (One r g)) (hK : ∀ g', g' = g → K r g') : A.gop o xs gh K := gopI hA r g h (hK g rfl)
theorem gstI {o : Oper} {t : TypeId} {x y : Operand} {gh : GH} {id off : Nat} {v : V} {K : V → GH → Prop} (l : List V) (hg : gh.get id = some (.box l)) (hK : ∀ g', g' = gh.set id (.box (l.take off ++ v.flat ++ l.drop (off + v.flat.length))) → K (.tup []) g')
    (ho : o.op = .store t x y := by rfl) (hkn : known (tyOf t).k = true := by rfl) (hc : v.okc = true := by rfl) (hsz : v.flat.length = (tyOf t).size := by rfl) (hle : off + v.flat.length ≤ l.length := by first | decide | exact Nat.le_of_ble_eq_true rfl) : A.gop o [.gp id off, v] gh K :=
  gop1 hA (gop_store T_ok ho hkn hc hsz hg hle) hK
/-- A row's element of one cell, written. -/
theorem gstRI {o : Oper} {t : TypeId} {x y : Operand} {gh : GH} {id : Nat} {i : Int} {v el : V} {K : V → GH → Prop} (l : List V) (hg : gh.get id = some (.row 1 l)) (hi : l[i.toNat]? = some el) (hel : el.cell = true) (hK : ∀ g', g' = gh.set id (.row 1 (l.set i.toNat v)) → K (.tup []) g')
    (hv : v.cell = true := by rfl) (ho : o.op = .store t x y := by rfl) (hkn : known (tyOf t).k = true := by rfl) (hsz : (tyOf t).size = 1 := by rfl) : A.gop o [.ge id 1 i 0, v] gh K := by
  have f1 := cell_flat hel
  have f2 := cell_flat hv
  exact gop1 hA (gop_storeR T_ok ho hkn (by cases v <;> simp [V.cell] at hv <;> rfl) (by rw [f2, hsz]; rfl) hg hi (by rw [f1, f2]; simp) (by rw [f1, f2]; rfl)) hK
theorem gappI {o : Oper} {c : Call} {t t2 e z bt : Nat} {s x : Operand} {gh : GH} {id : Nat} {n : Int} {v : V} {K : V → GH → Prop} (l l2 : List V) (hg : gh.get id = some (.row z l)) (hn : n = l.length) (hsrc : SrcIs gh z v l2) (hroom : (l.length + l2.length) * bt ≤ 140737488355328) (hK : ∀ (g' : GH) (m : Int), g' = (gh.del id).new (.row z (l ++ l2)) → m = ((l ++ l2).length : Nat) → K (.gs gh.next m) g')
    (ho : o.op = .call c := by rfl) (hcb : c.callee = .builtin .append := by rfl) (hat : c.argTypes = #[t, t2] := by rfl) (has : c.args = #[s, x] := by rfl) (hkt : (tyOf t).k = .slice e := by rfl) (hkn : known (tyOf e).k = true := by rfl) (hz : (tyOf e).size = z := by rfl) (hbt : (tyOf e).bytes = bt := by rfl) (hz0 : 0 < z := by decide)
    (hst : isSrcV (tyOf t2).k v = true := by rfl) (hb0 : 0 < bt := by decide) : A.gop o [.gs id n, v] gh K := by
  subst hz hbt
  exact gop1 hA (gop_append T_ok ho hcb hat has hkt hkn hz0 hg hn hst hsrc hroom hb0) fun g' h => hK g' _ h rfl
theorem retGI {post : List Rs → GH → Prop} {ob : List (Nat × AObj)} {l : List D} (hR : R = retOkG post) (rs : List Rs) (gh' : GH) {pub : List Nat} (hp : post rs gh') (h2 : rsOk (softOb ob (retIds l rs)) [] l rs) (h1 : look ob hk = some (.heap gh' pub) := by rfl) : A.ret ob l := by
  subst hA hR; exact ⟨rs, gh', pub, h1, h2, hp⟩
end
end Go.Proofs.Ythioccbgjkbmdaa.AM

/-
  The common heap: more rules for proofs with a variable 'A'.
-/
set_option linter.unusedVariables false
set_option linter.unusedSimpArgs false
set_option linter.unusedSectionVars false
namespace Go.Proofs.Ythioccbgjkbmdaa.AM
open Go Go.RowKit
open Go.ChangeMaps (setBlock)

section
variable {P : Program} (hT : tableOf P = T)
include hT
/-- Append of something to a slice without room behind it. -/
theorem gop_appendX {o : Oper} {c : Call} (ho : o.op = .call c) (hcb : c.callee = .builtin .append) {t t2 e : Nat} (hat : c.argTypes = #[t, t2]) {s x : Operand} (has : c.args = #[s, x]) {gh : GH} {v : V} {l l2 : List V} (hkt : (tyOf t).k = .slice e) (hkn : known (tyOf e).k = true) (hz0 : 0 < (tyOf e).size) (hzl : ∀ x ∈ l, x.flat.length = (tyOf e).size)
    (hst : isSrcV (tyOf t2).k v = true) (hsrc : SrcIs gh (tyOf e).size v l2) (hne : l2 ≠ []) (hroom : (l.length + l2.length) * (tyOf e).bytes ≤ 140737488355328) (hb0 : 0 < (tyOf e).bytes) : GOp P o [.xs l, v] gh (One (.gs gh.next (l ++ l2).length) (gh.new (.arow (tyOf e).size (l ++ l2)))) := by
  refine GOp.of_run fun ok w a gl hokb hx => ?_
  rw [ho] at hx
  have hs := hx.get 0 rfl (y := s) (by simp [Op.operands, Call.operands, hcb, has])
  have hv := hx.get 1 rfl (y := x) (by simp [Op.operands, Call.operands, hcb, has])
  obtain ⟨news, hsrc', hnews⟩ := srcIs_sound hT hst hz0 hsrc gl hv
  obtain ⟨i, zv, hi, hz, hsz, hby, _, _, _, hzs⟩ := ty_info hT (t := e) (known_ne' hkn)
  have hnm : l.length + l2.length ≤ 140737488355328 := Nat.le_trans (Nat.le_mul_of_pos_right _ hb0) hroom
  have hpos : 0 < l2.length := List.length_pos_iff.2 hne
  cases hs with
  | xs _ u ad hu hr =>
  obtain ⟨ad', cp, z, us, hu', hc, hm, ha, hzz, hcell, hrr⟩ := rep_sl hr
  rw [hu] at hu'
  cases hu'
  have olds : ∃ olds : List Value, News ok w (tyOf e).size l olds ∧ (Builtin.firstCells i.size l.length (.slice ad l.length l.length)).run P w.drew = .ok olds.toArray w.drew := by
    by_cases h0 : l = []
    · subst h0
      refine ⟨[], ⟨by simp, by simp, by simp⟩, ?_⟩
      cases ad with
      | none => exact run_firstCells_none _ _ _ _ _
      | some q => exact run_firstCells_some _ _ _ _ _ _ _ (by simp) (fun j u hu => by simp at hu)
    · have hp : 0 < l.length := List.length_pos_iff.2 h0
      obtain ⟨b, off, rfl, hx⟩ := ha hp
      have hz1 : z = (tyOf e).size := by
        rw [← hzz 0 hp]; exact hzl _ (List.getElem_mem _)
      subst hz1
      have hrow : RowAt ok w b off (tyOf e).size l := ⟨hzz, hcell, fun i hi j hj => ⟨us i j, (hx i j hi (by rw [← hzz i hi]; exact hj)).2, hrr i hi j hj⟩⟩
      obtain ⟨olds, o1, o2, _⟩ := hrow.news
      refine ⟨olds, o1, ?_⟩
      rw [hsz]
      exact run_firstCells_some _ _ _ _ _ _ _ o1.1 (fun j u hu => by rw [add_plain]; exact o2 j u hu)
  obtain ⟨olds, o1, o2⟩ := olds
  have hrun := run_append_grow_src (P := P) w t t2 o.type e i zv (ty_slice hT hkt) hi hz ad l.length l.length olds o2 (a.eval x) l2.length news (by rw [hsz]; exact hsrc') (by omega) (by omega) (growslice_fits (by omega) (by rw [hby]; exact hroom))
  have c1 := grownCap_ge w (l.length + l2.length) l.length e
  have c2 := grownCap_le_maxLen w (l.length + l2.length) l.length e (by simp [maxLen]; omega)
  generalize grownCap w (l.length + l2.length) l.length e = q at hrun c1 c2
  rw [← List.length_append] at hrun c1
  exact pack_toA (gl_grown hT gl hokb (o1.append hnews) hzs hsz hrun c1 c2 fun hr => .inl (exec_append hT ho hcb hat has hu hr))
end
/-- What may be appended to, of a kind. -/
def SlApp (gh : GH) (z : Nat) (l : List V) (y : V) : Prop := (y = .nils ∧ l = []) ∨ y = .xs l ∨ ∃ id, y = .gs id (l.length : Int) ∧ gh.get id = some (.arow z l)
theorem SlApp.is {gh : GH} {z : Nat} {l : List V} {y : V} (h : SlApp gh z l y) : SlIs gh z l y := by
  rcases h with h | h | h
  · exact .inl h
  · exact .inr (.inl h)
  · exact .inr (.inr (.inr h))
section
variable {A : Prim} {R : List (Nat × AObj) → List D → Prop} (hA : A = std Try.prog R)
include hA
theorem gappSI {o : Oper} {c : Call} {t t2 e z bt : Nat} {s x : Operand} {gh : GH} {y v : V} {K : V → GH → Prop} (l l2 : List V) (hy : SlApp gh z l y) (hsrc : SrcIs gh z v l2) (hne : l2 ≠ []) (hzl : ∀ x ∈ l, x.flat.length = z) (hroom : (l.length + l2.length) * bt ≤ 140737488355328)
    (hK : ∀ (g' : GH) (m : Int), g'.next = gh.next + 1 → g'.get gh.next = some (.arow z (l ++ l2)) → (∀ j, j < gh.next → (∀ n, y ≠ .gs j n) → g'.get j = gh.get j) → m = ((l ++ l2).length : Nat) → K (.gs gh.next m) g')
    (ho : o.op = .call c := by rfl) (hcb : c.callee = .builtin .append := by rfl) (hat : c.argTypes = #[t, t2] := by rfl) (has : c.args = #[s, x] := by rfl) (hkt : (tyOf t).k = .slice e := by rfl) (hkn : known (tyOf e).k = true := by rfl) (hz : (tyOf e).size = z := by rfl) (hbt : (tyOf e).bytes = bt := by rfl) (hz0 : 0 < z := by decide)
    (hst : isSrcV (tyOf t2).k v = true := by rfl) (hb0 : 0 < bt := by decide) : A.gop o [y, v] gh K := by
  subst hz hbt
  rcases hy with ⟨rfl, rfl⟩ | rfl | ⟨id, rfl, hg⟩
  · have h := (gop_append0 T_ok ho hcb hat has hkt hkn hz0 hst hsrc (by simpa using hroom) hb0).toA (id := gh.next) (z := (tyOf e).size) (l := l2) (by simp)
    rw [new_toA] at h
    exact gop1 hA h fun g' hg' => hK g' _ (by rw [hg']; rfl) (by rw [hg']; simp) (fun j hj _ => by rw [hg']; simp [Nat.ne_of_lt hj]) (by simp)
  · exact gop1 hA (gop_appendX T_ok ho hcb hat has hkt hkn hz0 hzl hst hsrc hne hroom hb0) fun g' hg' => hK g' _ (by rw [hg']; rfl) (by rw [hg']; simp) (fun j hj _ => by rw [hg']; simp [Nat.ne_of_lt hj]) rfl
  · exact gop1 hA (gop_appendA T_ok ho hcb hat has hkt hkn hz0 hg rfl hst hsrc hroom hb0) fun g' hg' => hK g' _ (by rw [hg']; rfl) (by rw [hg']; simp) (fun j hj hne2 => by
      have : j ≠ id := fun e => by subst e; exact hne2 _ rfl
      rw [hg']; simp [Nat.ne_of_lt hj, this]) rfl
theorem glookI {t kt et : Nat} {m x : Operand} {gh : GH} {id clock : Nat} {es : List (Nat × V × V)} {k : List UInt8} {z : V} {K : V → Prop} (hg : gh.get id = some (.map es clock)) (hs : StrKeys es) (hK : K (match mIdx es k with
      | some j => .tup [(es[j]?.map (·.2.2)).getD z, .bool true]
      | none => .tup [z, .bool false])) (hm : Try.prog.underlying t = some (.map kt et)) (hkt : Try.prog.underlying kt = some .string) (hz : ∃ zv, (∀ w, (zeroValue et).run Try.prog w = .ok zv w) ∧ ∀ ok w, Rep ok w z zv) : A.gq (.lookup t m x true) [.gm id, .str k] gh K :=
  gqI hA _ (gq_lookup T_ok hm hkt hg hs hz) hK
theorem gmakeI {o : Oper} {t : Nat} {gh : GH} {K : V → GH → Prop} (hK : ∀ g', g' = gh.new (.map [] 0) → K (.gm gh.next) g') (ho : o.op = .makeMap t none := by rfl) : A.gop o [] gh K := gop1 hA (gop_makeMap T_ok ho) hK
theorem gmapI {o : Oper} {t kt et : Nat} {m x y : Operand} {gh : GH} {id clock : Nat} {es : List (Nat × V × V)} {k : List UInt8} {v : V} {K : V → GH → Prop} (hg : gh.get id = some (.map es clock)) (hs : StrKeys es) (hK : ∀ g', g' = gh.set id (.map (mSet es clock k v) (mClk es clock k)) → K (.tup []) g') (hm : Try.prog.underlying t = some (.map kt et)) (hkt : Try.prog.underlying kt = some .string) (ho : o.op = .mapUpdate t m x y := by rfl) : A.gop o [.gm id, .str k, v] gh K :=
  gop1 hA (gop_mapUpdate T_ok ho hm hkt hg hs) hK
theorem gdelI {o : Oper} {c : Call} {t kt et t2 : Nat} {m x : Operand} {gh : GH} {id clock : Nat} {es : List (Nat × V × V)} {k : List UInt8} {K : V → GH → Prop} (hg : gh.get id = some (.map es clock)) (hs : StrKeys es) (hK : ∀ g', g' = gh.set id (.map (mDel es k) clock) → K (.tup []) g') (hm : Try.prog.underlying t = some (.map kt et)) (hkt : Try.prog.underlying kt = some .string) (ho : o.op = .call c := by rfl) (hc : c.callee = .builtin .delete := by rfl) (ha : c.args = #[m, x] := by rfl) (hat : c.argTypes = #[t, t2] := by rfl) : A.gop o [.gm id, .str k] gh K :=
  gop1 hA (gop_delete T_ok ho hc ha hat hm hkt hg hs) hK
theorem grngI {o : Oper} {t kt et : Nat} {x : Operand} {gh : GH} {id clock : Nat} {es : List (Nat × V × V)} {K : V → GH → Prop} (hg : gh.get id = some (.map es clock)) (hK : ∀ g', g' = gh.new (.mit (some id) clock [] clock) → K (.gp gh.next 0) g') (hm : Try.prog.underlying t = some (.map kt et)) (ho : o.op = .range t x := by rfl) : A.gop o [.gm id] gh K := gop1 hA (gop_range T_ok ho hm hg) hK
theorem gnxtI {o : Oper} {x : Operand} {gh : GH} {it id since st clock : Nat} {seen : List Nat} {es : List (Nat × V × V)} {K : V → GH → Prop} (hi : gh.get it = some (.mit (some id) since seen st)) (hg : gh.get id = some (.map es clock)) (hold : ∀ e ∈ es, e.1 < since) (hst : since ≤ st) (hK : ∀ r gh', NextR gh it id since seen es clock r gh' → K r gh') (ho : o.op = .next x false := by rfl) : A.gopN o [.gp it 0] gh K :=
  gopNI hA _ (gop_next T_ok ho hi hg hold hst) hK
theorem gentI {x : Operand} {gh : GH} {it id since clock : Nat} {seen : List Nat} {es : List (Nat × V × V)} {e : Nat × V × V} {K : V → Prop} (hi : gh.get it = some (.mit (some id) since (seen ++ [e.1]) clock)) (hg : gh.get id = some (.map es clock)) (he : e ∈ es) (hnd : (es.map (·.1)).Nodup) (hK : K (.tup [e.2.1, e.2.2])) : A.gq (.entry x) [.gp it 0] gh K :=
  gqI hA _ (gq_entry T_ok hi hg he hnd) hK
theorem gsl3I {t e : Nat} {x y1 y2 : Operand} {gh : GH} {y : V} {s : List V} {m : Int} {k k' : IntKind} {K : V → Prop} (hy : SlIs gh (tyOf e).size s y) (h : 0 ≤ m ∧ m ≤ s.length) (hz : ∀ x ∈ s, x.flat.length = (tyOf e).size) (hK : K (.xs (s.take m.toNat))) (hk : (tyOf t).k = .slice e := by rfl) (hkn : known (tyOf e).k = true := by rfl) : A.gq (.slice t x none (some y1) (some y2)) [y, .int k m, .int k' m] gh K :=
  gqI hA _ (gq_slice3 T_ok hy hk hkn h.1 h.2 hz) hK
theorem glnSI {c : Call} {t e : Nat} {x : Operand} {gh : GH} {y : V} {s : List V} {K : V → Prop} (hy : SlIs gh (tyOf e).size s y) (hK : K (.int .i64 s.length)) (hc : c.callee = .builtin .len := by rfl) (ha : c.args = #[x] := by rfl) (hat : c.argTypes = #[t] := by rfl) (ht : (tyOf t).k = .slice e := by rfl) : A.gq (.call c) [y] gh K :=
  gqI hA _ (gq_lenS T_ok hy hc ha hat ht) hK
theorem gbxI {o : Oper} {t : Nat} {x : Operand} {gh : GH} {v : V} {K : V → GH → Prop} (hK : ∀ g', g' = gh.new (.box v.flat) → K (.gp gh.next 0) g') (ho : o.op = .box t x := by rfl) (hc : v.okc = true := by rfl) : A.gop o [v] gh K := gop1 hA (gop_box T_ok ho hc) hK
theorem galI {o : Oper} {t : Nat} {gh : GH} {l : List V} {K : V → GH → Prop} (hK : ∀ g', g' = gh.new (.box l) → K (.gp gh.next 0) g') (ho : o.op = .alloc t := by rfl) (hkn : known (tyOf t).k = true := by rfl) (hz : toVas [] (tyOf t).zero = some l := by rfl) : A.gop o [] gh K := gop1 hA (gop_alloc T_ok ho hkn hz) hK
end
end Go.Proofs.Ythioccbgjkbmdaa.AM

/-
  Maps with names as keys, and entries in the order of their names.
-/
set_option linter.unusedVariables false
set_option linter.unusedSimpArgs false
namespace Go.Proofs.Ythioccbgjkbmdaa.AM
open Go Go.RowKit
set_option maxRecDepth 100000
set_option maxHeartbeats 4000000

theorem lt_irrefl : ∀ a : Bs, lt a a = false
  | [] => rfl
  | a :: x => by
    have := lt_irrefl x
    simp only [lt, Op.bytesLess] at *
    simp [this]
theorem lt_trans : ∀ {a b c : Bs}, lt a b = true → lt b c = true → lt a c = true
  | _, [], _, h, _ => by simp [lt, Op.bytesLess] at h
  | _, _ :: _, [], _, h => by simp [lt, Op.bytesLess] at h
  | [], _ :: _, _ :: _, _, _ => rfl
  | a :: x, b :: y, c :: z, h, k => by
    simp only [lt, Op.bytesLess, Bool.or_eq_true, Bool.and_eq_true, decide_eq_true_eq, beq_iff_eq] at *
    rcases h with h | ⟨h1, h2⟩ <;> rcases k with k | ⟨k1, k2⟩
    · exact .inl (UInt8.lt_trans h k)
    · subst k1; exact .inl h
    · subst h1; exact .inl k
    · exact .inr ⟨h1.trans k1, lt_trans h2 k2⟩
theorem lt_tri : ∀ a b : Bs, lt a b = true ∨ a = b ∨ lt b a = true
  | [], [] => .inr (.inl rfl)
  | [], _ :: _ => .inl rfl
  | _ :: _, [] => .inr (.inr rfl)
  | a :: x, b :: y => by
    simp only [lt, Op.bytesLess, Bool.or_eq_true, Bool.and_eq_true, decide_eq_true_eq, beq_iff_eq, List.cons.injEq]
    rcases lt_tri x y with h | h | h <;> rcases Nat.lt_trichotomy a.toNat b.toNat with q | q | q
    all_goals first
      | exact .inl (.inl (UInt8.lt_iff_toNat_lt.2 q))
      | exact .inr (.inr (.inl (UInt8.lt_iff_toNat_lt.2 q)))
      | skip
    · exact .inl (.inr ⟨UInt8.toNat_inj.1 q, h⟩)
    · exact .inr (.inl ⟨UInt8.toNat_inj.1 q, h⟩)
    · exact .inr (.inr (.inr ⟨(UInt8.toNat_inj.1 q).symm, h⟩))
/-- Entries in order. -/
def Ord (l : List (Bs × Nat)) : Prop := l.Pairwise fun a b => lt a.1 b.1 = true
theorem Ord.nd {l : List (Bs × Nat)} (h : Ord l) : (l.map (·.1)).Nodup := by
  unfold List.Nodup
  rw [List.pairwise_map]
  exact h.imp fun {a b} q e => by rw [e, lt_irrefl] at q; cases q
theorem Ord.without {l : List (Bs × Nat)} (h : Ord l) (s : Bs) : Ord (enWithout l s) := h.filter _
theorem without_mem {l : List (Bs × Nat)} {s : Bs} {e : Bs × Nat} : e ∈ enWithout l s ↔ e ∈ l ∧ e.1 ≠ s := by
  unfold enWithout; rw [List.mem_filter]; simp
theorem ins_perm (l : List (Bs × Nat)) (e : Bs × Nat) : (enIns l e).Perm (e :: l) := by
  induction l with
  | nil => exact .refl _
  | cons x r ih =>
    unfold enIns
    split
    · exact (ih.cons x).trans (.swap ..)
    · exact .refl _
theorem Ord.ins {l : List (Bs × Nat)} (h : Ord l) (e : Bs × Nat) (hn : ∀ x ∈ l, x.1 ≠ e.1) : Ord (enIns l e) := by
  induction l with
  | nil => exact List.pairwise_singleton _ _
  | cons x r ih =>
    have h := List.pairwise_cons.1 h
    unfold enIns
    split
    · rename_i q
      refine List.pairwise_cons.2 ⟨fun y hy => ?_, ih h.2 fun y hy => hn y (List.mem_cons_of_mem _ hy)⟩
      rcases List.mem_cons.1 ((ins_perm r e).mem_iff.1 hy) with rfl | hy
      · exact q
      · exact h.1 y hy
    · rename_i q
      have q2 : lt e.1 x.1 = true := by
        rcases lt_tri e.1 x.1 with k | k | k
        · exact k
        · exact absurd k.symm (hn x (by simp))
        · exact absurd k q
      refine List.pairwise_cons.2 ⟨fun y hy => ?_, List.pairwise_cons.2 h⟩
      rcases List.mem_cons.1 hy with rfl | hy
      · exact q2
      · exact lt_trans q2 (h.1 y hy)
theorem Ord.with {l : List (Bs × Nat)} (h : Ord l) (s : Bs) (i : Nat) : Ord (enWith l s i) := (h.without s).ins _ fun x hx => (without_mem.1 hx).2
theorem get_iff {l : List (Bs × Nat)} (h : (l.map (·.1)).Nodup) {s : Bs} {i : Nat} : enGet l s = some i ↔ (s, i) ∈ l := by
  induction l with
  | nil => simp [enGet]
  | cons x r ih =>
    have hx := List.nodup_cons.1 (by simpa using h : (x.1 :: r.map (·.1)).Nodup)
    have ih := ih hx.2
    obtain ⟨a, b⟩ := x
    unfold enGet at *
    rw [List.find?_cons]
    cases q : a == s with
    | true =>
      have := eq_of_beq q; subst this
      simp only [Option.map_some, Option.some.injEq, List.mem_cons, Prod.mk.injEq, true_and]
      refine ⟨fun h => .inl h.symm, fun h => ?_⟩
      rcases h with h | h
      · exact h.symm
      · exact absurd (List.mem_map_of_mem (f := (·.1)) h) hx.1
    | false =>
      simp only [ih, List.mem_cons, Prod.mk.injEq]
      refine ⟨.inr, fun h => ?_⟩
      rcases h with ⟨h, _⟩ | h
      · subst h; simp at q
      · exact h
theorem get_perm {l m : List (Bs × Nat)} (h : (l.map (·.1)).Nodup) (p : l.Perm m) (s : Bs) : enGet l s = enGet m s := by
  have hm : (m.map (·.1)).Nodup := (p.map _).nodup_iff.1 h
  cases q : enGet l s with
  | some i => exact ((get_iff hm).2 (p.mem_iff.1 ((get_iff h).1 q))).symm
  | none =>
    cases q2 : enGet m s with
    | none => rfl
    | some i => rw [(get_iff h).2 (p.mem_iff.2 ((get_iff hm).1 q2))] at q; cases q
/-! ### A map's entries -/
def encE (t : List (Nat × Bs × Nat)) : List (Nat × V × V) := t.map fun e => (e.1, .str e.2.1, .int .i64 e.2.2)
def names (t : List (Nat × Bs × Nat)) : List (Bs × Nat) := t.map (·.2)
structure MpOk (t : List (Nat × Bs × Nat)) (clock : Nat) (en : List (Bs × Nat)) : Prop where
  lt : ∀ e ∈ t, e.1 < clock
  nd : (t.map (·.1)).Nodup
  perm : (names t).Perm en
  ord : Ord en
theorem strKeys_enc (t : List (Nat × Bs × Nat)) : StrKeys (encE t) := fun e he => by
  simp only [encE, List.mem_map] at he
  obtain ⟨x, _, rfl⟩ := he
  exact ⟨_, rfl⟩
theorem MpOk.kd {t : List (Nat × Bs × Nat)} {c : Nat} {en : List (Bs × Nat)} (h : MpOk t c en) : ((names t).map (·.1)).Nodup := (h.perm.map _).nodup_iff.2 h.ord.nd
theorem idx_enc (t : List (Nat × Bs × Nat)) (k : Bs) : mIdx (encE t) k = t.findIdx? fun e => e.2.1 == k := by
  unfold mIdx encE
  rw [List.findIdx?_map]; rfl
theorem idx_get (t : List (Nat × Bs × Nat)) (k : Bs) : (∃ j, ∃ h : j < t.length, (t.findIdx? fun e => e.2.1 == k) = some j ∧ (t[j]'h).2.1 = k ∧ enGet (names t) k = some (t[j]'h).2.2) ∨ ((t.findIdx? fun e => e.2.1 == k) = none ∧ enGet (names t) k = none ∧ ∀ e ∈ t, e.2.1 ≠ k) := by
  induction t with
  | nil => exact .inr ⟨rfl, rfl, by simp⟩
  | cons x r ih =>
    have e1 : enGet (names (x :: r)) k = if (x.2.1 == k) = true then some x.2.2 else enGet (names r) k := by
      simp only [enGet, names, List.map_cons, List.find?_cons]
      cases x.2.1 == k <;> rfl
    rw [e1, List.findIdx?_cons]
    cases q : x.2.1 == k with
    | true => exact .inl ⟨0, by simp, by simp, eq_of_beq q, by simp⟩
    | false =>
      have q' : x.2.1 ≠ k := by simpa using q
      rcases ih with ⟨j, h, h1, h2, h3⟩ | ⟨h1, h2, h3⟩
      · exact .inl ⟨j + 1, by simpa using h, by simp [h1], by simpa using h2, by simpa using h3⟩
      · exact .inr ⟨by simp [h1], by simpa using h2, fun e he => (List.mem_cons.1 he).elim (fun h => h ▸ q') (h3 e)⟩
/-- What a look-up tells. -/
theorem look_enc {t : List (Nat × Bs × Nat)} {c : Nat} {en : List (Bs × Nat)} (h : MpOk t c en) (k : Bs) (z : V) : (match mIdx (encE t) k with
      | some j => V.tup [((encE t)[j]?.map (fun e : Nat × V × V => e.2.2)).getD z, .bool true]
      | none => .tup [z, .bool false]) = match enGet en k with
      | some i => .tup [.int .i64 i, .bool true]
      | none => .tup [z, .bool false] := by
  rw [← get_perm h.kd h.perm, idx_enc]
  rcases idx_get t k with ⟨j, hj, h1, _, h3⟩ | ⟨h1, h2, _⟩
  · simp only [h1, h3, encE]
    simp [List.getElem?_eq_getElem hj]
  · simp only [h1, h2]
theorem nd_mid {α : Type} {a b : List α} {x : α} (h : (a ++ x :: b).Nodup) : x ∉ a ++ b := (List.nodup_cons.1 (List.perm_middle.nodup_iff.1 h)).1
theorem set_enc {t : List (Nat × Bs × Nat)} {c : Nat} {en : List (Bs × Nat)} (h : MpOk t c en) (k : Bs) (i : Nat) : ∃ t', mSet (encE t) c k (.int .i64 i) = encE t' ∧ MpOk t' (mClk (encE t) c k) (enWith en k i) := by
  have key : ∀ t' : List (Nat × Bs × Nat), (names t').Perm ((k, i) :: enWithout en k) → (names t').Perm (enWith en k i) := fun t' q => q.trans (ins_perm _ _).symm
  unfold mSet mClk
  rw [idx_enc]
  rcases idx_get t k with ⟨j, hj, h1, h2, h3⟩ | ⟨h1, h2, h3⟩
  · rw [h1]
    refine ⟨t.set j ((t[j]'hj).1, k, i), by simp [encE, List.map_set, List.getElem?_eq_getElem hj], fun e he => ?_, ?_, key _ ?_, h.ord.with k i⟩
    · rcases List.mem_or_eq_of_mem_set he with q | rfl
      · exact h.lt e q
      · exact (h.lt _ (List.getElem_mem hj) : (t[j]'hj).1 < c)
    · rw [List.map_set, show ((t[j]'hj).1, k, i).1 = (t.map (·.1))[j]'(by simpa using hj) from by simp, List.set_getElem_self]
      exact h.nd
    · have hsplit : names (t.set j ((t[j]'hj).1, k, i)) = ((names t).take j) ++ (k, i) :: (names t).drop (j + 1) := by
        unfold names
        rw [List.map_set, List.set_eq_take_append_cons_drop, if_pos (by simpa using hj)]
      rw [hsplit]
      have hk := h.kd
      have e0 : names t = (names t).take j ++ (t[j]'hj).2 :: (names t).drop (j + 1) := by
        have : (t[j]'hj).2 = (names t)[j]'(by simpa [names] using hj) := by simp [names]
        rw [this, ← List.drop_eq_getElem_cons, List.take_append_drop]
      refine List.perm_middle.trans (List.Perm.cons _ ?_)
      have p1 : ((names t).filter fun e => !(e.1 == k)).Perm (enWithout en k) := h.perm.filter _
      refine List.Perm.trans ?_ p1
      have hne : ∀ e, e ∈ (names t).take j ++ (names t).drop (j + 1) → e.1 ≠ k := by
        intro e he hek
        have hk2 := hk
        rw [e0, List.map_append, List.map_cons] at hk2
        refine nd_mid hk2 ?_
        rw [h2, ← hek, ← List.map_append]
        exact List.mem_map_of_mem (f := (·.1)) he
      conv => rhs; rw [e0]
      rw [List.filter_append, List.filter_cons, if_neg (by simp [h2]), ← List.filter_append, List.filter_eq_self.2 fun e he => by simpa using hne e he]
  · rw [h1]
    refine ⟨t ++ [(c, k, i)], by simp [encE], fun e he => ?_, ?_, key _ ?_, h.ord.with k i⟩
    · rcases List.mem_append.1 he with q | q
      · exact Nat.lt_succ_of_lt (h.lt e q)
      · simp at q; subst q; exact Nat.lt_succ_self _
    · rw [List.map_append]
      refine List.nodup_append.2 ⟨h.nd, by simp, fun a ha b hb => ?_⟩
      simp at hb; subst hb
      obtain ⟨e, he, rfl⟩ := List.mem_map.1 ha
      exact Nat.ne_of_lt (h.lt e he)
    · have e1 : names (t ++ [(c, k, i)]) = names t ++ [(k, i)] := by simp [names]
      have e2 : enWithout en k = en := List.filter_eq_self.2 fun e he => by
        have := h.perm.mem_iff.2 he
        obtain ⟨x, hx, rfl⟩ := List.mem_map.1 this
        simpa using h3 x hx
      rw [e1, e2]
      exact List.perm_append_comm.trans (h.perm.cons _)
theorem del_enc {t : List (Nat × Bs × Nat)} {c : Nat} {en : List (Bs × Nat)} (h : MpOk t c en) (k : Bs) : ∃ t', mDel (encE t) k = encE t' ∧ MpOk t' c (enWithout en k) := by
  unfold mDel
  rw [idx_enc]
  rcases idx_get t k with ⟨j, hj, h1, h2, h3⟩ | ⟨h1, h2, h3⟩
  · rw [h1]
    refine ⟨t.eraseIdx j, by simp only [encE]; exact (Go.ChangeMaps.map_eraseIdx _ _ _).symm, fun e he => h.lt e (List.mem_of_mem_eraseIdx he), ?_, ?_, h.ord.without k⟩
    · exact h.nd.sublist ((List.eraseIdx_sublist t j).map _)
    · have p1 : ((names t).filter fun e => !(e.1 == k)).Perm (enWithout en k) := h.perm.filter _
      refine List.Perm.trans ?_ p1
      have e0 : names t = (names t).take j ++ (t[j]'hj).2 :: (names t).drop (j + 1) := by
        have : (t[j]'hj).2 = (names t)[j]'(by simpa [names] using hj) := by simp [names]
        rw [this, ← List.drop_eq_getElem_cons, List.take_append_drop]
      have e3 : names (t.eraseIdx j) = (names t).take j ++ (names t).drop (j + 1) := by
        unfold names
        rw [Go.ChangeMaps.map_eraseIdx, List.eraseIdx_eq_take_drop_succ]
      have hne : ∀ e, e ∈ (names t).take j ++ (names t).drop (j + 1) → e.1 ≠ k := by
        intro e he hek
        have hk2 := h.kd
        rw [e0, List.map_append, List.map_cons] at hk2
        refine nd_mid hk2 ?_
        rw [h2, ← hek, ← List.map_append]
        exact List.mem_map_of_mem (f := (·.1)) he
      rw [e3]
      conv => rhs; rw [e0]
      rw [List.filter_append, List.filter_cons, if_neg (by simp [h2]), ← List.filter_append, List.filter_eq_self.2 fun e he => by simpa using hne e he]
  · rw [h1]
    refine ⟨t, rfl, h.lt, h.nd, ?_, h.ord.without k⟩
    have e2 : enWithout en k = en := List.filter_eq_self.2 fun e he => by
      have := h.perm.mem_iff.2 he
      obtain ⟨x, hx, rfl⟩ := List.mem_map.1 this
      simpa using h3 x hx
    rw [e2]; exact h.perm
end Go.Proofs.Ythioccbgjkbmdaa.AM

/-
  A disk, as it lies on the common heap.
-/
set_option linter.unusedVariables false
set_option linter.unusedSimpArgs false
namespace Go.Proofs.Ythioccbgjkbmdaa.AM
open Go Go.RowKit
set_option maxRecDepth 100000
set_option maxHeartbeats 4000000

/-- What part of which node an object of the heap is. -/
abbrev Lab := Nat → Option (Nat × Nat)
def ByV (gh : GH) (lab : Lab) (r : Nat × Nat) (v : V) (b : Bs) : Prop := (v = .nils ∧ b = []) ∨ v = .xs (bytesV b) ∨ ∃ id, v = .gs id (b.length : Int) ∧ lab id = some r ∧ gh.get id = some (.arow 1 (bytesV b))
def MpV (gh : GH) (lab : Lab) (r : Nat × Nat) (dir : Bool) (v : V) (en : List (Bs × Nat)) : Prop := match dir with
  | true => ∃ id t c, v = .gm id ∧ lab id = some r ∧ gh.get id = some (.map (encE t) c) ∧ MpOk t c en
  | false => v = .nilmap ∧ en = []
def encC : Stp → V
  | .app b => .clo 49 [.ref [.slice (bytesV b)]]
  | .cut n => .clo 64 [.ref [.int .i64 n]]
  | .link s i => .clo 92 [.ref [.int .i64 i], .ref [.str s]]
  | .unl s => .clo 80 [.ref [.str s]]
  | .ren f t i => .nilfn
def encS (s : Stp) : V := .agg [.int .i64 s.parts, encC s]
def LsV (gh : GH) (lab : Lab) (r : Nat × Nat) (v : V) (l : List Stp) : Prop := (v = .nils ∧ l = []) ∨ ∃ id, v = .gs id (l.length : Int) ∧ lab id = some r ∧ gh.get id = some (.arow 2 (l.map encS))
def NodeAt (gh : GH) (lab : Lab) (i id : Nat) (nd : Nd) : Prop := ∃ vb ve wb we vl, gh.get id = some (.box [.bool nd.dir, vb, ve, wb, we, vl]) ∧ lab id = some (i, 0) ∧ ByV gh lab (i, 1) vb nd.safe.b ∧ MpV gh lab (i, 2) nd.dir ve nd.safe.en ∧ ByV gh lab (i, 3) wb nd.seen.b ∧ MpV gh lab (i, 4) nd.dir we nd.seen.en ∧ LsV gh lab (i, 5) vl nd.loose
def NsV (gh : GH) (lab : Lab) (v : V) (ids : List Nat) : Prop := (v = .nils ∧ ids = []) ∨ ∃ nid, v = .gs nid (ids.length : Int) ∧ lab nid = some (0, 7) ∧ gh.get nid = some (.arow 1 (ids.map fun i => V.gp i 0))
def Dom (gh : GH) (lab : Lab) : Prop := ∀ x, gh.next ≤ x → lab x = none
theorem Dom.lt {gh : GH} {lab : Lab} (h : Dom gh lab) {x : Nat} {r : Nat × Nat} (q : lab x = some r) : x < gh.next := by
  rcases Nat.lt_or_ge x gh.next with k | k
  · exact k
  · rw [h x k] at q; cases q
def boxD (v : V) (k : Dk) : GObj := .box [v, .int .i64 k.cap, .int .i64 k.ops, .int .i64 k.changes, .bool k.down, .bool k.done, .bool k.fail.is, .int .i64 k.fail.after, .bool k.full.is, .int .i64 k.full.after]
/-- A disk at a place. -/
def DiskAt (gh : GH) (lab : Lab) (p : Nat) (k : Dk) : Prop := Dom gh lab ∧ lab p = some (0, 6) ∧ ∃ v ids, gh.get p = some (boxD v k) ∧ NsV gh lab v ids ∧ ids.length = k.nodes.length ∧ ∀ i id nd, ids[i]? = some id → k.nodes[i]? = some nd → NodeAt gh lab i id nd
/-- What has changed: parts 'T', places 'X'. -/
structure Upd (gh gh' : GH) (lab lab' : Lab) (T : Nat × Nat → Prop) (X : Nat → Prop) : Prop where
  next : gh.next ≤ gh'.next
  old : ∀ x, x < gh.next → lab' x = lab x
  dom : Dom gh' lab'
  get : ∀ x, x < gh.next → ¬ X x → (∀ r, lab x = some r → ¬ T r) → gh'.get x = gh.get x
theorem Upd.refl {gh : GH} {lab : Lab} (hd : Dom gh lab) (T : Nat × Nat → Prop) (X : Nat → Prop) : Upd gh gh lab lab T X := ⟨Nat.le_refl _, fun _ _ => rfl, hd, fun _ _ _ _ => rfl⟩
theorem Upd.trans {g g' g'' : GH} {l l' l'' : Lab} {T : Nat × Nat → Prop} {X : Nat → Prop} (h : Upd g g' l l' T X) (k : Upd g' g'' l' l'' T X) : Upd g g'' l l'' T X :=
  ⟨Nat.le_trans h.next k.next, fun x q => (k.old x (Nat.lt_of_lt_of_le q h.next)).trans (h.old x q), k.dom, fun x q n t => (k.get x (Nat.lt_of_lt_of_le q h.next) n (by rw [h.old x q]; exact t)).trans (h.get x q n t)⟩
theorem Upd.weak {g g' : GH} {l l' : Lab} {T T' : Nat × Nat → Prop} {X X' : Nat → Prop} (h : Upd g g' l l' T X) (hT : ∀ r, T r → T' r) (hX : ∀ x, X x → X' x ∨ ∃ r, l x = some r ∧ T' r) : Upd g g' l l' T' X' :=
  ⟨h.next, h.old, h.dom, fun x q n t => h.get x q (fun k => (hX x k).elim n fun ⟨r, h1, h2⟩ => t r h1 h2) fun r k => fun k' => t r k (hT r k')⟩
section
variable {gh gh' : GH} {lab lab' : Lab} {T : Nat × Nat → Prop} {X : Nat → Prop} (hd : Dom gh lab) (u : Upd gh gh' lab lab' T X)
include hd u
theorem upd_id {x : Nat} {r : Nat × Nat} {o : GObj} (hl : lab x = some r) (hT : ¬ T r) (hX : ¬ X x) (hg : gh.get x = some o) : lab' x = some r ∧ gh'.get x = some o := by
  have hx := hd.lt hl
  refine ⟨(u.old x hx).trans hl, (u.get x hx hX fun r' h => ?_).trans hg⟩
  rw [hl] at h; cases h; exact hT
theorem ByV.upd {r : Nat × Nat} {v : V} {b : Bs} (h : ByV gh lab r v b) (hT : ¬ T r) (hX : ∀ x, X x → lab x ≠ some r) : ByV gh' lab' r v b := by
  rcases h with h | h | ⟨id, h1, h2, h3⟩
  · exact .inl h
  · exact .inr (.inl h)
  · obtain ⟨q1, q2⟩ := upd_id hd u h2 hT (fun q => hX _ q h2) h3
    exact .inr (.inr ⟨id, h1, q1, q2⟩)
theorem MpV.upd {r : Nat × Nat} {dir : Bool} {v : V} {en : List (Bs × Nat)} (h : MpV gh lab r dir v en) (hT : ¬ T r) (hX : ∀ x, X x → lab x ≠ some r) : MpV gh' lab' r dir v en := by
  cases dir with
  | false => exact h
  | true =>
    obtain ⟨id, t, c, h1, h2, h3, h4⟩ := h
    obtain ⟨q1, q2⟩ := upd_id hd u h2 hT (fun q => hX _ q h2) h3
    exact ⟨id, t, c, h1, q1, q2, h4⟩
theorem LsV.upd {r : Nat × Nat} {v : V} {l : List Stp} (h : LsV gh lab r v l) (hT : ¬ T r) (hX : ∀ x, X x → lab x ≠ some r) : LsV gh' lab' r v l := by
  rcases h with h | ⟨id, h1, h2, h3⟩
  · exact .inl h
  · obtain ⟨q1, q2⟩ := upd_id hd u h2 hT (fun q => hX _ q h2) h3
    exact .inr ⟨id, h1, q1, q2⟩
theorem NsV.upd {v : V} {l : List Nat} (h : NsV gh lab v l) (hT : ¬ T (0, 7)) (hX : ∀ x, X x → lab x ≠ some (0, 7)) : NsV gh' lab' v l := by
  rcases h with h | ⟨id, h1, h2, h3⟩
  · exact .inl h
  · obtain ⟨q1, q2⟩ := upd_id hd u h2 hT (fun q => hX _ q h2) h3
    exact .inr ⟨id, h1, q1, q2⟩
theorem NodeAt.upd {i id : Nat} {nd : Nd} (h : NodeAt gh lab i id nd) (hT : ∀ j, j ≤ 5 → ¬ T (i, j)) (hX : ∀ x, X x → ∀ j, lab x ≠ some (i, j)) : NodeAt gh' lab' i id nd := by
  obtain ⟨vb, ve, wb, we, vl, h1, h2, h3, h4, h5, h6, h7⟩ := h
  obtain ⟨q1, q2⟩ := upd_id hd u h2 (hT 0 (by decide)) (fun q => hX _ q 0 h2) h1
  exact ⟨vb, ve, wb, we, vl, q2, q1, h3.upd hd u (hT _ (by decide)) fun x q => hX x q _, h4.upd hd u (hT _ (by decide)) fun x q => hX x q _, h5.upd hd u (hT _ (by decide)) fun x q => hX x q _, h6.upd hd u (hT _ (by decide)) fun x q => hX x q _, h7.upd hd u (hT _ (by decide)) fun x q => hX x q _⟩
end
/-- A disk stays where nothing of it is touched. -/
theorem DiskAt.upd {gh gh' : GH} {lab lab' : Lab} {X : Nat → Prop} {p : Nat} {k : Dk} (h : DiskAt gh lab p k) (u : Upd gh gh' lab lab' (fun _ => False) X) (hX : ∀ x, X x → lab x = none) : DiskAt gh' lab' p k := by
  obtain ⟨hd, h1, v, ids, h2, h3, h4, h5⟩ := h
  have hX' : ∀ (x : Nat) (r : Nat × Nat), X x → lab x ≠ some r := fun x r q e => by rw [hX x q] at e; cases e
  obtain ⟨q1, q2⟩ := upd_id hd u h1 (fun h => h) (fun q => hX' _ _ q h1) h2
  exact ⟨u.dom, q1, v, ids, q2, h3.upd hd u (fun h => h) (fun x q => hX' x _ q), h4, fun i id nd k1 k2 => (h5 i id nd k1 k2).upd hd u (fun _ _ h => h) (fun x q j => hX' x _ q)⟩
/-- Without new labels. -/
theorem Upd.mk0 {gh gh' : GH} {lab : Lab} {T : Nat × Nat → Prop} {X : Nat → Prop} (hd : Dom gh lab) (hn : gh.next ≤ gh'.next) (hg : ∀ x, x < gh.next → ¬ X x → (∀ r, lab x = some r → ¬ T r) → gh'.get x = gh.get x) : Upd gh gh' lab lab T X :=
  ⟨hn, fun _ _ => rfl, fun x h => hd x (Nat.le_trans hn h), hg⟩
end Go.Proofs.Ythioccbgjkbmdaa.AM
