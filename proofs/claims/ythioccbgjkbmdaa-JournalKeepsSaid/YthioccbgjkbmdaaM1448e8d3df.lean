/-
  The common heap: rows that are only added to.
-/
import Derived.Test.YthioccbgjkbmdaaM13fd9be897
import Derived.MapKept
import Derived.Maps.RangeRun
set_option linter.unusedVariables false
set_option linter.unusedSimpArgs false
set_option linter.unusedSectionVars false
namespace Go.Proofs.Ythioccbgjkbmdaa.AM
open Go Go.RowKit

theorem remOb_idem (id : Nat) : ∀ ob : List (Nat × AObj), remOb id (remOb id ob) = remOb id ob
  | [] => rfl
  | (k, o) :: r => by
    by_cases h : k = id
    · simp only [remOb, if_pos h, remOb_idem id r]
    · simp only [remOb, if_neg h, remOb_idem id r]
theorem setOb_twice (S : St) (id : Nat) (o p : AObj) : (S.setOb id o).setOb id p = S.setOb id p := by
  unfold St.setOb
  simp only [remOb, if_true, remOb_idem]
/-- A row is from now on only added to. -/
theorem GlOk.toA {ok : Oks} {gh : GH} {w : World} (gl : GlOk ok gh w) {id z : Nat} {l : List V} (hg : gh.get id = some (.row z l)) :
    ∃ ok' : Oks, Same ok ok' w w ∧ EnvEq ok ok' ∧ GlOk ok' (gh.set id (.arow z l)) w ∧ ∀ b o, ok' b o → ok b o ∨ (occG ok gh b ∧ b < w.heap.size) := by
  rcases (gl.obj _ _ hg).2 with ⟨h0, h1⟩ | ⟨b, cs, e, h1, h2, h3, h4, h5, h6, h7⟩
  · refine ⟨ok, .refl _ _, .refl _, { next := gl.next, obj := fun j p q => ?_, apart := fun i j p q bb k1 k2 hne f1 f2 hb1 hb2 => ?_ }, fun _ _ h => .inl h⟩
    · simp only [GH.set_get] at q
      split at q
      · rename_i ej; subst ej; cases q; exact ⟨(gl.obj _ _ hg).1, .inl ⟨h0, h1⟩⟩
      · exact gl.obj j p q
    · simp only [GH.set_get] at k1 k2
      split at k1
      · rename_i ej; subst ej; rw [h1] at hb1; cases hb1
      · split at k2
        · rename_i ej; subst ej; rw [h1] at hb2; cases hb2
        · exact gl.apart i j p q bb k1 k2 hne f1 f2 hb1 hb2
  · have hs : Same ok (okAdd ok b (l.length * z)) w w := ⟨fun _ _ h => .inl h, fun _ _ _ => rfl, ⟨Nat.le_refl _, fun _ _ => rfl, fun _ _ => rfl⟩⟩
    have hocc : occG ok gh b := ⟨id, _, hg, fun h => h, h1⟩
    refine ⟨okAdd ok b (l.length * z), hs, ⟨rfl, rfl, rfl⟩, { next := gl.next, obj := fun j p q => ?_, apart := fun i j p q bb k1 k2 hne f1 f2 hb1 hb2 => ?_ }, fun k o h => ?_⟩
    · simp only [GH.set_get] at q
      split at q
      · rename_i ej; subst ej; cases q
        exact ⟨(gl.obj _ _ hg).1, .inr ⟨b, cs, e, h1, h2, h3, h4, h5, h6.mono hs (fun _ _ => rfl), fun o ho => .inr ⟨rfl, ho⟩, fun o k1 k2 k3 => by
          rcases k3 with k3 | ⟨_, k3⟩
          · exact h7 o k3
          · omega⟩⟩
      · rename_i ej
        refine ⟨(gl.obj j p q).1, (gl.obj j p q).2.stay hs (gl.obj j p q).1 (Nat.le_refl _) fun f2 bb hbb => ⟨rfl, fun o h => ?_⟩⟩
        rcases h with h | ⟨rfl, _⟩
        · exact h
        · exact absurd h1 (gl.apart j id p _ _ q hg ej f2 (fun h => h) hbb)
    · simp only [GH.set_get] at k1 k2
      split at k1 <;> split at k2
      · rename_i e1 e2; exact absurd (e1.trans e2.symm) hne
      · rename_i e1 e2; subst e1; exact gl.apart _ j _ q bb hg k2 hne (fun h => h) f2 hb1 hb2
      · rename_i e1 e2; subst e2; exact gl.apart i _ p _ bb k1 hg hne f1 (fun h => h) hb1 hb2
      · exact gl.apart i j p q bb k1 k2 hne f1 f2 hb1 hb2
    · rcases h with h | ⟨rfl, _⟩
      · exact .inl h
      · exact .inr ⟨hocc, heap_lt h2⟩
theorem occG_setA {ok : Oks} {gh : GH} {id z b : Nat} {l : List V} (hg : gh.get id = some (.row z l)) (h : occG ok (gh.set id (.arow z l)) b) : occG ok gh b := occG_set hg (fun h => h) h
theorem new_toA (gh : GH) (z : Nat) (l : List V) : (gh.new (.row z l)).set gh.next (.arow z l) = gh.new (.arow z l) := by
  simp only [GH.set, GH.new]; congr 1; funext j; split <;> rfl
theorem pack_toA {ok : Oks} {gh : GH} {w : World} {z : Nat} {l : List V} {n : Int} {Y : Value → World → Prop} (h : ∃ v w' ok' r gh', Y v w' ∧ One (.gs gh.next n) (gh.new (.row z l)) r gh' ∧ Frame (occG ok gh) w w' ∧ Same ok ok' w w' ∧ (∀ b o, ok' b o → b < w'.heap.size ∧ (ok b o ∨ occG ok gh b ∨ w.heap.size ≤ b)) ∧ GlOk ok' gh' w' ∧ (∀ b, occG ok' gh' b → occG ok gh b ∨ w.heap.size ≤ b) ∧ Rep ok' w' r v) :
    ∃ v w' ok' r gh', Y v w' ∧ One (.gs gh.next n) (gh.new (.arow z l)) r gh' ∧ Frame (occG ok gh) w w' ∧ Same ok ok' w w' ∧ (∀ b o, ok' b o → b < w'.heap.size ∧ (ok b o ∨ occG ok gh b ∨ w.heap.size ≤ b)) ∧ GlOk ok' gh' w' ∧ (∀ b, occG ok' gh' b → occG ok gh b ∨ w.heap.size ≤ b) ∧ Rep ok' w' r v := by
  obtain ⟨v, w', ok', r, gh', q1, ⟨rfl, rfl⟩, q3, q4, q5, q6, q7, q8⟩ := h
  obtain ⟨ok2, k1, k2, k3, k4⟩ := q6.toA (id := gh.next) (z := z) (l := l) (by simp)
  rw [new_toA] at k3
  refine ⟨v, w', ok2, _, _, q1, ⟨rfl, rfl⟩, q3, q4.trans k1, fun b o h => ?_, k3, fun b h => ?_, q8.mono k1⟩
  · rcases k4 b o h with h | ⟨h, h'⟩
    · exact q5 b o h
    · exact ⟨h', .inr (q7 b h)⟩
  · rw [occG_env k2] at h
    rw [← new_toA] at h
    exact q7 b (occG_setA (by simp) h)
/-- What a step leaves as a row is only added to. -/
theorem GOp.toA {P : Program} {o : Oper} {xs : List V} {gh g : GH} {id z : Nat} {l : List V} {r : V} (h : GOp P o xs gh (One r g)) (hg : g.get id = some (.row z l)) : GOp P o xs gh (One r (g.set id (.arow z l))) := by
  intro G E ok S a w pub c hh hx Q
  refine Oper.wp_mono (fun a' w' ⟨v, ok', r', gh', h1, ⟨hr, hq⟩, c', h3⟩ => ?_) (h G E ok S a w pub c hh hx Q)
  subst hr hq
  have hk' : look (S.setOb hk (.heap gh' pub)).ob hk = some (.heap gh' pub) := by simp [St.setOb, look]
  obtain ⟨ok2, k1, k2, k3, k4⟩ := (c'.obj _ _ hk').2.toA hg
  have c2 := c'.swap (pub' := pub) hk' ⟨rfl, rfl, rfl, Nat.le_refl _, fun _ _ _ => rfl⟩ k1 (fun b o q => by
    rcases k4 b o q with q | ⟨q, q'⟩
    · exact ⟨c'.okb _ _ q, .inl q⟩
    · exact ⟨q', .inr (.inl q)⟩) k3 (fun b q => .inl (by rw [occG_env k2] at q; exact occG_setA hg q))
  rw [setOb_twice] at c2
  exact ⟨v, ok2, r', _, h1, ⟨rfl, rfl⟩, c2, h3.mono k1⟩

section
variable {P : Program} (hT : tableOf P = T)
include hT

/-- Append to a row that is only added to. -/
theorem gop_appendA {o : Oper} {c : Call} (ho : o.op = .call c) (hcb : c.callee = .builtin .append) {t t2 e : Nat} (hat : c.argTypes = #[t, t2]) {s x : Operand} (has : c.args = #[s, x]) {gh : GH} {id : Nat} {v : V} {n : Int} {l l2 : List V} (hkt : (tyOf t).k = .slice e) (hkn : known (tyOf e).k = true) (hz0 : 0 < (tyOf e).size) (hg : gh.get id = some (.arow (tyOf e).size l)) (hn : n = l.length)
    (hst : isSrcV (tyOf t2).k v = true) (hsrc : SrcIs gh (tyOf e).size v l2) (hroom : (l.length + l2.length) * (tyOf e).bytes ≤ 140737488355328) (hb0 : 0 < (tyOf e).bytes) : GOp P o [.gs id n, v] gh (One (.gs gh.next (l ++ l2).length) ((gh.del id).new (.arow (tyOf e).size (l ++ l2)))) := by
  refine GOp.of_run fun ok w a gl hokb hx => ?_
  rw [ho] at hx
  have hs := hx.get 0 rfl (y := s) (by simp [Op.operands, Call.operands, hcb, has])
  have hv := hx.get 1 rfl (y := x) (by simp [Op.operands, Call.operands, hcb, has])
  obtain ⟨hid, hsv⟩ := rep_gs hs
  obtain ⟨news, hsrc', hnews⟩ := srcIs_sound hT hst hz0 hsrc gl hv
  obtain ⟨i, zv, hi, hz, hsz, hby, _, _, _, hzs⟩ := ty_info hT (t := e) (known_ne' hkn)
  have hnm : l.length + l2.length ≤ 140737488355328 := Nat.le_trans (Nat.le_mul_of_pos_right _ hb0) hroom
  have gl1 := gl.del id
  have sub : ∀ {ok2 : Oks} {k : Nat}, occG ok2 (gh.del id) k → occG ok2 gh k := occG_del
  have wrap : ∀ {Q : V → GH → Prop}, (∃ v w' ok' r gh', ((execOp a.eval o).run P w = .ok (.value v) w' ∨ ((execOp a.eval o).run P w = .ok .skip w' ∧ v = undef)) ∧ Q r gh' ∧ Frame (occG ok (gh.del id)) w w' ∧
      Same ok ok' w w' ∧ (∀ b o, ok' b o → b < w'.heap.size ∧ (ok b o ∨ occG ok (gh.del id) b ∨ w.heap.size ≤ b)) ∧ GlOk ok' gh' w' ∧ (∀ b, occG ok' gh' b → occG ok (gh.del id) b ∨ w.heap.size ≤ b) ∧ Rep ok' w' r v) →
      (∃ v w' ok' r gh', ((execOp a.eval o).run P w = .ok (.value v) w' ∨ ((execOp a.eval o).run P w = .ok .skip w' ∧ v = undef)) ∧ Q r gh' ∧ Frame (occG ok gh) w w' ∧
      Same ok ok' w w' ∧ (∀ b o, ok' b o → b < w'.heap.size ∧ (ok b o ∨ occG ok gh b ∨ w.heap.size ≤ b)) ∧ GlOk ok' gh' w' ∧ (∀ b, occG ok' gh' b → occG ok gh b ∨ w.heap.size ≤ b) ∧ Rep ok' w' r v) := by
    rintro Q ⟨v, w', ok', r, gh', q1, q2, q3, q5, q6, q7, q8, q9⟩
    exact ⟨v, w', ok', r, gh', q1, q2, ⟨q3.os, q3.tape, q3.output, q3.size, fun b hb hM => q3.old b hb fun h => hM (sub h)⟩, q5, fun b o h => ⟨(q6 b o h).1, (q6 b o h).2.imp (fun h => h) (Or.imp_left sub)⟩, q7, fun b h => (q8 b h).imp_left sub, q9⟩
  rcases (gl.obj _ _ hg).2 with ⟨rfl, h1⟩ | ⟨b, cs, e0, h1, h2, h3, h4, h5, h6, h7, h8⟩
  · have hsv : a.eval s = .slice none 0 0 := by
      rcases hsv with ⟨_, _, h⟩ | ⟨b, hb, _⟩
      · exact h
      · rw [h1] at hb; cases hb
    simp only [List.nil_append]
    refine wrap ?_
    by_cases h0 : l2 = []
    · subst h0
      have hn0 : news = [] := List.eq_nil_of_length_eq_zero (by simpa using hnews.1)
      subst hn0
      have hrun := run_append_nothing (P := P) w t t2 o.type e i (ty_slice hT hkt) hi none 0 0 (Nat.le_refl _) (a.eval x) (by rw [hsz]; exact hsrc')
      refine ⟨.slice none 0 0, w, ok.bind none 0, _, _, .inl (exec_append hT ho hcb hat has hsv hrun), ⟨rfl, rfl⟩, ⟨rfl, rfl, rfl, Nat.le_refl _, fun _ _ _ => rfl⟩, ⟨fun _ _ h => h, fun _ _ _ => rfl, Oks.bind_ext _ _ _⟩, fun k o h => ⟨hokb _ _ h, .inl h⟩,
        gl1.new hokb (fun _ _ => rfl) (Nat.le_refl _) (fun bb h => by cases h) (.inl ⟨rfl, Oks.bind_blk _ _ _⟩), fun k h => occG_new gl1 (fun bb h => by cases h) h, ?_⟩
      exact .gs0 _ (by rw [gl.next]; exact Nat.lt_succ_self _) (by rw [gl.next]; exact Oks.bind_blk _ _ _)
    · have hpos : 0 < l2.length := List.length_pos_iff.2 h0
      have hrun := run_append_grow_src (P := P) w t t2 o.type e i zv (ty_slice hT hkt) hi hz none 0 0 [] (run_firstCells_none _ _ _ _ _) (a.eval x) l2.length news (by rw [hsz]; exact hsrc') (by omega) (by omega) (growslice_fits (by omega) (by rw [hby]; simpa using hroom))
      have c1 := grownCap_ge w (0 + l2.length) 0 e
      have c2 := grownCap_le_maxLen w (0 + l2.length) 0 e (by simp [maxLen]; omega)
      generalize grownCap w (0 + l2.length) 0 e = q at hrun c1 c2
      simp only [Nat.zero_add, List.nil_append] at hrun c1
      exact pack_toA (gl_grown hT gl1 hokb hnews hzs hsz hrun c1 c2 fun hr => .inl (exec_append hT ho hcb hat has hsv hr))
  · have hsv : a.eval s = .slice (some ⟨b, 0, none⟩) l.length (ok.cap id) := by
      rcases hsv with ⟨_, h, _⟩ | ⟨b', hb, _, _, _, h⟩
      · rw [h1] at h; cases h
      · rw [h1] at hb; cases hb; rw [h, hn, Int.toNat_natCast]
    by_cases hfit : l.length + l2.length ≤ ok.cap id
    · have hmul : (l.length + l2.length) * (tyOf e).size ≤ ok.cap id * (tyOf e).size := Nat.mul_le_mul_right _ hfit
      have hadd : (l.length + l2.length) * (tyOf e).size = l.length * (tyOf e).size + l2.length * (tyOf e).size := Nat.add_mul _ _ _
      have hnl := hnews.1
      have hrun := run_append_room_src (P := P) w t t2 o.type e i (ty_slice hT hkt) hi b 0 l.length (ok.cap id) (a.eval x) l2.length news (by rw [hsz]; exact hsrc') hfit (fun j hj => by
          rw [cell_of_heap h2, hsz]
          simp; omega) (fun j hj => by simp [World.frozen?, h2])
      rw [hsz] at hrun
      obtain ⟨cs', g1, g2, g3, g4, g5, g6, g7, g8⟩ := setCells_row news (0 + l.length * (tyOf e).size) w cs h2 (by omega)
      have hbn : id < ok.next := hid
      obtain ⟨ok2, hok2⟩ : ∃ ok2 : Oks, ok2 = okAdd (ok.bind (some b) (ok.cap id)) b ((l.length + l2.length) * (tyOf e).size) := ⟨_, rfl⟩
      have e1 : ok2.blk ok.next = some b := by subst hok2; exact Oks.bind_blk ok (some b) (ok.cap id)
      have e2 : ok2.cap ok.next = ok.cap id := by subst hok2; exact Oks.bind_cap ok (some b) (ok.cap id)
      have e3 : ∀ k, k < ok.next → ok2.blk k = ok.blk k := by subst hok2; exact (Oks.bind_ext ok (some b) (ok.cap id)).blk
      have e4 : ∀ k o, ok2 k o ↔ ok k o ∨ (k = b ∧ o < (l.length + l2.length) * (tyOf e).size) := by subst hok2; exact fun _ _ => Iff.rfl
      have e5 : ok2.next = ok.next + 1 := by subst hok2; rfl
      have e6 : Ext ok ok2 := by subst hok2; exact ⟨(Oks.bind_ext ok (some b) (ok.cap id)).next, (Oks.bind_ext ok (some b) (ok.cap id)).blk, (Oks.bind_ext ok (some b) (ok.cap id)).cap⟩
      clear hok2
      have hs : Same ok ok2 w (w.setCells b (0 + l.length * (tyOf e).size) news) := ⟨fun _ _ h => (e4 _ _).2 (.inl h), fun k o h => by
        by_cases hk : k = b
        · subst hk
          rw [cell_of_heap g1, cell_of_heap h2, g3, if_neg]
          intro q
          exact h8 o (by omega) (by omega) h
        · simp only [World.cell?, g4 k hk], e6⟩
      have hcell : ∀ o', o' < l.length * (tyOf e).size → (w.setCells b (0 + l.length * (tyOf e).size) news).cell? ⟨b, o', none⟩ = w.cell? ⟨b, o', none⟩ := fun o' ho' => by
        rw [cell_of_heap g1, cell_of_heap h2, g3, if_neg (by omega)]
      have hrow : RowAt ok2 (w.setCells b (0 + l.length * (tyOf e).size) news) b 0 (tyOf e).size (l ++ l2) := by
        have old := h6.mono hs (fun i hi => by rw [Nat.zero_add i]; exact hcell i hi)
        obtain ⟨olds, o1, o2, _⟩ := old.news
        refine row_of_news (o1.append (hnews.mono hs)) (fun j u hu => ?_)
        by_cases hj : j < olds.length
        · rw [List.getElem?_append_left hj] at hu
          have := o2 j u hu
          rwa [Nat.zero_add j] at this
        · rw [List.getElem?_append_right (by omega)] at hu
          have h8 := (List.getElem?_eq_some_iff.1 hu).1
          have h9 := o1.1
          rw [cell_of_heap g1, g3, if_pos (by omega)]
          rw [← hu]; congr 1; omega
      have gl2 : GlOk ok2 ((gh.del id).new (.arow (tyOf e).size (l ++ l2))) (w.setCells b (0 + l.length * (tyOf e).size) news) := {
        next := (congrArg (· + 1) gl.next).trans e5.symm
        obj := fun j p q => by
          simp only [GH.new_get, GH.del_get, GH.del_next, gl.next] at q
          split at q
          · rename_i ej; subst ej; cases q
            exact ⟨by omega, .inr ⟨b, cs', e0, e1, g1, by rw [e2]; omega, by rw [e2]; simpa using hfit, by rw [e2]; exact h5, hrow, fun o ho => (e4 _ _).2 (.inr ⟨rfl, by rw [List.length_append] at ho; exact ho⟩), fun o k1 k2 k3 => by
              rw [List.length_append] at k1
              rw [e2] at k2
              rcases (e4 _ _).1 k3 with k3 | ⟨_, k3⟩
              · exact h8 o (by omega) k2 k3
              · omega⟩⟩
          · split at q
            · cases q
            · rename_i n1 n2
              refine ⟨by have := (gl.obj j p q).1; omega, (gl.obj j p q).2.stay hs (gl.obj j p q).1 (by omega) fun f2 bb hbb => ?_⟩
              have hne : bb ≠ b := fun e3 => by subst e3; exact gl.apart j id p _ bb q hg n2 f2 (fun h => h) hbb h1
              refine ⟨g4 bb hne, fun o h => ?_⟩
              rcases (e4 _ _).1 h with h | ⟨h, _⟩
              · exact h
              · exact absurd h hne
        apart := fun i j p q bb k1 k2 hne f1 f2 hb1 hb2 => by
          have old : ∀ k r, gh.get k = some r → ok2.blk k = some bb → ok.blk k = some bb := fun k r hk hkb => by
            rwa [e3 k (gl.obj k r hk).1] at hkb
          simp only [GH.new_get, GH.del_get, GH.del_next, gl.next] at k1 k2
          split at k1 <;> split at k2
          · rename_i n1 n2; exact hne (n1.trans n2.symm)
          · rename_i n1 n2
            subst n1
            rw [e1] at hb1; cases hb1
            split at k2
            · cases k2
            · rename_i e3; exact gl.apart j id q _ b k2 hg e3 f2 (fun h => h) (old j q k2 hb2) h1
          · rename_i n1 n2
            subst n2
            rw [e1] at hb2; cases hb2
            split at k1
            · cases k1
            · rename_i e3; exact gl.apart i id p _ b k1 hg e3 f1 (fun h => h) (old i p k1 hb1) h1
          · split at k1
            · cases k1
            · split at k2
              · cases k2
              · exact gl.apart i j p q bb k1 k2 hne f1 f2 (old i p k1 hb1) (old j q k2 hb2) }
      refine ⟨_, _, ok2, _, _, .inl (exec_append hT ho hcb hat has hsv hrun), ⟨rfl, rfl⟩, frame_set hg (fun h => h) h1 g4 g5 g6 g7 g8, hs, fun k o h => ⟨by rw [g8]; rcases (e4 _ _).1 h with h | ⟨rfl, _⟩; exact hokb _ _ h; exact heap_lt h2, ((e4 _ _).1 h).imp (fun h => h) fun ⟨h, _⟩ => .inl ⟨id, _, hg, fun h => h, h ▸ h1⟩⟩, gl2, fun k h => ?_, ?_⟩
      · obtain ⟨j, p, k1, k2, k3⟩ := h
        simp only [GH.new_get, GH.del_get, GH.del_next, gl.next] at k1
        split at k1
        · rename_i ej; subst ej; rw [e1] at k3; cases k3; exact .inl ⟨id, _, hg, fun h => h, h1⟩
        · split at k1
          · cases k1
          · rw [e3 j (gl.obj j p k1).1] at k3
            exact .inl ⟨j, p, k1, k2, k3⟩
      · have hc : ok2.cap gh.next = ok.cap id := by rw [gl.next]; exact e2
        have := Rep.gs (ok := ok2) (w := w.setCells b (0 + l.length * (tyOf e).size) news) gh.next ((l ++ l2).length : Int) b (by rw [gl.next]; omega) (by rw [gl.next]; exact e1) (by omega) (by rw [hc]; simp; omega) (by rw [hc]; exact h5)
        rw [hc, Int.toNat_natCast, List.length_append] at this
        rw [List.length_append]
        exact this
    · obtain ⟨olds, o1, o2, o3⟩ := h6.news
      have hrun := run_append_grow_src (P := P) w t t2 o.type e i zv (ty_slice hT hkt) hi hz (some ⟨b, 0, none⟩) l.length (ok.cap id) olds (by rw [hsz]; exact run_firstCells_some _ _ _ _ _ _ _ o1.1 (fun j u hu => by rw [add_plain]; exact o2 j u hu)) (a.eval x) l2.length news (by rw [hsz]; exact hsrc') (by omega) (by omega) (growslice_fits (by omega) (by rw [hby]; exact hroom))
      have c1 := grownCap_ge w (l.length + l2.length) (ok.cap id) e
      have c2 := grownCap_le_maxLen w (l.length + l2.length) (ok.cap id) e (by simp [maxLen]; omega)
      generalize grownCap w (l.length + l2.length) (ok.cap id) e = q at hrun c1 c2
      rw [← List.length_append] at hrun c1
      exact wrap (pack_toA (gl_grown hT gl1 hokb (o1.append hnews) hzs hsz hrun c1 c2 fun hr => .inl (exec_append hT ho hcb hat has hsv hr)))
end
end Go.Proofs.Ythioccbgjkbmdaa.AM

/-
  The common heap: slices of rows that are only added to; maps with names as keys.
-/
set_option linter.unusedVariables false
set_option linter.unusedSimpArgs false
set_option linter.unusedSectionVars false
namespace Go.Proofs.Ythioccbgjkbmdaa.AM
open Go Go.RowKit

/-- What stands for pure data of a row: a slice of a row that is only added to, one without room behind it, a nil one. -/
def SlIs (gh : GH) (z : Nat) (l : List V) (x : V) : Prop := (x = .nils ∧ l = []) ∨ x = .xs l ∨ x = .slice l ∨ ∃ id, x = .gs id (l.length : Int) ∧ gh.get id = some (.arow z l)
theorem gs_slice {ok : Oks} {gh : GH} {w : World} (gl : GlOk ok gh w) {id z : Nat} {l : List V} {n : Int} {u : Value} (hg : gh.get id = some (.arow z l)) (hn : n ≤ l.length) (hr : Rep ok w (.gs id n) u) : Rep ok w (.slice (l.take n.toNat)) u := by
  obtain ⟨_, h⟩ := rep_gs hr
  rcases h with ⟨rfl, q, rfl⟩ | ⟨b, q, h0, hc, hm, rfl⟩
  · simp only [Int.toNat_zero, List.take_zero]; exact rep_nil_slice _ _
  rcases (gl.obj _ _ hg).2 with ⟨_, h1⟩ | ⟨b', cs, e, h1, h2, h3, h4, h5, h6, h7, _⟩
  · rw [q] at h1; cases h1
  rw [q] at h1; cases h1
  have hlen : (l.take n.toNat).length = n.toNat := by rw [List.length_take]; omega
  have := rep_row (h6.take n.toNat) (cap := ok.cap id) (fun j hj => by
    rw [Nat.zero_add]
    rw [hlen] at hj
    exact h7 _ (Nat.lt_of_lt_of_le hj (Nat.mul_le_mul_right _ (by omega)))) (by omega) hm
  rw [hlen] at this
  exact this
theorem rep_sl {ok : Oks} {w : World} {l : List V} {u : Value} (r : Rep ok w (.slice l) u) : ∃ (a : Option Addr) (c z : Nat) (us : Nat → Nat → Value), u = .slice a l.length c ∧ l.length ≤ c ∧ c ≤ maxLen ∧
    (0 < l.length → ∃ b off, a = some ⟨b, off, none⟩ ∧ ∀ i j, i < l.length → j < z → ok b (off + (i * z + j)) ∧ w.cell? ⟨b, off + (i * z + j), none⟩ = some (us i j)) ∧
    (∀ i (h : i < l.length), (l[i]'h).flat.length = z) ∧ (∀ i (h : i < l.length) j (hj : j < (l[i]'h).flat.length), ((l[i]'h).flat[j]'hj).cell = true) ∧ ∀ i (h : i < l.length) j (hj : j < (l[i]'h).flat.length), Rep ok w ((l[i]'h).flat[j]'hj) (us i j) := by
  cases r with
  | slice _ a c z us hc hm ha hz hcell hr => exact ⟨a, c, z, us, rfl, hc, hm, ha, hz, hcell, hr⟩
theorem SlIs.rep {gh : GH} {z : Nat} {l : List V} {x : V} (h : SlIs gh z l x) {ok : Oks} {w : World} (gl : GlOk ok gh w) {u : Value} (hr : Rep ok w x u) : Rep ok w (.slice l) u := by
  rcases h with ⟨rfl, rfl⟩ | rfl | rfl | ⟨id, rfl, hg⟩
  · cases hr; exact rep_nil_slice _ _
  · cases hr; rename_i q; exact q
  · exact hr
  · have := gs_slice gl hg (Int.le_refl _) hr
    simpa using this
section
variable {P : Program} (hT : tableOf P = T)
include hT

/-- A slice without room behind it. -/
theorem gq_slice3 {t e : TypeId} {x y1 y2 : Operand} {gh : GH} {y : V} {s : List V} {m : Int} {k k' : IntKind} (hy : SlIs gh (tyOf e).size s y) (hk : (tyOf t).k = .slice e) (hkn : known (tyOf e).k = true) (h1 : 0 ≤ m) (h2 : m ≤ s.length) (hz : ∀ x ∈ s, x.flat.length = (tyOf e).size) : GQ P (.slice t x none (some y1) (some y2)) [y, .int k m, .int k' m] gh (.xs (s.take m.toNat)) := by
  intro ok w a o ho gl hokb hxs
  have hr := hy.rep gl (hxs.get 0 rfl (by simp [Op.operands]; rfl))
  have e1 := rep_int (hxs.get 1 rfl (y := y1) (by simp [Op.operands]))
  have e2 := rep_int (hxs.get 2 rfl (y := y2) (by simp [Op.operands]))
  obtain ⟨ad, c, z, us, he, hc, hmx, ha, hzz, hcell, hrr⟩ := rep_sl hr
  have hlen : (s.take m.toNat).length = m.toNat := by rw [List.length_take]; omega
  have hm0 : (fun x : Addr => x.add 0) = id := by funext q; simp [Addr.add]
  refine ⟨.slice ad m.toNat m.toNat, ?_, .xs _ _ ad (by rw [hlen]) ?_⟩
  · have b1 : ∀ cd, (Instr.sliceBound (.int k' m) c cd).run P w = .ok m.toNat w := fun cd => run_bound P w k' m c cd h1 (by omega)
    have b2 : ∀ cd, (Instr.sliceBound (.int k m) m.toNat cd).run P w = .ok m.toNat w := fun cd => run_bound P w k m m.toNat cd h1 (by omega)
    have hb : (Instr.sliceBounds true s.length c none (some (.int k m)) (some (.int k' m))).run P w = .ok (0, m.toNat, m.toNat) w := by
      simp [Instr.sliceBounds, b1, b2]
    simp only [execOp, ho, Sem.run_bind, he, Option.map_none, Option.map_some, e1, e2]
    simp [Instr.sliceAt, Instr.slice, run_underlying (ty_slice hT hk), hb, ty_size hT (known_ne' hkn), hm0]
  · suffices h : Rep ok w (.slice (s.take m.toNat)) (.slice ad (s.take m.toNat).length (s.take m.toNat).length) by rw [hlen] at h; exact h
    refine .slice _ ad _ z us (Nat.le_refl _) (by rw [hlen]; omega) (fun hp => ?_) (fun i hi => ?_) (fun i hi j hj => ?_) (fun i hi j hj => ?_)
    · obtain ⟨b, off, q1, q2⟩ := ha (by rw [hlen] at hp; omega)
      exact ⟨b, off, q1, fun i j hi hj => q2 i j (by rw [hlen] at hi; omega) hj⟩
    · simp only [List.getElem_take]; exact hzz i (by rw [hlen] at hi; omega)
    · simp only [List.getElem_take]; exact hcell i (by rw [hlen] at hi; omega) j (by simpa using hj)
    · simp only [List.getElem_take]; exact hrr i (by rw [hlen] at hi; omega) j (by simpa using hj)
theorem gq_lenS {c : Call} {t e : TypeId} {x : Operand} {gh : GH} {y : V} {s : List V} (hy : SlIs gh (tyOf e).size s y) (hc : c.callee = .builtin .len) (ha : c.args = #[x]) (hat : c.argTypes = #[t]) (ht : (tyOf t).k = .slice e) : GQ P (.call c) [y] gh (.int .i64 s.length) := by
  intro ok w a o ho gl hokb hx
  have hr := hy.rep gl (hx.get 0 rfl (by simp [Op.operands, Call.operands, hc, ha]; rfl))
  obtain ⟨ad, cap, z, us, he, _⟩ := rep_sl hr
  refine ⟨.int .i64 s.length, ?_, .int _ _⟩
  simp only [execOp, ho, resolve, hc, Sem.run_bind, Sem.run_pure, Result.andThen_ok, invoke, builtin, hat, ha]
  simp [he, Builtin.len_, run_underlying (ty_slice hT ht), goInt]

/-! ### Maps with names as keys -/
omit hT in
def isK (k : List UInt8) : V → Bool
  | .str s => s == k
  | _ => false
omit hT in
def mIdx (es : List (Nat × V × V)) (k : List UInt8) : Option Nat := es.findIdx? fun e => isK k e.2.1
omit hT in
def StrKeys (es : List (Nat × V × V)) : Prop := ∀ e ∈ es, ∃ s, e.2.1 = .str s
omit hT in
theorem beq_mk (a b : List UInt8) : ((⟨a.toArray⟩ : ByteArray) == ⟨b.toArray⟩) = (a == b) := by
  rw [Bool.eq_iff_iff, MapKept.bytes_beq, beq_iff_eq]
  exact ⟨fun h => by have := congrArg (fun x : ByteArray => x.data.toList) h; simpa using this, fun h => by rw [h]⟩
omit hT in
theorem rep_strV {ok : Oks} {w : World} {s : List UInt8} {u : Value} (h : Rep ok w (.str s) u) : u = .string ⟨s.toArray⟩ := by cases h; rfl
omit hT in
theorem findNow_rep {ok : Oks} {w : World} (k : List UInt8) : ∀ (es : List (Nat × V × V)) (l : List MapEntry) (i0 : Nat), l.length = es.length → StrKeys es → (∀ i (h : i < es.length) (h' : i < l.length), Rep ok w (es[i]'h).2.1 (l[i]'h').key) →
    (mIdx es k = none ∧ Instr.findNow .string (.string ⟨k.toArray⟩) l i0 = some none) ∨ ∃ j e, mIdx es k = some j ∧ l[j]? = some e ∧ Instr.findNow .string (.string ⟨k.toArray⟩) l i0 = some (some (i0 + j, e.val)) ∧ e.key = .string ⟨k.toArray⟩
  | [], [], i0, _, _, _ => .inl ⟨rfl, rfl⟩
  | x :: es, e :: l, i0, hl, hs, hr => by
    obtain ⟨s, hx⟩ := hs x (by simp)
    have hk : e.key = .string ⟨s.toArray⟩ := by
      have := hr 0 (by simp) (by simp)
      simp only [List.getElem_cons_zero, hx] at this
      exact rep_strV this
    have hidx : mIdx (x :: es) k = if (s == k) = true then some 0 else (mIdx es k).map (· + 1) := by
      simp only [mIdx, List.findIdx?_cons, hx, isK]
    have hnow : Instr.sameNow .string (.string ⟨k.toArray⟩) e.key = some (s == k) := by
      rw [hk]; simp only [Instr.sameNow, beq_mk]
      rw [show (k == s) = (s == k) from by rw [Bool.eq_iff_iff, beq_iff_eq, beq_iff_eq]; exact ⟨Eq.symm, Eq.symm⟩]
    cases hb : (s == k) with
    | true =>
      rw [hb] at hidx hnow
      refine .inr ⟨0, e, hidx, rfl, by simp [Instr.findNow, hnow], ?_⟩
      rw [hk, eq_of_beq hb]
    | false =>
      rw [hb] at hidx hnow
      rcases findNow_rep k es l (i0 + 1) (by simpa using hl) (fun y hy => hs y (List.mem_cons_of_mem _ hy)) (fun i hi hi' => hr (i + 1) (by simpa using hi) (by simpa using hi')) with ⟨h1, h2⟩ | ⟨j, e', h1, h2, h3, h4⟩
      · exact .inl ⟨by rw [hidx, h1]; rfl, by simp [Instr.findNow, hnow, h2]⟩
      · exact .inr ⟨j + 1, e', by rw [hidx, h1]; rfl, by simpa using h2, by simp [Instr.findNow, hnow, h3]; omega, h4⟩
  | [], _ :: _, _, hl, _, _ => by simp at hl
  | _ :: _, [], _, hl, _, _ => by simp at hl
omit hT in
theorem map_of {ok : Oks} {gh : GH} {w : World} (gl : GlOk ok gh w) {id b clock : Nat} {es : List (Nat × V × V)} (hg : gh.get id = some (.map es clock)) (hb : ok.blk id = some b) : ∃ ents, w.heap[b]? = some (.map ents clock) ∧ (∀ o, ¬ ok b o) ∧ ents.size = es.length ∧
      ∀ i (h : i < es.length) (h' : i < ents.size), (es[i]'h).1 = (ents[i]'h').born ∧ Rep ok w (es[i]'h).2.1 (ents[i]'h').key ∧ Rep ok w (es[i]'h).2.2 (ents[i]'h').val := by
  obtain ⟨b', ents, h1, h2⟩ := (gl.obj _ _ hg).2
  rw [hb] at h1; cases h1
  exact ⟨ents, h2⟩
omit hT in
theorem find_rep {ok : Oks} {w : World} {es : List (Nat × V × V)} {ents : Array MapEntry} {kt : TypeId} (k : List UInt8) (hkt : P.underlying kt = some .string) (hs : StrKeys es) (h3 : ents.size = es.length) (h4 : ∀ i (h : i < es.length) (h' : i < ents.size), (es[i]'h).1 = (ents[i]'h').born ∧ Rep ok w (es[i]'h).2.1 (ents[i]'h').key ∧ Rep ok w (es[i]'h).2.2 (ents[i]'h').val) (w' : World) :
    (mIdx es k = none ∧ (Instr.findKey kt (.string ⟨k.toArray⟩) ents.toList).run P w' = .ok none w') ∨ ∃ j e, mIdx es k = some j ∧ ents[j]? = some e ∧ e.key = .string ⟨k.toArray⟩ ∧ (Instr.findKey kt (.string ⟨k.toArray⟩) ents.toList).run P w' = .ok (some (j, e.val)) w' := by
  rcases findNow_rep k es ents.toList 0 (by simpa using h3) hs (fun i h h' => by simpa using (h4 i h (by simpa using h')).2.1) with ⟨h1, h2⟩ | ⟨j, e, h1, h2, h5, h6⟩
  · exact .inl ⟨h1, MapKept.run_findKey hkt h2⟩
  · rw [Nat.zero_add] at h5
    exact .inr ⟨j, e, h1, by simpa using h2, h6, MapKept.run_findKey hkt h5⟩
/-- A name is looked up. -/
theorem gq_lookup {t kt et : TypeId} {m x : Operand} {gh : GH} {id clock : Nat} {es : List (Nat × V × V)} {k : List UInt8} {z : V} (hm : P.underlying t = some (.map kt et)) (hkt : P.underlying kt = some .string) (hg : gh.get id = some (.map es clock)) (hs : StrKeys es) (hz : ∃ zv, (∀ w, (zeroValue et).run P w = .ok zv w) ∧ ∀ ok w, Rep ok w z zv) :
    GQ P (.lookup t m x true) [.gm id, .str k] gh (match mIdx es k with
      | some j => .tup [(es[j]?.map (·.2.2)).getD z, .bool true]
      | none => .tup [z, .bool false]) := by
  intro ok w a o ho gl hokb hx
  obtain ⟨b, hn, hb, he⟩ := rep_gm (hx.get 0 rfl (by simp [Op.operands]; rfl))
  have hkv := rep_strV (hx.get 1 rfl (y := x) (by simp [Op.operands]))
  obtain ⟨ents, h2, h5, h3, h4⟩ := map_of gl hg hb
  obtain ⟨zv, hz1, hz2⟩ := hz
  have hck := MapKept.run_checkKey (P := P) (w := w) (k := .string ⟨k.toArray⟩) hkt (by simp [MapKept.IsKey]) ents.isEmpty 9999
  rcases find_rep (P := P) k hkt hs h3 h4 w with ⟨q1, q2⟩ | ⟨j, e, q1, q2, q3, q4⟩
  · rw [q1]
    refine ⟨.tuple #[zv, .bool false], ?_, .tup _ [zv, .bool false] rfl fun i h h' => ?_⟩
    · simp only [execOp, ho, Sem.run_bind, he, hkv]
      simp [Instr.lookup, run_underlying hm, MapKept.run_getObj_map h2, hck, q2, hz1]
    · match i, h, h' with
      | 0, _, _ => exact hz2 _ _
      | 1, _, _ => exact .bool _
  · rw [q1]
    obtain ⟨hj, hje⟩ := Array.getElem?_eq_some_iff.1 q2
    have hj' : j < es.length := by omega
    refine ⟨.tuple #[e.val, .bool true], ?_, .tup _ [e.val, .bool true] rfl fun i h h' => ?_⟩
    · simp only [execOp, ho, Sem.run_bind, he, hkv]
      simp [Instr.lookup, run_underlying hm, MapKept.run_getObj_map h2, hck, q4]
    · match i, h, h' with
      | 0, _, _ =>
        have := (h4 j hj' hj).2.2
        rw [hje] at this
        simpa [List.getElem?_eq_getElem hj'] using this
      | 1, _, _ => exact .bool _
end
end Go.Proofs.Ythioccbgjkbmdaa.AM

/-
  The common heap: maps that are changed, and gone through.
-/
set_option linter.unusedVariables false
set_option linter.unusedSimpArgs false
set_option linter.unusedSectionVars false
namespace Go.Proofs.Ythioccbgjkbmdaa.AM
open Go Go.RowKit
open Go.ChangeMaps (setBlock)

def mSet (es : List (Nat × V × V)) (clock : Nat) (k : List UInt8) (v : V) : List (Nat × V × V) :=
  match mIdx es k with
  | some j => es.set j ((es[j]?.map (·.1)).getD 0, .str k, v)
  | none => es ++ [(clock, .str k, v)]
def mClk (es : List (Nat × V × V)) (clock : Nat) (k : List UInt8) : Nat :=
  match mIdx es k with
  | some _ => clock
  | none => clock + 1
def mDel (es : List (Nat × V × V)) (k : List UInt8) : List (Nat × V × V) :=
  match mIdx es k with
  | some j => es.eraseIdx j
  | none => es

theorem heap_setBlock {w : World} {r : Nat} {o o' : Obj} (hb : w.heap[r]? = some o) : (setBlock w r o').heap[r]? = some o' ∧ (∀ k, k ≠ r → (setBlock w r o').heap[k]? = w.heap[k]?) ∧ (setBlock w r o').heap.size = w.heap.size := by
  obtain ⟨h1, h2⟩ := MapKept.heap_set (o' := o') hb
  refine ⟨by simpa [setBlock] using h1, fun k hk => by simpa [setBlock] using h2 k hk, by simp [setBlock]⟩
theorem same_block {ok : Oks} {w : World} {b : Nat} {o o' : Obj} (hb : w.heap[b]? = some o) (hn : ∀ k, ¬ ok b k) : Same ok ok w (setBlock w b o') :=
  ⟨fun _ _ h => h, fun k x h => by
    have hk : k ≠ b := fun q => by subst q; exact hn _ h
    simp only [World.cell?, (heap_setBlock hb).2.1 k hk], .refl _⟩
/-- A block of the common heap is changed. -/
theorem GOp.block {P : Program} {o : Oper} {xs : List V} {gh : GH} {id : Nat} {o0 : GObj} (hg : gh.get id = some o0) (hf : ¬ o0.isF) (ha : ¬ o0.isA) {R : V → GH → Prop}
    (h : ∀ (ok : Oks) (w : World) (a : Act), GlOk ok gh w → (∀ b o, ok b o → b < w.heap.size) → OpsRep ok w a o.op xs → ∃ b x x' v r o1 w1, ok.blk id = some b ∧ w.heap[b]? = some x ∧ (w1 = w ∨ w1 = w.drew) ∧ ((execOp a.eval o).run P w = .ok (.value v) (setBlock w1 b x') ∨ ((execOp a.eval o).run P w = .ok .skip (setBlock w1 b x') ∧ v = undef)) ∧ R r (gh.set id o1) ∧ ¬ o1.isF ∧ GRep ok (setBlock w b x') id o1 ∧ Rep ok (setBlock w b x') r v) : GOp P o xs gh R := by
  refine GOp.of_run fun ok w a gl hokb hx => ?_
  obtain ⟨b, x, x', v, r, o1, w1, hb, hw, hw1, hrun, hR, hf1, hr1, hv⟩ := h ok w a gl hokb hx
  obtain ⟨k1, k2, k3⟩ := heap_setBlock (o' := x') hw
  have hs := same_block (o' := x') hw ((gl.obj _ _ hg).2.not_ok hf ha hb)
  have gl1 := gl.upd hg hf ha hb k2 k3 hf1 hr1
  have e : ∀ w1 : World, (w1 = w ∨ w1 = w.drew) → (setBlock w1 b x').heap = (setBlock w b x').heap := fun w1 h => by rcases h with rfl | rfl <;> rfl
  have hcell : ∀ p, (setBlock w1 b x').cell? p = (setBlock w b x').cell? p := fun p => by simp only [World.cell?, e w1 hw1]
  have hs2 : Same ok ok (setBlock w b x') (setBlock w1 b x') := ⟨fun _ _ h => h, fun k o h => hcell _, .refl _⟩
  have gl2 : GlOk ok (gh.set id o1) (setBlock w1 b x') := gl1.stay hs2 (by rw [e w1 hw1]; exact Nat.le_refl _) (.refl _) fun k _ => ⟨by rw [e w1 hw1], fun _ h => h⟩
  refine ⟨v, setBlock w1 b x', ok, r, gh.set id o1, hrun, hR, ⟨?_, ?_, ?_, ?_, ?_⟩, hs.trans hs2, fun k o h => ⟨by rw [e w1 hw1, k3]; exact hokb _ _ h, .inl h⟩, gl2, fun k h => .inl (occG_set hg hf h), hv.mono hs2⟩
  · rcases hw1 with rfl | rfl <;> rfl
  · rcases hw1 with rfl | rfl <;> rfl
  · rcases hw1 with rfl | rfl <;> rfl
  · rw [e w1 hw1, k3]; exact Nat.le_refl _
  · intro k hk hM
    rw [e w1 hw1]
    exact k2 k fun q => by subst q; exact hM ⟨id, o0, hg, hf, hb⟩
section
variable {P : Program} (hT : tableOf P = T)
include hT
/-- A new map. -/
theorem gop_makeMap {o : Oper} {t : TypeId} (ho : o.op = .makeMap t none) {gh : GH} : GOp P o [] gh (One (.gm gh.next) (gh.new (.map [] 0))) := by
  refine GOp.of_run fun ok w a gl hokb hx => ?_
  have hs : Same ok (ok.bind (some w.heap.size) 0) w (w.alloc (.map #[] 0)) := ⟨fun _ _ h => h, fun k o h => by simp only [World.cell?, heap_alloc_old w _ (hokb _ _ h)], Oks.bind_ext _ _ _⟩
  refine ⟨.map (some w.heap.size), w.alloc (.map #[] 0), ok.bind (some w.heap.size) 0, _, _, .inl ?_, ⟨rfl, rfl⟩, frame_alloc _ _ _, hs, fun k o h => ⟨by have := hokb _ _ (h : ok k o); simp; omega, .inl h⟩,
    gl.new hokb (fun k hk => heap_alloc_old w _ hk) (by simp) (fun bb h => by cases h; exact Nat.le_refl _) ⟨w.heap.size, #[], Oks.bind_blk _ _ _, heap_alloc_new w _, fun o h => by have := hokb _ _ (h : ok w.heap.size o); omega, rfl, fun i h => by simp at h⟩,
    fun k h => occG_new gl (fun bb h => by cases h; exact Nat.le_refl _) h, .gm _ _ (by rw [gl.next]; exact Nat.lt_succ_self _) (by rw [gl.next]; exact Oks.bind_blk _ _ _)⟩
  simp [execOp, ho, Instr.makeMap, newObj, Sem.run]
/-- A map gets a name's value. -/
theorem gop_mapUpdate {o : Oper} {t kt et : TypeId} {m x y : Operand} (ho : o.op = .mapUpdate t m x y) (hm : P.underlying t = some (.map kt et)) (hkt : P.underlying kt = some .string) {gh : GH} {id clock : Nat} {es : List (Nat × V × V)} {k : List UInt8} {v : V} (hg : gh.get id = some (.map es clock)) (hs : StrKeys es) :
    GOp P o [.gm id, .str k, v] gh (One (.tup []) (gh.set id (.map (mSet es clock k v) (mClk es clock k)))) := by
  refine GOp.block hg (fun h => h) (fun h => h) fun ok w a gl hokb hx => ?_
  rw [ho] at hx
  obtain ⟨b, hn, hb, he⟩ := rep_gm (hx.get 0 rfl (by simp [Op.operands]; rfl))
  have hkv := rep_strV (hx.get 1 rfl (y := x) (by simp [Op.operands]))
  have hv := hx.get 2 rfl (y := y) (by simp [Op.operands])
  obtain ⟨ents, h2, h5, h3, h4⟩ := map_of gl hg hb
  have hck := MapKept.run_checkKey (P := P) (w := w) (k := .string ⟨k.toArray⟩) hkt (by simp [MapKept.IsKey]) false 9999
  have hse : ∀ o' : Obj, (setObj b o').run P w = .ok () (setBlock w b o') := fun o' => by rw [MapKept.run_setObj_map o' h2]; rfl
  rcases find_rep (P := P) k hkt hs h3 h4 w with ⟨q1, q2⟩ | ⟨j, e, q1, q2, q3, q4⟩
  · have hsm := same_block (o' := .map (ents.push { key := .string ⟨k.toArray⟩, val := a.eval y, born := clock }) (clock + 1)) h2 h5
    refine ⟨b, _, .map (ents.push { key := .string ⟨k.toArray⟩, val := a.eval y, born := clock }) (clock + 1), undef, .tup [], .map (mSet es clock k v) (mClk es clock k), w, hb, h2, .inl rfl, .inr ⟨?_, rfl⟩, ⟨rfl, rfl⟩, fun h => h, ?_, Rep.tup (ok := ok) [] [] rfl (by simp)⟩
    · simp only [execOp, ho, Sem.run_bind, he, hkv]
      simp [Instr.mapUpdate, run_underlying hm, MapKept.run_getObj_map h2, hck, q2, hse]
    · simp only [mSet, mClk, q1]
      refine ⟨b, _, hb, (heap_setBlock h2).1, h5, by simp [h3], fun i hi hi' => ?_⟩
      by_cases hlt : i < es.length
      · have := h4 i hlt (by omega)
        simp only [List.getElem_append_left hlt, Array.getElem_push_lt (show i < ents.size by omega)]
        exact ⟨this.1, this.2.1.mono hsm, this.2.2.mono hsm⟩
      · have hie : i = es.length := by simp at hi; omega
        subst hie
        simp only [List.getElem_append_right (Nat.le_refl _), Nat.sub_self, List.getElem_cons_zero]
        have : (ents.push { key := .string ⟨k.toArray⟩, val := a.eval y, born := clock : MapEntry })[es.length]'hi' = { key := .string ⟨k.toArray⟩, val := a.eval y, born := clock } := by
          rw [Array.getElem_push]; rw [dif_neg (by omega)]
        rw [this]
        exact ⟨rfl, .str _, hv.mono hsm⟩
  · obtain ⟨hj, hje⟩ := Array.getElem?_eq_some_iff.1 q2
    have hj' : j < es.length := by omega
    have hst : (Instr.keyThatStays e.key (.string ⟨k.toArray⟩)).run P w = .ok (.string ⟨k.toArray⟩) w := by
      rw [q3]; exact MapKept.run_keyThatStays (d := .string) (by simp [MapKept.IsKey])
    obtain ⟨ents', hents⟩ : ∃ ents' : Array MapEntry, ents' = ents.modify j fun e => { e with key := .string ⟨k.toArray⟩, val := a.eval y } := ⟨_, rfl⟩
    have hsm := same_block (o' := .map ents' clock) h2 h5
    refine ⟨b, _, .map ents' clock, undef, .tup [], .map (mSet es clock k v) (mClk es clock k), w, hb, h2, .inl rfl, .inr ⟨?_, rfl⟩, ⟨rfl, rfl⟩, fun h => h, ?_, Rep.tup (ok := ok) [] [] rfl (by simp)⟩
    · simp only [execOp, ho, Sem.run_bind, he, hkv]
      simp [Instr.mapUpdate, run_underlying hm, MapKept.run_getObj_map h2, hck, q4, q2, hst, hse, ← hents]
    · simp only [mSet, mClk, q1]
      refine ⟨b, _, hb, (heap_setBlock h2).1, h5, by simp [hents, h3], fun i hi hi' => ?_⟩
      have hi2 : i < es.length := by simpa using hi
      have := h4 i hi2 (by omega)
      have hget : ents'[i]'hi' = if j = i then { ents[i]'(by omega) with key := .string ⟨k.toArray⟩, val := a.eval y } else ents[i]'(by omega) := by
        subst hents
        rw [Array.getElem_modify]
      rw [List.getElem_set, hget]
      by_cases hji : j = i
      · subst hji
        simp only [if_true]
        exact ⟨by simp [List.getElem?_eq_getElem hj', this.1], .str _, hv.mono hsm⟩
      · rw [if_neg hji, if_neg hji]
        exact ⟨this.1, this.2.1.mono hsm, this.2.2.mono hsm⟩
/-- A name is taken out of a map. -/
theorem gop_delete {o : Oper} {c : Call} {t kt et t2 : TypeId} {m x : Operand} (ho : o.op = .call c) (hc : c.callee = .builtin .delete) (ha : c.args = #[m, x]) (hat : c.argTypes = #[t, t2]) (hm : P.underlying t = some (.map kt et)) (hkt : P.underlying kt = some .string) {gh : GH} {id clock : Nat} {es : List (Nat × V × V)} {k : List UInt8} (hg : gh.get id = some (.map es clock)) (hs : StrKeys es) :
    GOp P o [.gm id, .str k] gh (One (.tup []) (gh.set id (.map (mDel es k) clock))) := by
  refine GOp.block hg (fun h => h) (fun h => h) fun ok w a gl hokb hx => ?_
  rw [ho] at hx
  obtain ⟨b, hn, hb, he⟩ := rep_gm (hx.get 0 rfl (y := m) (by simp [Op.operands, Call.operands, hc, ha]))
  have hkv := rep_strV (hx.get 1 rfl (y := x) (by simp [Op.operands, Call.operands, hc, ha]))
  obtain ⟨ents, h2, h5, h3, h4⟩ := map_of gl hg hb
  have hck := MapKept.run_checkKey (P := P) (w := w) (k := .string ⟨k.toArray⟩) hkt (by simp [MapKept.IsKey]) ents.isEmpty 9999
  have hse : ∀ o' : Obj, (setObj b o').run P w = .ok () (setBlock w b o') := fun o' => by rw [MapKept.run_setObj_map o' h2]; rfl
  rcases find_rep (P := P) k hkt hs h3 h4 w with ⟨q1, q2⟩ | ⟨j, e, q1, q2, q3, q4⟩
  · have hsm := same_block (o' := .map ents clock) h2 h5
    refine ⟨b, _, .map ents clock, .tuple #[], .tup [], .map (mDel es k) clock, w, hb, h2, .inl rfl, .inl ?_, ⟨rfl, rfl⟩, fun h => h, ?_, Rep.tup (ok := ok) [] [] rfl (by simp)⟩
    · simp only [execOp, ho, resolve, hc, Sem.run_bind, Sem.run_pure, Result.andThen_ok, invoke, builtin, hat, ha]
      simp [he, hkv, Builtin.delete_, run_underlying hm, MapKept.run_getObj_map h2, hck, q2, hse]
    · simp only [mDel, q1]
      exact ⟨b, _, hb, (heap_setBlock h2).1, h5, h3, fun i hi hi' => ⟨(h4 i hi hi').1, (h4 i hi hi').2.1.mono hsm, (h4 i hi hi').2.2.mono hsm⟩⟩
  · obtain ⟨hj, hje⟩ := Array.getElem?_eq_some_iff.1 q2
    have hj' : j < es.length := by omega
    obtain ⟨ents', hents⟩ : ∃ ents' : Array MapEntry, ents' = ents.eraseIdxIfInBounds j := ⟨_, rfl⟩
    have hel : ents'.toList = ents.toList.eraseIdx j := by
      subst hents
      simp [Array.eraseIdxIfInBounds, hj]
    have hsm := same_block (o' := .map ents' clock) h2 h5
    refine ⟨b, _, .map ents' clock, .tuple #[], .tup [], .map (mDel es k) clock, w, hb, h2, .inl rfl, .inl ?_, ⟨rfl, rfl⟩, fun h => h, ?_, Rep.tup (ok := ok) [] [] rfl (by simp)⟩
    · simp only [execOp, ho, resolve, hc, Sem.run_bind, Sem.run_pure, Result.andThen_ok, invoke, builtin, hat, ha]
      simp [he, hkv, Builtin.delete_, run_underlying hm, MapKept.run_getObj_map h2, hck, q4, hse, ← hents]
    · simp only [mDel, q1]
      have hsz : ents'.size = es.length - 1 := by
        rw [← Array.length_toList, hel, List.length_eraseIdx_of_lt (by simpa using hj)]; simp; omega
      refine ⟨b, _, hb, (heap_setBlock h2).1, h5, by rw [hsz, List.length_eraseIdx_of_lt hj'], fun i hi hi' => ?_⟩
      rw [List.length_eraseIdx_of_lt hj'] at hi
      have hget : ents'[i]'hi' = if i < j then ents[i]'(by omega) else ents[i + 1]'(by omega) := by
        have : ents'[i]'hi' = ents'.toList[i]'(by simpa using hi') := by simp
        rw [this]
        simp only [hel, List.getElem_eraseIdx]
        split <;> simp
      rw [List.getElem_eraseIdx, hget]
      by_cases hlt : i < j
      · simp only [dif_pos hlt, if_pos hlt]
        have := h4 i (by omega) (by omega)
        exact ⟨this.1, this.2.1.mono hsm, this.2.2.mono hsm⟩
      · simp only [dif_neg hlt, if_neg hlt]
        have := h4 (i + 1) (by omega) (by omega)
        exact ⟨this.1, this.2.1.mono hsm, this.2.2.mono hsm⟩
end
end Go.Proofs.Ythioccbgjkbmdaa.AM
