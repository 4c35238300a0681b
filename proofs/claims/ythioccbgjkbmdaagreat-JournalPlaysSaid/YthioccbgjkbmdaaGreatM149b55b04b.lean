/-
 The common heap: rows that grow; what a function uses for itself.
-/
import Derived.Test.YthioccbgjkbmdaaGreatM135e2507fb
set_option linter.unusedVariables false
set_option linter.unusedSimpArgs false
set_option linter.unusedSectionVars false
namespace Go.Proofs.YthioccbgjkbmdaaGreat.AM
open Go Go.RowKit
def SrcIs (gh : GH) (z : Nat) : V → List V → Prop
 | .slice l, l2 => l2 = l ∧ ∀ x ∈ l, x.flat.length = z
 | .str s, l2 => z = 1 ∧ l2 = bytesV s
 | .nils, l2 => l2 = []
 | .gs id n, l2 => ∃ l, gh.get id = some (.row z l) ∧ 0 ≤ n ∧ n ≤ l.length ∧ l2 = l.take n.toNat
 | _, _ => False
def isSrcV : TK → V → Bool
 | .slice _, .slice _ => true
 | .slice _, .nils => true
 | .slice _, .gs _ _ => true
 | .str, .str _ => true
 | _, _ => false
section
variable {P : Program} (hT : tableOf P = T)
include hT
theorem srcIs_sound {gh : GH} {z : Nat} {t2 : Nat} {v : V} {l2 : List V} (hkv : isSrcV (tyOf t2).k v = true) (hz0 : 0 < z) (h : SrcIs gh z v l2) {ok : Oks} {w : World} {u : Value} (gl : GlOk ok gh w) (hr : Rep ok w v u) : ∃ news, Src P z t2 u l2.length news w ∧ News ok w z l2 news := by
 have ho : ∀ id o, look [(hk, AObj.heap gh [])] id = some o → ObjRep ⟨fun _ => none, fun _ => none, fun _ => 0, fun _ => 0⟩ ok w id o := by
  intro id o q
  simp only [look] at q
  split at q
  ·rename_i e; cases q; exact ⟨e.symm, gl⟩
  ·cases q
 have key : ∀ {d : D}, RepD ⟨fun _ => none, fun _ => none, fun _ => 0, fun _ => 0⟩ ok w d u → isSrcT (tyOf t2).k d = true → srcW (std P fun _ _ => True) z [(hk, AObj.heap gh [])] d (fun l => l = l2) → ∃ news, Src P z t2 u l2.length news w ∧ News ok w z l2 news := fun hd h1 h2 => by
  obtain ⟨l, rfl, q⟩ := src_sound hT h1 hz0 h2
  exact q _ ok w u ho hd
 cases v with
 | slice l =>
  obtain ⟨rfl, hl⟩ := h
  exact key (.v _ _ hr) (by unfold isSrcV at hkv; unfold isSrcT; split at hkv <;> simp_all) ⟨hl, rfl⟩
 | str s =>
  obtain ⟨rfl, rfl⟩ := h
  exact key (.v _ _ hr) (by unfold isSrcV at hkv; unfold isSrcT; split at hkv <;> simp_all) rfl
 | nils =>
  have h : l2 = [] := h
  subst h
  cases hr
  exact key .nils (by unfold isSrcV at hkv; unfold isSrcT; split at hkv <;> simp_all) rfl
 | gs id n =>
  obtain ⟨l, h1, h2, h3, rfl⟩ := h
  exact key (.v _ _ hr) (by unfold isSrcV at hkv; unfold isSrcT; split at hkv <;> simp_all) ⟨l, ⟨h1, h2, h3⟩, rfl⟩
 | _ => exact h.elim
theorem exec_append {o : Oper} {c : Call} (ho : o.op = .call c) (hcb : c.callee = .builtin .append) {t t2 : Nat} (hat : c.argTypes = #[t, t2]) {s x : Operand} (has : c.args = #[s, x]) {a : Act} {sv : Value} (hs : a.eval s = sv) {w w' : World} {v : Value} (h : (Builtin.append_ #[t, t2] o.type #[sv, a.eval x]).run P w = .ok v w') : (execOp a.eval o).run P w = .ok (.value v) w' := by
 simp only [execOp, ho, resolve, hcb, Sem.run_bind, Sem.run_pure, Result.andThen_ok, invoke, builtin, has, hat]
 simp [hs, h]
theorem new_row {ok : Oks} {gh : GH} {w w' : World} (gl : GlOk ok gh w) (hokb : ∀ b o, ok b o → b < w.heap.size) {z cap : Nat} {l : List V} {cs : Array Value} {e : TypeId} (hw : ∀ k, k < w.heap.size → w'.heap[k]? = w.heap[k]?) (hsz : w.heap.size < w'.heap.size) (hh : w'.heap[w.heap.size]? = some (.cells cs e)) (hcs : cs.size = cap * z) (hl : l.length ≤ cap) (hm : cap ≤ maxLen)
  (hr : ∀ ok', Same ok ok' w w' → RowAt ok' w' w.heap.size 0 z l) : GlOk (ok.bind (some w.heap.size) cap) (gh.new (.row z l)) w' ∧ Rep (ok.bind (some w.heap.size) cap) w' (.gs gh.next l.length) (.slice (some ⟨w.heap.size, 0, none⟩) l.length cap) := by
 have hs : Same ok (ok.bind (some w.heap.size) cap) w w' := ⟨fun _ _ h => h, fun k o h => by simp only [World.cell?, hw k (hokb _ _ h)], Oks.bind_ext _ _ _⟩
 refine ⟨gl.new hokb hw (by omega) (fun bb h => by cases h; exact Nat.le_refl _) (.inr ⟨w.heap.size, cs, e, Oks.bind_blk _ _ _, hh, by rw [Oks.bind_cap]; omega, by rw [Oks.bind_cap]; exact hl, by rw [Oks.bind_cap]; exact hm, hr _ hs, fun o h => by have := hokb _ _ (h : ok w.heap.size o); omega⟩), ?_⟩
 have hc : (ok.bind (some w.heap.size) cap).cap gh.next = cap := by rw [gl.next]; exact Oks.bind_cap _ _ _
 have := Rep.gs (ok := ok.bind (some w.heap.size) cap) (w := w') gh.next (l.length : Int) w.heap.size (by rw [gl.next]; exact Nat.lt_succ_self _) (by rw [gl.next]; exact Oks.bind_blk _ _ _) (by omega) (by rw [hc]; omega) (by rw [hc]; exact hm)
 rw [hc, Int.toNat_natCast] at this
 exact this
theorem gl_grown {ok : Oks} {gh : GH} {w : World} (gl : GlOk ok gh w) (hokb : ∀ b o, ok b o → b < w.heap.size) {e q : Nat} {zv : Value} {i : TypeInfo} {l : List V} {news : List Value} (hnews : News ok w (tyOf e).size l news) (hzs : zv.cells.size = i.size) (hsz : i.size = (tyOf e).size) {X : Sem Value}
  (hrun : X.run P w = .ok (.slice (some ⟨w.heap.size, 0, none⟩) l.length q) (w.drew.alloc (.cells (news.toArray ++ Builtin.zeroCells zv.cells (q - l.length)) e))) (c1 : l.length ≤ q) (c2 : q ≤ maxLen) {Y : Value → World → Prop}
  (hex : ∀ {v : Value} {w' : World}, X.run P w = .ok v w' → Y v w') : ∃ v w' ok' r gh', Y v w' ∧ One (.gs gh.next l.length) (gh.new (.row (tyOf e).size l)) r gh' ∧ Frame (occG ok gh) w w' ∧
   Same ok ok' w w' ∧ (∀ b o, ok' b o → b < w'.heap.size ∧ (ok b o ∨ occG ok gh b ∨ w.heap.size ≤ b)) ∧ GlOk ok' gh' w' ∧ (∀ b, occG ok' gh' b → occG ok gh b ∨ w.heap.size ≤ b) ∧ Rep ok' w' r v := by
 have hcs : (news.toArray ++ Builtin.zeroCells zv.cells (q - l.length)).size = q * (tyOf e).size := by
  have hzc : (Builtin.zeroCells zv.cells (q - l.length)).size = (q - l.length) * (tyOf e).size := by simp [Builtin.zeroCells, hzs, hsz]
  rw [Array.size_append, hzc]
  simp only [List.size_toArray, hnews.1]
  rw [← Nat.add_mul]; congr 1; omega
 have hheap : (w.drew.alloc (.cells (news.toArray ++ Builtin.zeroCells zv.cells (q - l.length)) e)).heap[w.heap.size]? = some (.cells (news.toArray ++ Builtin.zeroCells zv.cells (q - l.length)) e) := heap_alloc_new w.drew _
 obtain ⟨n1, n2⟩ := new_row hT gl hokb (z := (tyOf e).size) (cap := q) (l := l) (fun k hk => heap_alloc_old w.drew _ hk) (by simp) hheap hcs c1 c2 (fun ok' hs => row_of_news (hnews.mono hs) (fun j u hu => by
  rw [cell_of_heap hheap]
  have hj : j < news.length := (List.getElem?_eq_some_iff.1 hu).1
  rw [Array.getElem?_append_left (by simpa using hj)]
  simpa using hu))
 exact ⟨_, _, ok.bind (some w.heap.size) q, _, _, hex hrun, ⟨rfl, rfl⟩, ⟨rfl, rfl, rfl, by simp, fun k hk _ => heap_alloc_old w.drew _ hk⟩, ⟨fun _ _ h => h, fun k o h => by
  have q : (w.drew.alloc (.cells (news.toArray ++ Builtin.zeroCells zv.cells (q - l.length)) e)).heap[k]? = w.heap[k]? := heap_alloc_old w.drew _ (hokb _ _ h)
  simp only [World.cell?, q], Oks.bind_ext _ _ _⟩, fun k o h => ⟨by have := hokb _ _ (h : ok k o); simp; omega, .inl h⟩, n1, fun k h => occG_new gl (fun bb h => by cases h; exact Nat.le_refl _) h, n2⟩
theorem gop_append0 {o : Oper} {c : Call} (ho : o.op = .call c) (hcb : c.callee = .builtin .append) {t t2 e : Nat} (hat : c.argTypes = #[t, t2]) {s x : Operand} (has : c.args = #[s, x]) {gh : GH} {v : V} {l2 : List V} (hkt : (tyOf t).k = .slice e) (hkn : known (tyOf e).k = true) (hz0 : 0 < (tyOf e).size)
  (hst : isSrcV (tyOf t2).k v = true) (hsrc : SrcIs gh (tyOf e).size v l2) (hroom : l2.length * (tyOf e).bytes ≤ 140737488355328) (hb0 : 0 < (tyOf e).bytes) : GOp P o [.nils, v] gh (One (.gs gh.next l2.length) (gh.new (.row (tyOf e).size l2))) := by
 refine GOp.of_run fun ok w a gl hokb hx => ?_
 rw [ho] at hx
 have hs := hx.get 0 rfl (y := s) (by simp [Op.operands, Call.operands, hcb, has])
 have hv := hx.get 1 rfl (y := x) (by simp [Op.operands, Call.operands, hcb, has])
 have hsv : a.eval s = .slice none 0 0 := rep_nils hs
 obtain ⟨news, hsrc', hnews⟩ := srcIs_sound hT hst hz0 hsrc gl hv
 obtain ⟨i, zv, hi, hz, hsz, hby, _, _, _, hzs⟩ := ty_info hT (t := e) (known_ne' hkn)
 by_cases h0 : l2 = []
 ·subst h0
  have hn0 : news = [] := List.eq_nil_of_length_eq_zero (by simpa using hnews.1)
  subst hn0
  have hrun := run_append_nothing (P := P) w t t2 o.type e i (ty_slice hT hkt) hi none 0 0 (Nat.le_refl _) (a.eval x) (by rw [hsz]; exact hsrc')
  refine ⟨.slice none 0 0, w, ok.bind none 0, _, _, .inl (exec_append hT ho hcb hat has hsv hrun), ⟨rfl, rfl⟩, ⟨rfl, rfl, rfl, Nat.le_refl _, fun _ _ _ => rfl⟩, ⟨fun _ _ h => h, fun _ _ _ => rfl, Oks.bind_ext _ _ _⟩, fun k o h => ⟨hokb _ _ h, .inl h⟩,
   gl.new hokb (fun _ _ => rfl) (Nat.le_refl _) (fun bb h => by cases h) (.inl ⟨rfl, Oks.bind_blk _ _ _⟩), fun k h => occG_new gl (fun bb h => by cases h) h, ?_⟩
  exact .gs0 _ (by rw [gl.next]; exact Nat.lt_succ_self _) (by rw [gl.next]; exact Oks.bind_blk _ _ _)
 ·have hpos : 0 < l2.length := List.length_pos_iff.2 h0
  have hnm : l2.length ≤ 140737488355328 := Nat.le_trans (Nat.le_mul_of_pos_right _ hb0) hroom
  have hrun := run_append_grow_src (P := P) w t t2 o.type e i zv (ty_slice hT hkt) hi hz none 0 0 [] (run_firstCells_none _ _ _ _ _) (a.eval x) l2.length news (by rw [hsz]; exact hsrc') (by omega) (by omega) (growslice_fits (by omega) (by rw [hby]; simpa using hroom))
  have c1 := grownCap_ge w (0 + l2.length) 0 e
  have c2 := grownCap_le_maxLen w (0 + l2.length) 0 e (by simp [maxLen]; omega)
  generalize grownCap w (0 + l2.length) 0 e = q at hrun c1 c2
  simp only [Nat.zero_add, List.nil_append] at hrun c1
  exact gl_grown hT gl hokb hnews hzs hsz hrun c1 c2 fun hr => .inl (exec_append hT ho hcb hat has hsv hr)
theorem gop_append {o : Oper} {c : Call} (ho : o.op = .call c) (hcb : c.callee = .builtin .append) {t t2 e : Nat} (hat : c.argTypes = #[t, t2]) {s x : Operand} (has : c.args = #[s, x]) {gh : GH} {id : Nat} {v : V} {n : Int} {l l2 : List V} (hkt : (tyOf t).k = .slice e) (hkn : known (tyOf e).k = true) (hz0 : 0 < (tyOf e).size) (hg : gh.get id = some (.row (tyOf e).size l)) (hn : n = l.length)
  (hst : isSrcV (tyOf t2).k v = true) (hsrc : SrcIs gh (tyOf e).size v l2) (hroom : (l.length + l2.length) * (tyOf e).bytes ≤ 140737488355328) (hb0 : 0 < (tyOf e).bytes) : GOp P o [.gs id n, v] gh (One (.gs gh.next (l ++ l2).length) ((gh.del id).new (.row (tyOf e).size (l ++ l2)))) := by
 refine GOp.of_run fun ok w a gl hokb hx => ?_
 rw [ho] at hx
 have hs := hx.get 0 rfl (y := s) (by simp [Op.operands, Call.operands, hcb, has])
 have hv := hx.get 1 rfl (y := x) (by simp [Op.operands, Call.operands, hcb, has])
 obtain ⟨hid, hsv⟩ := rep_gs hs
 obtain ⟨news, hsrc', hnews⟩ := srcIs_sound hT hst hz0 hsrc gl hv
 obtain ⟨i, zv, hi, hz, hsz, hby, _, _, _, hzs⟩ := ty_info hT (t := e) (known_ne' hkn)
 have hnm : l.length + l2.length ≤ 140737488355328 := Nat.le_trans (Nat.le_mul_of_pos_right _ hb0) hroom
 have gl1 := gl.del id
 have sub : ∀ {ok2 : Oks} {k : Nat}, occG ok2 (gh.del id) k → occG ok2 gh k := occG_del
 have wrap : ∀ {Q : V → GH → Prop}, (∃ v w' ok' r gh', ((execOp a.eval o).run P w = .ok (.value v) w' ∨ ((execOp a.eval o).run P w = .ok .skip w' ∧ v = undef)) ∧ Q r gh' ∧ Frame (occG ok (gh.del id)) w w' ∧
   Same ok ok' w w' ∧ (∀ b o, ok' b o → b < w'.heap.size ∧ (ok b o ∨ occG ok (gh.del id) b ∨ w.heap.size ≤ b)) ∧ GlOk ok' gh' w' ∧ (∀ b, occG ok' gh' b → occG ok (gh.del id) b ∨ w.heap.size ≤ b) ∧ Rep ok' w' r v) →
   (∃ v w' ok' r gh', ((execOp a.eval o).run P w = .ok (.value v) w' ∨ ((execOp a.eval o).run P w = .ok .skip w' ∧ v = undef)) ∧ Q r gh' ∧ Frame (occG ok gh) w w' ∧
   Same ok ok' w w' ∧ (∀ b o, ok' b o → b < w'.heap.size ∧ (ok b o ∨ occG ok gh b ∨ w.heap.size ≤ b)) ∧ GlOk ok' gh' w' ∧ (∀ b, occG ok' gh' b → occG ok gh b ∨ w.heap.size ≤ b) ∧ Rep ok' w' r v) := by
  rintro Q ⟨v, w', ok', r, gh', q1, q2, q3, q5, q6, q7, q8, q9⟩
  exact ⟨v, w', ok', r, gh', q1, q2, ⟨q3.os, q3.tape, q3.output, q3.size, fun b hb hM => q3.old b hb fun h => hM (sub h)⟩, q5, fun b o h => ⟨(q6 b o h).1, (q6 b o h).2.imp (fun h => h) (Or.imp_left sub)⟩, q7, fun b h => (q8 b h).imp_left sub, q9⟩
 rcases (gl.obj _ _ hg).2 with ⟨rfl, h1⟩ | ⟨b, cs, e0, h1, h2, h3, h4, h5, h6, h7⟩
 ·have hsv : a.eval s = .slice none 0 0 := by
   rcases hsv with ⟨_, _, h⟩ | ⟨b, hb, _⟩
   ·exact h
   ·rw [h1] at hb; cases hb
  simp only [List.nil_append]
  refine wrap ?_
  by_cases h0 : l2 = []
  ·subst h0
   have hn0 : news = [] := List.eq_nil_of_length_eq_zero (by simpa using hnews.1)
   subst hn0
   have hrun := run_append_nothing (P := P) w t t2 o.type e i (ty_slice hT hkt) hi none 0 0 (Nat.le_refl _) (a.eval x) (by rw [hsz]; exact hsrc')
   refine ⟨.slice none 0 0, w, ok.bind none 0, _, _, .inl (exec_append hT ho hcb hat has hsv hrun), ⟨rfl, rfl⟩, ⟨rfl, rfl, rfl, Nat.le_refl _, fun _ _ _ => rfl⟩, ⟨fun _ _ h => h, fun _ _ _ => rfl, Oks.bind_ext _ _ _⟩, fun k o h => ⟨hokb _ _ h, .inl h⟩,
    gl1.new hokb (fun _ _ => rfl) (Nat.le_refl _) (fun bb h => by cases h) (.inl ⟨rfl, Oks.bind_blk _ _ _⟩), fun k h => occG_new gl1 (fun bb h => by cases h) h, ?_⟩
   exact .gs0 _ (by rw [gl.next]; exact Nat.lt_succ_self _) (by rw [gl.next]; exact Oks.bind_blk _ _ _)
  ·have hpos : 0 < l2.length := List.length_pos_iff.2 h0
   have hrun := run_append_grow_src (P := P) w t t2 o.type e i zv (ty_slice hT hkt) hi hz none 0 0 [] (run_firstCells_none _ _ _ _ _) (a.eval x) l2.length news (by rw [hsz]; exact hsrc') (by omega) (by omega) (growslice_fits (by omega) (by rw [hby]; simpa using hroom))
   have c1 := grownCap_ge w (0 + l2.length) 0 e
   have c2 := grownCap_le_maxLen w (0 + l2.length) 0 e (by simp [maxLen]; omega)
   generalize grownCap w (0 + l2.length) 0 e = q at hrun c1 c2
   simp only [Nat.zero_add, List.nil_append] at hrun c1
   exact gl_grown hT gl1 hokb hnews hzs hsz hrun c1 c2 fun hr => .inl (exec_append hT ho hcb hat has hsv hr)
 ·have hsv : a.eval s = .slice (some ⟨b, 0, none⟩) l.length (ok.cap id) := by
   rcases hsv with ⟨_, h, _⟩ | ⟨b', hb, _, _, _, h⟩
   ·rw [h1] at h; cases h
   ·rw [h1] at hb; cases hb; rw [h, hn, Int.toNat_natCast]
  by_cases hfit : l.length + l2.length ≤ ok.cap id
  ·have hmul : (l.length + l2.length) * (tyOf e).size ≤ ok.cap id * (tyOf e).size := Nat.mul_le_mul_right _ hfit
   have hadd : (l.length + l2.length) * (tyOf e).size = l.length * (tyOf e).size + l2.length * (tyOf e).size := Nat.add_mul _ _ _
   have hnl := hnews.1
   have hrun := run_append_room_src (P := P) w t t2 o.type e i (ty_slice hT hkt) hi b 0 l.length (ok.cap id) (a.eval x) l2.length news (by rw [hsz]; exact hsrc') hfit (fun j hj => by
     rw [cell_of_heap h2, hsz]
     simp; omega) (fun j hj => by simp [World.frozen?, h2])
   rw [hsz] at hrun
   obtain ⟨cs', g1, g2, g3, g4, g5, g6, g7, g8⟩ := setCells_row news (0 + l.length * (tyOf e).size) w cs h2 (by omega)
   have hbn : id < ok.next := hid
   have hs : Same ok (ok.bind (some b) (ok.cap id)) w (w.setCells b (0 + l.length * (tyOf e).size) news) := ⟨fun _ _ h => h, fun k o h => by
    have hk : k ≠ b := fun q => by subst q; exact h7 _ h
    simp only [World.cell?, g4 k hk], Oks.bind_ext _ _ _⟩
   have hcell : ∀ o', o' < l.length * (tyOf e).size → (w.setCells b (0 + l.length * (tyOf e).size) news).cell? ⟨b, o', none⟩ = w.cell? ⟨b, o', none⟩ := fun o' ho' => by
    rw [cell_of_heap g1, cell_of_heap h2, g3, if_neg (by omega)]
   have hrow : RowAt (ok.bind (some b) (ok.cap id)) (w.setCells b (0 + l.length * (tyOf e).size) news) b 0 (tyOf e).size (l ++ l2) := by
    have old := h6.mono hs (fun i hi => by rw [Nat.zero_add i]; exact hcell i hi)
    obtain ⟨olds, o1, o2, _⟩ := old.news
    refine row_of_news (o1.append (hnews.mono hs)) (fun j u hu => ?_)
    by_cases hj : j < olds.length
    ·rw [List.getElem?_append_left hj] at hu
     have := o2 j u hu
     rwa [Nat.zero_add j] at this
    ·rw [List.getElem?_append_right (by omega)] at hu
     have h8 := (List.getElem?_eq_some_iff.1 hu).1
     have h9 := o1.1
     rw [cell_of_heap g1, g3, if_pos (by omega)]
     rw [← hu]; congr 1; omega
   have gl2 : GlOk (ok.bind (some b) (ok.cap id)) ((gh.del id).new (.row (tyOf e).size (l ++ l2))) (w.setCells b (0 + l.length * (tyOf e).size) news) := {
    next := congrArg (· + 1) gl.next
    obj := fun j p q => by
     simp only [GH.new_get, GH.del_get, GH.del_next, gl.next] at q
     split at q
     ·rename_i ej; subst ej; cases q
      exact ⟨Nat.lt_succ_self _, .inr ⟨b, cs', e0, Oks.bind_blk _ _ _, g1, by rw [Oks.bind_cap]; omega, by rw [Oks.bind_cap]; simpa using hfit, by rw [Oks.bind_cap]; exact h5, hrow, h7⟩⟩
     ·split at q
      ·cases q
      ·rename_i e1 e2
       refine ⟨Nat.lt_succ_of_lt (gl.obj j p q).1, (gl.obj j p q).2.stay hs (gl.obj j p q).1 (by omega) fun f2 bb hbb => ⟨g4 bb fun e3 => ?_, fun _ h => h⟩⟩
       subst e3
       exact gl.apart j id p _ bb q hg e2 f2 (fun h => h) hbb h1
    apart := fun i j p q bb k1 k2 hne f1 f2 hb1 hb2 => by
     have old : ∀ k r, gh.get k = some r → (ok.bind (some b) (ok.cap id)).blk k = some bb → ok.blk k = some bb := fun k r hk hkb => by
      rwa [(Oks.bind_ext ok _ _).blk k (gl.obj k r hk).1] at hkb
     simp only [GH.new_get, GH.del_get, GH.del_next, gl.next] at k1 k2
     split at k1 <;> split at k2
     ·rename_i e1 e2; exact hne (e1.trans e2.symm)
     ·rename_i e1 e2
      subst e1
      rw [Oks.bind_blk] at hb1; cases hb1
      split at k2
      ·cases k2
      ·rename_i e3; exact gl.apart j id q _ b k2 hg e3 f2 (fun h => h) (old j q k2 hb2) h1
     ·rename_i e1 e2
      subst e2
      rw [Oks.bind_blk] at hb2; cases hb2
      split at k1
      ·cases k1
      ·rename_i e3; exact gl.apart i id p _ b k1 hg e3 f1 (fun h => h) (old i p k1 hb1) h1
     ·split at k1
      ·cases k1
      ·split at k2
       ·cases k2
       ·exact gl.apart i j p q bb k1 k2 hne f1 f2 (old i p k1 hb1) (old j q k2 hb2) }
   refine ⟨_, _, ok.bind (some b) (ok.cap id), _, _, .inl (exec_append hT ho hcb hat has hsv hrun), ⟨rfl, rfl⟩, frame_set hg (fun h => h) h1 g4 g5 g6 g7 g8, hs, fun k o h => ⟨by rw [g8]; exact hokb _ _ h, .inl h⟩, gl2, fun k h => ?_, ?_⟩
   ·obtain ⟨j, p, k1, k2, k3⟩ := h
    simp only [GH.new_get, GH.del_get, GH.del_next, gl.next] at k1
    split at k1
    ·rename_i ej; subst ej; rw [Oks.bind_blk] at k3; cases k3; exact .inl ⟨id, _, hg, fun h => h, h1⟩
    ·split at k1
     ·cases k1
     ·rw [(Oks.bind_ext ok _ _).blk j (gl.obj j p k1).1] at k3
      exact .inl ⟨j, p, k1, k2, k3⟩
   ·have hc : (ok.bind (some b) (ok.cap id)).cap gh.next = ok.cap id := by rw [gl.next]; exact Oks.bind_cap _ _ _
    have := Rep.gs (ok := ok.bind (some b) (ok.cap id)) (w := w.setCells b (0 + l.length * (tyOf e).size) news) gh.next ((l ++ l2).length : Int) b (by rw [gl.next]; exact Nat.lt_succ_self _) (by rw [gl.next]; exact Oks.bind_blk _ _ _) (by omega) (by rw [hc]; simp; omega) (by rw [hc]; exact h5)
    rw [hc, Int.toNat_natCast, List.length_append] at this
    rw [List.length_append]
    exact this
  ·obtain ⟨olds, o1, o2, o3⟩ := h6.news
   have hrun := run_append_grow_src (P := P) w t t2 o.type e i zv (ty_slice hT hkt) hi hz (some ⟨b, 0, none⟩) l.length (ok.cap id) olds (by rw [hsz]; exact run_firstCells_some _ _ _ _ _ _ _ o1.1 (fun j u hu => by rw [add_plain]; exact o2 j u hu)) (a.eval x) l2.length news (by rw [hsz]; exact hsrc') (by omega) (by omega) (growslice_fits (by omega) (by rw [hby]; exact hroom))
   have c1 := grownCap_ge w (l.length + l2.length) (ok.cap id) e
   have c2 := grownCap_le_maxLen w (l.length + l2.length) (ok.cap id) e (by simp [maxLen]; omega)
   generalize grownCap w (l.length + l2.length) (ok.cap id) e = q at hrun c1 c2
   rw [← List.length_append] at hrun c1
   exact wrap (gl_grown hT gl1 hokb (o1.append hnews) hzs hsz hrun c1 c2 fun hr => .inl (exec_append hT ho hcb hat has hsv hr))
end
open Go Go.RowKit
theorem GlOk.frz {ok : Oks} {gh : GH} {w : World} (gl : GlOk ok gh w) {id z b : Nat} {l : List V} (hg : gh.get id = some (.row z l)) (hb : ok.blk id = some b) : GlOk (okAdd ok b (l.length * z)) (gh.set id (.frow z l)) w := by
 have hs : Same ok (okAdd ok b (l.length * z)) w w := ⟨fun _ _ h => .inl h, fun _ _ _ => rfl, ⟨Nat.le_refl _, fun _ _ => rfl, fun _ _ => rfl⟩⟩
 rcases (gl.obj _ _ hg).2 with ⟨_, h1⟩ | ⟨b', cs, e, h1, h2, h3, h4, h5, h6, h7⟩
 ·rw [hb] at h1; cases h1
 rw [hb] at h1; cases h1
 exact {
  next := gl.next
  obj := fun j p q => by
   simp only [GH.set_get] at q
   split at q
   ·rename_i ej; subst ej; cases q
    exact ⟨(gl.obj _ _ hg).1, .inr ⟨b, hb, heap_lt h2, h4, h5, h6.mono hs (fun _ _ => rfl), fun j hj => .inr ⟨rfl, hj⟩⟩⟩
   ·rename_i ej
    refine ⟨(gl.obj j p q).1, (gl.obj j p q).2.stay hs (gl.obj j p q).1 (Nat.le_refl _) fun f2 bb hbb => ⟨rfl, fun o h => ?_⟩⟩
    rcases h with h | ⟨rfl, _⟩
    ·exact h
    ·exact absurd hb (gl.apart j id p _ _ q hg ej f2 (fun h => h) hbb)
  apart := fun i j p q bb k1 k2 hne f1 f2 hb1 hb2 => by
   simp only [GH.set_get] at k1 k2
   split at k1
   ·cases k1; exact f1 trivial
   ·split at k2
    ·cases k2; exact f2 trivial
    ·exact gl.apart i j p q bb k1 k2 hne f1 f2 hb1 hb2 }
theorem gs_take {ok : Oks} {gh : GH} {w : World} (gl : GlOk ok gh w) {id z b : Nat} {l : List V} {n : Int} {u : Value} (hg : gh.get id = some (.frow z l)) (hb : ok.blk id = some b) (hn : n ≤ l.length) (hr : Rep ok w (.gs id n) u) : Rep ok w (.slice (l.take n.toNat)) u := by
 obtain ⟨_, h⟩ := rep_gs hr
 rcases h with ⟨_, q, _⟩ | ⟨b', q, h0, hc, hm, rfl⟩
 ·rw [hb] at q; cases q
 rw [hb] at q; cases q
 rcases (gl.obj _ _ hg).2 with ⟨_, h1⟩ | ⟨b', h1, _, h4, h5, h6, h7⟩
 ·rw [hb] at h1; cases h1
 rw [hb] at h1; cases h1
 have hlen : (l.take n.toNat).length = n.toNat := by rw [List.length_take]; omega
 have := rep_row (h6.take n.toNat) (cap := ok.cap id) (fun j hj => by
  rw [Nat.zero_add]
  rw [hlen] at hj
  exact h7 _ (Nat.lt_of_lt_of_le hj (Nat.mul_le_mul_right _ (by omega)))) (by omega) hm
 rw [hlen] at this
 exact this
theorem weak_gnil (S : St) (t z : Nat) {gh : GH} {pub : List Nat} (hh : look S.ob hk = some (.heap gh pub)) (ht : S.get t = .nils) : Weak S ((S.setOb hk (.heap (gh.new (.row z [])) pub)).put (some t) (.v (.gs gh.next 0))) := fun G E ok a w c => by
 have gl : GlOk ok gh w := (c.obj _ _ hh).2
 have c2 := c.swap (pub' := pub) (ok' := ok.bind none 0) (w' := w) (gh' := gh.new (.row z [])) hh ⟨rfl, rfl, rfl, Nat.le_refl _, fun _ _ _ => rfl⟩ ⟨fun _ _ h => h, fun _ _ _ => rfl, Oks.bind_ext _ _ _⟩ (fun b o h => ⟨c.okb _ _ h, .inl h⟩)
  (gl.new c.okb (fun _ _ => rfl) (Nat.le_refl _) (fun bb h => by cases h) (.inl ⟨rfl, Oks.bind_blk _ _ _⟩)) (fun b h => occG_new gl (fun bb h => by cases h) h)
 have h1 := c.slot t
 rw [ht] at h1
 refine ⟨E, _, c2.refine (t := t) ?_⟩
 rw [repD_nils h1]
 exact .v _ _ (.gs0 _ (by rw [gl.next]; exact Nat.lt_succ_self _) (by rw [gl.next]; exact Oks.bind_blk _ _ _))
inductive NoG : V → Prop
 | bool (b : Bool) : NoG (.bool b)
 | int (k : IntKind) (n : Int) : NoG (.int k n)
 | str (s : List UInt8) : NoG (.str s)
 | slice (l : List V) (h : ∀ x ∈ l, ∀ y ∈ x.flat, NoG y) : NoG (.slice l)
 | agg (l : List V) (h : ∀ x ∈ l, NoG x) : NoG (.agg l)
 | tup (l : List V) (h : ∀ x ∈ l, NoG x) : NoG (.tup l)
 | nilp : NoG .nilp
 | nilfn : NoG .nilfn
 | nilif : NoG .nilif
 | nilmap : NoG .nilmap
 | nils : NoG .nils
 | xs (l : List V) (h : NoG (.slice l)) : NoG (.xs l)
def Oks.env (ok e : Oks) : Oks := { ok with next := e.next, blk := e.blk, cap := e.cap }
theorem NoG.rep {ok : Oks} {w : World} {x : V} {u : Value} (h : NoG x) (e : Oks) (r : Rep ok w x u) : Rep (ok.env e) w x u := by
 induction h generalizing u with
 | bool b => cases r; exact .bool _
 | int k n => cases r; exact .int _ _
 | str s => cases r; exact .str _
 | slice l hl ih =>
  cases r with
  | slice _ a c z us hc hm ha hz hcell hr => exact .slice l a c z us hc hm ha hz hcell (fun i hi j hj => ih _ (List.getElem_mem hi) _ (List.getElem_mem hj) (hr i hi j hj))
 | agg l hl ih =>
  cases r with
  | agg _ cs h1 h2 h3 => exact .agg l cs h1 h2 (fun i hi hi' => ih _ (List.getElem_mem hi) (h3 i hi hi'))
 | tup l hl ih =>
  cases r with
  | tup _ cs h1 h2 => exact .tup l cs h1 (fun i hi hi' => ih _ (List.getElem_mem hi) (h2 i hi hi'))
 | nilp => cases r; exact .nilp
 | nilfn => cases r; exact .nilfn
 | nilif => cases r; exact .nilif
 | nilmap => cases r; exact .nilmap
 | nils => cases r; exact .nils
 | xs l hl ih => cases r with
  | xs _ _ ad hu hr => exact .xs l _ ad hu (ih hr)
def Rs.noG : Rs → Prop
 | .v x => NoG x
 | .o _ l => ∀ x ∈ l, ∀ y ∈ x.flat, NoG y
theorem FnR.ofG {P : Program} {f : Nat} {xs : List V} {rs : List Rs} (hn : ∀ r ∈ rs, r.noG) (h : ∀ n, FnG P f xs ⟨n, fun _ => none⟩ fun rs' _ => rs' = rs) : FnR P f xs rs := by
 refine ⟨(h 0).1, fun w ok vs hok hl hr => ?_⟩
 refine ((h ok.next).2 w ok vs hok ⟨rfl, fun id o q => (by cases q), fun i j o p b q => (by cases q)⟩ hl hr).mono fun e w' ⟨us, gs, ok', rs', gh', hpost, he, fr, q1, q3, hu, hg, hrs, hd, _⟩ => ?_
 subst hpost
 refine ⟨us, gs, ok'.env ok, he, ⟨fr.os, fr.tape, fr.output, fr.size, fun b hb => fr.old b hb (fun ⟨id, o, q, _⟩ => by cases q)⟩, q1.sub, ⟨rfl, rfl, rfl⟩, fun b o q => ?_, hu, hg, fun i hi hi' hi'' => ?_, hd⟩
 ·obtain ⟨k1, k2⟩ := q3 b o q
  rcases k2 with k2 | ⟨id, o, k2, _⟩ | k2
  ·exact .inl k2
  ·cases k2
  ·exact .inr ⟨k2, k1⟩
 ·have h0 := hrs i hi hi' hi''
  have h1 := hn _ (List.getElem_mem hi)
  revert h0 h1
  generalize rs'[i]'hi = r
  intro h0 h1
  cases r with
  | v x => exact ⟨h0.1, NoG.rep h1 ok h0.2⟩
  | o z l =>
   rcases h0 with h0 | ⟨b, cap, cs, e, k1, k2, k3, k4, k5, k6, k7, k8, k9⟩
   ·exact .inl h0
   ·exact .inr ⟨b, cap, cs, e, k1, k2, k3, k4, k5, k6, k7, ⟨k8.hz, k8.hcell, fun i hi j hj => by
     obtain ⟨u, m1, m2⟩ := k8.hr i hi j hj
     exact ⟨u, m1, (h1 _ (List.getElem_mem hi) _ (List.getElem_mem hj)).rep ok m2⟩⟩, k9⟩
theorem noG_bytes (b : List UInt8) : NoG (.slice (bytesV b)) := .slice _ fun x hx y hy => by
 simp only [bytesV, List.mem_map] at hx
 obtain ⟨c, _, rfl⟩ := hx
 simp [V.flat] at hy; subst hy; exact .int _ _
theorem FnG.frz {P : Program} {f : Nat} {xs : List V} {gh : GH} {post0 post : List Rs → GH → Prop} (h : FnG P f xs gh post0)
  (hp : ∀ rs gh', post0 rs gh' → ∃ (i id z : Nat) (n : Int) (l : List V), rs[i]? = some (.v (.gs id n)) ∧ gh'.get id = some (.row z l) ∧ n ≤ l.length ∧ post (rs.set i (.v (.slice (l.take n.toNat)))) (gh'.del id)) : FnG P f xs gh post := by
 refine ⟨h.1, fun w ok vs hok gl hl hr => ?_⟩
 refine (h.2 w ok vs hok gl hl hr).mono fun e w' ⟨us, gs, ok', rs, gh', hpost, he, fr, q1, q3, hu, hg, hrs, hd, gl', hgb⟩ => ?_
 obtain ⟨i, id, z, n, l, hi, hgi, hn, hpost'⟩ := hp rs gh' hpost
 obtain ⟨hi1, hi2⟩ := List.getElem?_eq_some_iff.1 hi
 have h0 := hrs i hi1 (by omega) (by omega)
 rw [hi2] at h0
 obtain ⟨_, h0⟩ := h0
 have del : (gh'.set id (.frow z l)).del id = gh'.del id := by
  simp only [GH.set, GH.del]; congr 1; funext j; split <;> rfl
 rcases (gl'.obj _ _ hgi).2 with ⟨rfl, h2⟩ | ⟨b, cs, e', h2, h3, _⟩
 ·refine ⟨us, gs, ok', _, _, hpost', he, fr, q1, q3, by simpa using hu, by simpa using hg, fun k hk hk' hk'' => ?_, hd, gl'.del id, fun b hb => hgb b (occG_del hb)⟩
  by_cases e : i = k
  ·subst e
   simp only [List.getElem_set_self]
   refine ⟨(hrs i hi1 (by omega) (by omega) |> fun q => by rw [hi2] at q; exact q.1), ?_⟩
   obtain ⟨_, q⟩ := rep_gs h0
   rcases q with ⟨_, _, q⟩ | ⟨b', q, _⟩
   ·rw [q]; simp only [List.take_nil]; exact rep_nil_slice _ _
   ·rw [h2] at q; cases q
  ·simp only [List.getElem_set_ne e]
   exact hrs k (by simpa using hk) hk' hk''
 ·have gl2 := gl'.frz hgi h2
  have hs : Same ok' (okAdd ok' b (l.length * z)) w' w' := ⟨fun _ _ h => .inl h, fun _ _ _ => rfl, ⟨Nat.le_refl _, fun _ _ => rfl, fun _ _ => rfl⟩⟩
  have hocc : occG ok' gh' b := ⟨id, _, hgi, fun h => h, h2⟩
  refine ⟨us, gs, okAdd ok' b (l.length * z), _, _, hpost', he, fr, q1.trans hs, fun k o h => ?_, by simpa using hu, by simpa using hg, fun k hk hk' hk'' => ?_, hd, del ▸ gl2.del id, fun k hb => hgb k (occG_del hb)⟩
  ·rcases h with h | ⟨rfl, _⟩
   ·exact q3 k o h
   ·exact ⟨heap_lt h3, .inr (hgb _ hocc).1⟩
  ·by_cases e : i = k
   ·subst e
    simp only [List.getElem_set_self]
    refine ⟨(hrs i hi1 (by omega) (by omega) |> fun q => by rw [hi2] at q; exact q.1), ?_⟩
    exact gs_take (z := z) gl2 (by simp) h2 hn (h0.mono hs)
   ·simp only [List.getElem_set_ne e]
    have q := hrs k (by simpa using hk) hk' hk''
    revert q
    generalize rs[k]'(by simpa using hk) = r
    generalize us[k]'hk' = u
    generalize hgk : gs[k]'hk'' = g
    intro q
    cases r with
    | v x => exact ⟨q.1, q.2.mono hs⟩
    | o z' l' =>
     rcases q with q | ⟨b', cap, cs', e'', k1, k2, k3, k4, k5, k6, k7, k8, k9⟩
     ·exact .inl q
     ·refine .inr ⟨b', cap, cs', e'', k1, k2, k3, k4, k5, k6, k7, k8.mono hs (fun _ _ => rfl), fun o h => ?_⟩
      rcases h with h | ⟨rfl, _⟩
      ·exact k9 o h
      ·exact (hgb _ hocc).2 k (by rw [List.getElem?_eq_getElem hk'', hgk, k1])
theorem FnG.mono {P : Program} {f : Nat} {xs : List V} {gh : GH} {post0 post : List Rs → GH → Prop} (h : FnG P f xs gh post0) (hp : ∀ rs gh', post0 rs gh' → post rs gh') : FnG P f xs gh post := by
 refine ⟨h.1, fun w ok vs hok gl hl hr => ?_⟩
 refine (h.2 w ok vs hok gl hl hr).mono fun e w' ⟨us, gs, ok', rs, gh', hpost, q⟩ => ⟨us, gs, ok', rs, gh', hp _ _ hpost, q⟩
open Go Go.RowKit
theorem remOb_idem (id : Nat) : ∀ ob : List (Nat × AObj), remOb id (remOb id ob) = remOb id ob
 | [] => rfl
 | (k, o) :: r => by
  by_cases h : k = id
  ·simp only [remOb, if_pos h, remOb_idem id r]
  ·simp only [remOb, if_neg h, remOb_idem id r]
theorem setOb_twice (S : St) (id : Nat) (o p : AObj) : (S.setOb id o).setOb id p = S.setOb id p := by
 unfold St.setOb
 simp only [remOb, if_true, remOb_idem]
theorem GlOk.toA {ok : Oks} {gh : GH} {w : World} (gl : GlOk ok gh w) {id z : Nat} {l : List V} (hg : gh.get id = some (.row z l)) :
  ∃ ok' : Oks, Same ok ok' w w ∧ EnvEq ok ok' ∧ GlOk ok' (gh.set id (.arow z l)) w ∧ ∀ b o, ok' b o → ok b o ∨ (occG ok gh b ∧ b < w.heap.size) := by
 rcases (gl.obj _ _ hg).2 with ⟨h0, h1⟩ | ⟨b, cs, e, h1, h2, h3, h4, h5, h6, h7⟩
 ·refine ⟨ok, .refl _ _, .refl _, { next := gl.next, obj := fun j p q => ?_, apart := fun i j p q bb k1 k2 hne f1 f2 hb1 hb2 => ?_ }, fun _ _ h => .inl h⟩
  ·simp only [GH.set_get] at q
   split at q
   ·rename_i ej; subst ej; cases q; exact ⟨(gl.obj _ _ hg).1, .inl ⟨h0, h1⟩⟩
   ·exact gl.obj j p q
  ·simp only [GH.set_get] at k1 k2
   split at k1
   ·rename_i ej; subst ej; rw [h1] at hb1; cases hb1
   ·split at k2
    ·rename_i ej; subst ej; rw [h1] at hb2; cases hb2
    ·exact gl.apart i j p q bb k1 k2 hne f1 f2 hb1 hb2
 ·have hs : Same ok (okAdd ok b (l.length * z)) w w := ⟨fun _ _ h => .inl h, fun _ _ _ => rfl, ⟨Nat.le_refl _, fun _ _ => rfl, fun _ _ => rfl⟩⟩
  have hocc : occG ok gh b := ⟨id, _, hg, fun h => h, h1⟩
  refine ⟨okAdd ok b (l.length * z), hs, ⟨rfl, rfl, rfl⟩, { next := gl.next, obj := fun j p q => ?_, apart := fun i j p q bb k1 k2 hne f1 f2 hb1 hb2 => ?_ }, fun k o h => ?_⟩
  ·simp only [GH.set_get] at q
   split at q
   ·rename_i ej; subst ej; cases q
    exact ⟨(gl.obj _ _ hg).1, .inr ⟨b, cs, e, h1, h2, h3, h4, h5, h6.mono hs (fun _ _ => rfl), fun o ho => .inr ⟨rfl, ho⟩, fun o k1 k2 k3 => by
     rcases k3 with k3 | ⟨_, k3⟩
     ·exact h7 o k3
     ·omega⟩⟩
   ·rename_i ej
    refine ⟨(gl.obj j p q).1, (gl.obj j p q).2.stay hs (gl.obj j p q).1 (Nat.le_refl _) fun f2 bb hbb => ⟨rfl, fun o h => ?_⟩⟩
    rcases h with h | ⟨rfl, _⟩
    ·exact h
    ·exact absurd h1 (gl.apart j id p _ _ q hg ej f2 (fun h => h) hbb)
  ·simp only [GH.set_get] at k1 k2
   split at k1 <;> split at k2
   ·rename_i e1 e2; exact absurd (e1.trans e2.symm) hne
   ·rename_i e1 e2; subst e1; exact gl.apart _ j _ q bb hg k2 hne (fun h => h) f2 hb1 hb2
   ·rename_i e1 e2; subst e2; exact gl.apart i _ p _ bb k1 hg hne f1 (fun h => h) hb1 hb2
   ·exact gl.apart i j p q bb k1 k2 hne f1 f2 hb1 hb2
  ·rcases h with h | ⟨rfl, _⟩
   ·exact .inl h
   ·exact .inr ⟨hocc, heap_lt h2⟩
theorem occG_setA {ok : Oks} {gh : GH} {id z b : Nat} {l : List V} (hg : gh.get id = some (.row z l)) (h : occG ok (gh.set id (.arow z l)) b) : occG ok gh b := occG_set hg (fun h => h) h
theorem new_toA (gh : GH) (z : Nat) (l : List V) : (gh.new (.row z l)).set gh.next (.arow z l) = gh.new (.arow z l) := by
 simp only [GH.set, GH.new]; congr 1; funext j; split <;> rfl
theorem pack_toA {ok : Oks} {gh : GH} {w : World} {z : Nat} {l : List V} {n : Int} {Y : Value → World → Prop} (h : ∃ v w' ok' r gh', Y v w' ∧ One (.gs gh.next n) (gh.new (.row z l)) r gh' ∧ Frame (occG ok gh) w w' ∧ Same ok ok' w w' ∧ (∀ b o, ok' b o → b < w'.heap.size ∧ (ok b o ∨ occG ok gh b ∨ w.heap.size ≤ b)) ∧ GlOk ok' gh' w' ∧ (∀ b, occG ok' gh' b → occG ok gh b ∨ w.heap.size ≤ b) ∧ Rep ok' w' r v) :
  ∃ v w' ok' r gh', Y v w' ∧ One (.gs gh.next n) (gh.new (.arow z l)) r gh' ∧ Frame (occG ok gh) w w' ∧ Same ok ok' w w' ∧ (∀ b o, ok' b o → b < w'.heap.size ∧ (ok b o ∨ occG ok gh b ∨ w.heap.size ≤ b)) ∧ GlOk ok' gh' w' ∧ (∀ b, occG ok' gh' b → occG ok gh b ∨ w.heap.size ≤ b) ∧ Rep ok' w' r v := by
 obtain ⟨v, w', ok', r, gh', q1, ⟨rfl, rfl⟩, q3, q4, q5, q6, q7, q8⟩ := h
 obtain ⟨ok2, k1, k2, k3, k4⟩ := q6.toA (id := gh.next) (z := z) (l := l) (by simp)
 rw [new_toA] at k3
 refine ⟨v, w', ok2, _, _, q1, ⟨rfl, rfl⟩, q3, q4.trans k1, fun b o h => ?_, k3, fun b h => ?_, q8.mono k1⟩
 ·rcases k4 b o h with h | ⟨h, h'⟩
  ·exact q5 b o h
  ·exact ⟨h', .inr (q7 b h)⟩
 ·rw [occG_env k2] at h
  rw [← new_toA] at h
  exact q7 b (occG_setA (by simp) h)
theorem GOp.toA {P : Program} {o : Oper} {xs : List V} {gh g : GH} {id z : Nat} {l : List V} {r : V} (h : GOp P o xs gh (One r g)) (hg : g.get id = some (.row z l)) : GOp P o xs gh (One r (g.set id (.arow z l))) := by
 intro G E ok S a w pub c hh hx Q
 refine Oper.wp_mono (fun a' w' ⟨v, ok', r', gh', h1, ⟨hr, hq⟩, c', h3⟩ => ?_) (h G E ok S a w pub c hh hx Q)
 subst hr hq
 have hk' : look (S.setOb hk (.heap gh' pub)).ob hk = some (.heap gh' pub) := by simp [St.setOb, look]
 obtain ⟨ok2, k1, k2, k3, k4⟩ := (c'.obj _ _ hk').2.toA hg
 have c2 := c'.swap (pub' := pub) hk' ⟨rfl, rfl, rfl, Nat.le_refl _, fun _ _ _ => rfl⟩ k1 (fun b o q => by
  rcases k4 b o q with q | ⟨q, q'⟩
  ·exact ⟨c'.okb _ _ q, .inl q⟩
  ·exact ⟨q', .inr (.inl q)⟩) k3 (fun b q => .inl (by rw [occG_env k2] at q; exact occG_setA hg q))
 rw [setOb_twice] at c2
 exact ⟨v, ok2, r', _, h1, ⟨rfl, rfl⟩, c2, h3.mono k1⟩
section
variable {P : Program} (hT : tableOf P = T)
include hT
theorem gop_appendA {o : Oper} {c : Call} (ho : o.op = .call c) (hcb : c.callee = .builtin .append) {t t2 e : Nat} (hat : c.argTypes = #[t, t2]) {s x : Operand} (has : c.args = #[s, x]) {gh : GH} {id : Nat} {v : V} {n : Int} {l l2 : List V} (hkt : (tyOf t).k = .slice e) (hkn : known (tyOf e).k = true) (hz0 : 0 < (tyOf e).size) (hg : gh.get id = some (.arow (tyOf e).size l)) (hn : n = l.length)
  (hst : isSrcV (tyOf t2).k v = true) (hsrc : SrcIs gh (tyOf e).size v l2) (hroom : (l.length + l2.length) * (tyOf e).bytes ≤ 140737488355328) (hb0 : 0 < (tyOf e).bytes) : GOp P o [.gs id n, v] gh (One (.gs gh.next (l ++ l2).length) ((gh.del id).new (.arow (tyOf e).size (l ++ l2)))) := by
 refine GOp.of_run fun ok w a gl hokb hx => ?_
 rw [ho] at hx
 have hs := hx.get 0 rfl (y := s) (by simp [Op.operands, Call.operands, hcb, has])
 have hv := hx.get 1 rfl (y := x) (by simp [Op.operands, Call.operands, hcb, has])
 obtain ⟨hid, hsv⟩ := rep_gs hs
 obtain ⟨news, hsrc', hnews⟩ := srcIs_sound hT hst hz0 hsrc gl hv
 obtain ⟨i, zv, hi, hz, hsz, hby, _, _, _, hzs⟩ := ty_info hT (t := e) (known_ne' hkn)
 have hnm : l.length + l2.length ≤ 140737488355328 := Nat.le_trans (Nat.le_mul_of_pos_right _ hb0) hroom
 have gl1 := gl.del id
 have sub : ∀ {ok2 : Oks} {k : Nat}, occG ok2 (gh.del id) k → occG ok2 gh k := occG_del
 have wrap : ∀ {Q : V → GH → Prop}, (∃ v w' ok' r gh', ((execOp a.eval o).run P w = .ok (.value v) w' ∨ ((execOp a.eval o).run P w = .ok .skip w' ∧ v = undef)) ∧ Q r gh' ∧ Frame (occG ok (gh.del id)) w w' ∧
   Same ok ok' w w' ∧ (∀ b o, ok' b o → b < w'.heap.size ∧ (ok b o ∨ occG ok (gh.del id) b ∨ w.heap.size ≤ b)) ∧ GlOk ok' gh' w' ∧ (∀ b, occG ok' gh' b → occG ok (gh.del id) b ∨ w.heap.size ≤ b) ∧ Rep ok' w' r v) →
   (∃ v w' ok' r gh', ((execOp a.eval o).run P w = .ok (.value v) w' ∨ ((execOp a.eval o).run P w = .ok .skip w' ∧ v = undef)) ∧ Q r gh' ∧ Frame (occG ok gh) w w' ∧
   Same ok ok' w w' ∧ (∀ b o, ok' b o → b < w'.heap.size ∧ (ok b o ∨ occG ok gh b ∨ w.heap.size ≤ b)) ∧ GlOk ok' gh' w' ∧ (∀ b, occG ok' gh' b → occG ok gh b ∨ w.heap.size ≤ b) ∧ Rep ok' w' r v) := by
  rintro Q ⟨v, w', ok', r, gh', q1, q2, q3, q5, q6, q7, q8, q9⟩
  exact ⟨v, w', ok', r, gh', q1, q2, ⟨q3.os, q3.tape, q3.output, q3.size, fun b hb hM => q3.old b hb fun h => hM (sub h)⟩, q5, fun b o h => ⟨(q6 b o h).1, (q6 b o h).2.imp (fun h => h) (Or.imp_left sub)⟩, q7, fun b h => (q8 b h).imp_left sub, q9⟩
 rcases (gl.obj _ _ hg).2 with ⟨rfl, h1⟩ | ⟨b, cs, e0, h1, h2, h3, h4, h5, h6, h7, h8⟩
 ·have hsv : a.eval s = .slice none 0 0 := by
   rcases hsv with ⟨_, _, h⟩ | ⟨b, hb, _⟩
   ·exact h
   ·rw [h1] at hb; cases hb
  simp only [List.nil_append]
  refine wrap ?_
  by_cases h0 : l2 = []
  ·subst h0
   have hn0 : news = [] := List.eq_nil_of_length_eq_zero (by simpa using hnews.1)
   subst hn0
   have hrun := run_append_nothing (P := P) w t t2 o.type e i (ty_slice hT hkt) hi none 0 0 (Nat.le_refl _) (a.eval x) (by rw [hsz]; exact hsrc')
   refine ⟨.slice none 0 0, w, ok.bind none 0, _, _, .inl (exec_append hT ho hcb hat has hsv hrun), ⟨rfl, rfl⟩, ⟨rfl, rfl, rfl, Nat.le_refl _, fun _ _ _ => rfl⟩, ⟨fun _ _ h => h, fun _ _ _ => rfl, Oks.bind_ext _ _ _⟩, fun k o h => ⟨hokb _ _ h, .inl h⟩,
    gl1.new hokb (fun _ _ => rfl) (Nat.le_refl _) (fun bb h => by cases h) (.inl ⟨rfl, Oks.bind_blk _ _ _⟩), fun k h => occG_new gl1 (fun bb h => by cases h) h, ?_⟩
   exact .gs0 _ (by rw [gl.next]; exact Nat.lt_succ_self _) (by rw [gl.next]; exact Oks.bind_blk _ _ _)
  ·have hpos : 0 < l2.length := List.length_pos_iff.2 h0
   have hrun := run_append_grow_src (P := P) w t t2 o.type e i zv (ty_slice hT hkt) hi hz none 0 0 [] (run_firstCells_none _ _ _ _ _) (a.eval x) l2.length news (by rw [hsz]; exact hsrc') (by omega) (by omega) (growslice_fits (by omega) (by rw [hby]; simpa using hroom))
   have c1 := grownCap_ge w (0 + l2.length) 0 e
   have c2 := grownCap_le_maxLen w (0 + l2.length) 0 e (by simp [maxLen]; omega)
   generalize grownCap w (0 + l2.length) 0 e = q at hrun c1 c2
   simp only [Nat.zero_add, List.nil_append] at hrun c1
   exact pack_toA (gl_grown hT gl1 hokb hnews hzs hsz hrun c1 c2 fun hr => .inl (exec_append hT ho hcb hat has hsv hr))
 ·have hsv : a.eval s = .slice (some ⟨b, 0, none⟩) l.length (ok.cap id) := by
   rcases hsv with ⟨_, h, _⟩ | ⟨b', hb, _, _, _, h⟩
   ·rw [h1] at h; cases h
   ·rw [h1] at hb; cases hb; rw [h, hn, Int.toNat_natCast]
  by_cases hfit : l.length + l2.length ≤ ok.cap id
  ·have hmul : (l.length + l2.length) * (tyOf e).size ≤ ok.cap id * (tyOf e).size := Nat.mul_le_mul_right _ hfit
   have hadd : (l.length + l2.length) * (tyOf e).size = l.length * (tyOf e).size + l2.length * (tyOf e).size := Nat.add_mul _ _ _
   have hnl := hnews.1
   have hrun := run_append_room_src (P := P) w t t2 o.type e i (ty_slice hT hkt) hi b 0 l.length (ok.cap id) (a.eval x) l2.length news (by rw [hsz]; exact hsrc') hfit (fun j hj => by
     rw [cell_of_heap h2, hsz]
     simp; omega) (fun j hj => by simp [World.frozen?, h2])
   rw [hsz] at hrun
   obtain ⟨cs', g1, g2, g3, g4, g5, g6, g7, g8⟩ := setCells_row news (0 + l.length * (tyOf e).size) w cs h2 (by omega)
   have hbn : id < ok.next := hid
   obtain ⟨ok2, hok2⟩ : ∃ ok2 : Oks, ok2 = okAdd (ok.bind (some b) (ok.cap id)) b ((l.length + l2.length) * (tyOf e).size) := ⟨_, rfl⟩
   have e1 : ok2.blk ok.next = some b := by subst hok2; exact Oks.bind_blk ok (some b) (ok.cap id)
   have e2 : ok2.cap ok.next = ok.cap id := by subst hok2; exact Oks.bind_cap ok (some b) (ok.cap id)
   have e3 : ∀ k, k < ok.next → ok2.blk k = ok.blk k := by subst hok2; exact (Oks.bind_ext ok (some b) (ok.cap id)).blk
   have e4 : ∀ k o, ok2 k o ↔ ok k o ∨ (k = b ∧ o < (l.length + l2.length) * (tyOf e).size) := by subst hok2; exact fun _ _ => Iff.rfl
   have e5 : ok2.next = ok.next + 1 := by subst hok2; rfl
   have e6 : Ext ok ok2 := by subst hok2; exact ⟨(Oks.bind_ext ok (some b) (ok.cap id)).next, (Oks.bind_ext ok (some b) (ok.cap id)).blk, (Oks.bind_ext ok (some b) (ok.cap id)).cap⟩
   clear hok2
   have hs : Same ok ok2 w (w.setCells b (0 + l.length * (tyOf e).size) news) := ⟨fun _ _ h => (e4 _ _).2 (.inl h), fun k o h => by
    by_cases hk : k = b
    ·subst hk
     rw [cell_of_heap g1, cell_of_heap h2, g3, if_neg]
     intro q
     exact h8 o (by omega) (by omega) h
    ·simp only [World.cell?, g4 k hk], e6⟩
   have hcell : ∀ o', o' < l.length * (tyOf e).size → (w.setCells b (0 + l.length * (tyOf e).size) news).cell? ⟨b, o', none⟩ = w.cell? ⟨b, o', none⟩ := fun o' ho' => by
    rw [cell_of_heap g1, cell_of_heap h2, g3, if_neg (by omega)]
   have hrow : RowAt ok2 (w.setCells b (0 + l.length * (tyOf e).size) news) b 0 (tyOf e).size (l ++ l2) := by
    have old := h6.mono hs (fun i hi => by rw [Nat.zero_add i]; exact hcell i hi)
    obtain ⟨olds, o1, o2, _⟩ := old.news
    refine row_of_news (o1.append (hnews.mono hs)) (fun j u hu => ?_)
    by_cases hj : j < olds.length
    ·rw [List.getElem?_append_left hj] at hu
     have := o2 j u hu
     rwa [Nat.zero_add j] at this
    ·rw [List.getElem?_append_right (by omega)] at hu
     have h8 := (List.getElem?_eq_some_iff.1 hu).1
     have h9 := o1.1
     rw [cell_of_heap g1, g3, if_pos (by omega)]
     rw [← hu]; congr 1; omega
   have gl2 : GlOk ok2 ((gh.del id).new (.arow (tyOf e).size (l ++ l2))) (w.setCells b (0 + l.length * (tyOf e).size) news) := {
    next := (congrArg (· + 1) gl.next).trans e5.symm
    obj := fun j p q => by
     simp only [GH.new_get, GH.del_get, GH.del_next, gl.next] at q
     split at q
     ·rename_i ej; subst ej; cases q
      exact ⟨by omega, .inr ⟨b, cs', e0, e1, g1, by rw [e2]; omega, by rw [e2]; simpa using hfit, by rw [e2]; exact h5, hrow, fun o ho => (e4 _ _).2 (.inr ⟨rfl, by rw [List.length_append] at ho; exact ho⟩), fun o k1 k2 k3 => by
       rw [List.length_append] at k1
       rw [e2] at k2
       rcases (e4 _ _).1 k3 with k3 | ⟨_, k3⟩
       ·exact h8 o (by omega) k2 k3
       ·omega⟩⟩
     ·split at q
      ·cases q
      ·rename_i n1 n2
       refine ⟨by have := (gl.obj j p q).1; omega, (gl.obj j p q).2.stay hs (gl.obj j p q).1 (by omega) fun f2 bb hbb => ?_⟩
       have hne : bb ≠ b := fun e3 => by subst e3; exact gl.apart j id p _ bb q hg n2 f2 (fun h => h) hbb h1
       refine ⟨g4 bb hne, fun o h => ?_⟩
       rcases (e4 _ _).1 h with h | ⟨h, _⟩
       ·exact h
       ·exact absurd h hne
    apart := fun i j p q bb k1 k2 hne f1 f2 hb1 hb2 => by
     have old : ∀ k r, gh.get k = some r → ok2.blk k = some bb → ok.blk k = some bb := fun k r hk hkb => by
      rwa [e3 k (gl.obj k r hk).1] at hkb
     simp only [GH.new_get, GH.del_get, GH.del_next, gl.next] at k1 k2
     split at k1 <;> split at k2
     ·rename_i n1 n2; exact hne (n1.trans n2.symm)
     ·rename_i n1 n2
      subst n1
      rw [e1] at hb1; cases hb1
      split at k2
      ·cases k2
      ·rename_i e3; exact gl.apart j id q _ b k2 hg e3 f2 (fun h => h) (old j q k2 hb2) h1
     ·rename_i n1 n2
      subst n2
      rw [e1] at hb2; cases hb2
      split at k1
      ·cases k1
      ·rename_i e3; exact gl.apart i id p _ b k1 hg e3 f1 (fun h => h) (old i p k1 hb1) h1
     ·split at k1
      ·cases k1
      ·split at k2
       ·cases k2
       ·exact gl.apart i j p q bb k1 k2 hne f1 f2 (old i p k1 hb1) (old j q k2 hb2) }
   refine ⟨_, _, ok2, _, _, .inl (exec_append hT ho hcb hat has hsv hrun), ⟨rfl, rfl⟩, frame_set hg (fun h => h) h1 g4 g5 g6 g7 g8, hs, fun k o h => ⟨by rw [g8]; rcases (e4 _ _).1 h with h | ⟨rfl, _⟩; exact hokb _ _ h; exact heap_lt h2, ((e4 _ _).1 h).imp (fun h => h) fun ⟨h, _⟩ => .inl ⟨id, _, hg, fun h => h, h ▸ h1⟩⟩, gl2, fun k h => ?_, ?_⟩
   ·obtain ⟨j, p, k1, k2, k3⟩ := h
    simp only [GH.new_get, GH.del_get, GH.del_next, gl.next] at k1
    split at k1
    ·rename_i ej; subst ej; rw [e1] at k3; cases k3; exact .inl ⟨id, _, hg, fun h => h, h1⟩
    ·split at k1
     ·cases k1
     ·rw [e3 j (gl.obj j p k1).1] at k3
      exact .inl ⟨j, p, k1, k2, k3⟩
   ·have hc : ok2.cap gh.next = ok.cap id := by rw [gl.next]; exact e2
    have := Rep.gs (ok := ok2) (w := w.setCells b (0 + l.length * (tyOf e).size) news) gh.next ((l ++ l2).length : Int) b (by rw [gl.next]; omega) (by rw [gl.next]; exact e1) (by omega) (by rw [hc]; simp; omega) (by rw [hc]; exact h5)
    rw [hc, Int.toNat_natCast, List.length_append] at this
    rw [List.length_append]
    exact this
  ·obtain ⟨olds, o1, o2, o3⟩ := h6.news
   have hrun := run_append_grow_src (P := P) w t t2 o.type e i zv (ty_slice hT hkt) hi hz (some ⟨b, 0, none⟩) l.length (ok.cap id) olds (by rw [hsz]; exact run_firstCells_some _ _ _ _ _ _ _ o1.1 (fun j u hu => by rw [add_plain]; exact o2 j u hu)) (a.eval x) l2.length news (by rw [hsz]; exact hsrc') (by omega) (by omega) (growslice_fits (by omega) (by rw [hby]; exact hroom))
   have c1 := grownCap_ge w (l.length + l2.length) (ok.cap id) e
   have c2 := grownCap_le_maxLen w (l.length + l2.length) (ok.cap id) e (by simp [maxLen]; omega)
   generalize grownCap w (l.length + l2.length) (ok.cap id) e = q at hrun c1 c2
   rw [← List.length_append] at hrun c1
   exact wrap (pack_toA (gl_grown hT gl1 hokb (o1.append hnews) hzs hsz hrun c1 c2 fun hr => .inl (exec_append hT ho hcb hat has hsv hr)))
end
end Go.Proofs.YthioccbgjkbmdaaGreat.AM
