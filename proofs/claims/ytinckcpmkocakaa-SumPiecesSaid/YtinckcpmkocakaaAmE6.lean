/-
  The abstract machine, part 20: boxes, rows, conversions, appends, calls; all operations.
-/
import Derived.Test.YtinckcpmkocakaaAmE5
set_option linter.unusedVariables false
set_option linter.unusedSimpArgs false
namespace Go.Proofs.Ytinckcpmkocakaa.AM
open Go Go.RowKit

/-- Slices of the call's own out of new rows. -/
theorem rowNews {ok : Oks} {w : World} {z : Nat} {l : List V} {cs : Array Value} (hz : ∀ i (h : i < l.length), (l[i]'h).flat.length = z)
    (hr : ∀ i (h : i < l.length) j (hj : j < (l[i]'h).flat.length), ((l[i]'h).flat[j]'hj).cell = true ∧ ∃ v, cs[i * z + j]? = some v ∧ Rep ok w ((l[i]'h).flat[j]'hj) v)
    {w' : World} {ok' : Oks} {b : Nat} {e : TypeId} (hs : Same ok ok' w w') (hh : w'.heap[b]? = some (.cells cs e)) : RowAt ok' w' b 0 z l :=
  ⟨hz, fun i hi j hj => (hr i hi j hj).1, fun i hi j hj => by
    obtain ⟨_, v, h1, h2⟩ := hr i hi j hj
    exact ⟨v, by rw [cell_of_heap hh, Nat.zero_add]; exact h1, h2.mono hs⟩⟩

theorem not_ok_new {ok : Oks} {w : World} (hb : ∀ b o, ok b o → b < w.heap.size) (o : Nat) : ¬ ok w.heap.size o := fun q => by have := hb _ _ q; omega

/-- Results of a call come to the state. -/
theorem add_res {G : Gh} {ok : Oks} {a : Act} {w : World} {B : Nat} (d : Nat) (hB : G.w0.heap.size ≤ B) : ∀ (rs : List Rs) (us : List Value) (gs : List (Option Nat)) (j : Nat) {S : St} {E : Env}, Conc G E ok S a w → us.length = rs.length → gs.length = rs.length →
    (∀ i (h : i < rs.length) (h' : i < us.length) (h'' : i < gs.length), RsRep B ok w (rs[i]'h) (us[i]'h') (gs[i]'h'')) → (∀ (i j b : Nat), gs[i]? = some (some b) → gs[j]? = some (some b) → i = j) → (∀ id o b, look S.ob id = some o → E.blk id = some b → b < B) →
    ∃ E', Conc G E' ok (addObs S (resObs d j rs)) a w ∧ (resDs d j rs).length = rs.length ∧ (∀ i (h : i < (resDs d j rs).length) (h' : i < us.length), RepD E' ok w ((resDs d j rs)[i]'h) (us[i]'h') ∧ ∀ k, k < 1000 + 8 * d + j → mentions k ((resDs d j rs)[i]'h) = false) ∧
      ∀ id o b, look (addObs S (resObs d j rs)).ob id = some o → E'.blk id = some b → b < B ∨ ∃ i : Nat, gs[i]? = some (some b)
  | [], us, gs, j, S, E, c, hu, hg, hr, hd, hlt => ⟨E, c, rfl, fun i h => by simp [resDs] at h, fun id o b h1 h2 => .inl (hlt id o b h1 h2)⟩
  | r :: rs, [], gs, j, S, E, c, hu, hg, hr, hd, hlt => by simp at hu
  | r :: rs, u :: us, [], j, S, E, c, hu, hg, hr, hd, hlt => by simp at hg
  | r :: rs, u :: us, g :: gs, j, S, E, c, hu, hg, hr, hd, hlt => by
    obtain ⟨E1, c1, l1, r1, o1⟩ := add_res d hB rs us gs (j + 1) c (by simpa using hu) (by simpa using hg) (fun i h h' h'' => by
      have := hr (i + 1) (by simpa using h) (by simpa using h') (by simpa using h''); simpa using this) (fun i k b h1 h2 => by
      have := hd (i + 1) (k + 1) b (by simpa using h1) (by simpa using h2); omega) hlt
    have h0 := hr 0 (by simp) (by simp) (by simp)
    simp only [List.getElem_cons_zero] at h0
    cases r with
    | v x =>
      obtain ⟨_, h0⟩ := h0
      refine ⟨E1, c1, by simp [resDs, l1], fun i h h' => ?_, fun id o b h1 h2 => ?_⟩
      · cases i with
        | zero => exact ⟨.v _ _ h0, fun k _ => rfl⟩
        | succ i =>
          simp only [resDs, List.getElem_cons_succ]
          obtain ⟨q1, q2⟩ := r1 i (by simpa [resDs] using h) (by simpa using h')
          exact ⟨q1, fun k hk => q2 k (by omega)⟩
      · rcases o1 id o b h1 h2 with q | ⟨i, q⟩
        · exact .inl q
        · exact .inr ⟨i + 1, by simpa using q⟩
    | o z l =>
      have key : ∀ (E2 : Env), (∀ k, k ≠ 1000 + 8 * d + j → E2.blk k = E1.blk k ∧ E2.hdr k = E1.hdr k) → E2.hdr (1000 + 8 * d + j) = u → E2.blk (1000 + 8 * d + j) = g → RowRep E2 ok w (1000 + 8 * d + j) z l true → (∀ b, g = some b → B ≤ b) →
          ∃ E', Conc G E' ok (addObs S (resObs d j (.o z l :: rs))) a w ∧ (resDs d j (.o z l :: rs)).length = (Rs.o z l :: rs).length ∧ (∀ i (h : i < (resDs d j (.o z l :: rs)).length) (h' : i < (u :: us).length), RepD E' ok w ((resDs d j (.o z l :: rs))[i]'h) ((u :: us)[i]'h') ∧ ∀ k, k < 1000 + 8 * d + j → mentions k ((resDs d j (.o z l :: rs))[i]'h) = false) ∧
            ∀ id o b, look (addObs S (resObs d j (.o z l :: rs))).ob id = some o → E'.blk id = some b → b < B ∨ ∃ i : Nat, (g :: gs)[i]? = some (some b) := by
        intro E2 he hh hb hrow hge
        have c2 := c1.add (E' := E2) (1000 + 8 * d + j) (.row z l true) he hrow (fun b hb' => by
          rw [hb] at hb'
          have hge' := hge b hb'
          refine ⟨fun k p hk hp hkb => ?_, .inl (by omega)⟩
          rcases o1 k p b hp hkb with q | ⟨i, q⟩
          · omega
          · have := hd 0 (i + 1) b (by simp [hb']) (by simpa using q); omega)
        refine ⟨E2, c2, by simp [resDs, l1], fun i h h' => ?_, fun id o b h1 h2 => ?_⟩
        · cases i with
          | zero =>
            simp only [resDs, List.getElem_cons_zero]
            have := RepD.own (E := E2) (ok := ok) (w := w) (1000 + 8 * d + j)
            rw [hh] at this
            exact ⟨this, fun k hk => by simp [mentions]; omega⟩
          | succ i =>
            simp only [resDs, List.getElem_cons_succ]
            obtain ⟨q1, q2⟩ := r1 i (by simpa [resDs] using h) (by simpa using h')
            exact ⟨q1.env he (q2 _ (by omega)), fun k hk => q2 k (by omega)⟩
        · by_cases hid : id = 1000 + 8 * d + j
          · subst hid
            rw [hb] at h2
            exact .inr ⟨0, by simp [h2]⟩
          · rw [(he id hid).1] at h2
            have h3 : ∃ o', look (addObs S (resObs d (j + 1) rs)).ob id = some o' := by
              have h4 : look (St.new (addObs S (resObs d (j + 1) rs)) (1000 + 8 * d + j) (.row z l true)).ob id = some o := h1
              simp only [St.new, look] at h4
              rw [if_neg (Ne.symm hid), look_kill, if_neg hid] at h4
              simp only [Option.map_eq_some_iff] at h4
              obtain ⟨o', h5, _⟩ := h4
              exact ⟨o', h5⟩
            obtain ⟨o', h3⟩ := h3
            rcases o1 id o' b h3 h2 with q | ⟨i, q⟩
            · exact .inl q
            · exact .inr ⟨i + 1, by simpa using q⟩
      rcases h0 with ⟨rfl, rfl, rfl⟩ | ⟨b, cap, cs, e, rfl, h2, rfl, h4, h5, h6, h7, h8, h9⟩
      · exact key (E1.set (1000 + 8 * d + j) none 0 0) (E1.set_ne _ _ _ _) (E1.set_hdr _ _ _ _) (E1.set_blk _ _ _ _) (.inl ⟨rfl, E1.set_blk _ _ _ _, E1.set_hdr _ _ _ _⟩) (fun b h => by cases h)
      · exact key (E1.set (1000 + 8 * d + j) (some b) l.length cap) (E1.set_ne _ _ _ _) (E1.set_hdr _ _ _ _) (E1.set_blk _ _ _ _) (.inr ⟨b, cap, cs, e, E1.set_blk _ _ _ _, E1.set_hdr _ _ _ _, h4, h5, h6, h7, h8, fun o => ⟨fun q => absurd q (h9 o), fun q => by simp at q⟩⟩) (fun b' h => by cases h; exact h2)

theorem resD_rep {E : Env} {ok : Oks} {w : World} {d : Nat} {rs : List Rs} {us : List Value} (hu : us.length = rs.length) (hl : (resDs d 0 rs).length = rs.length) (h : ∀ i (h : i < (resDs d 0 rs).length) (h' : i < us.length), RepD E ok w ((resDs d 0 rs)[i]'h) (us[i]'h')) : RepD E ok w (resD d rs) (retVal us) := by
  unfold resD
  generalize resDs d 0 rs = l at *
  match l, us, (by omega : us.length = l.length), h with
  | [r], [u], hu, h => exact h 0 (by simp) (by simp)
  | [], [], hu, h => exact RepD.tup (E := E) (ok := ok) (w := w) [] [] rfl (by simp)
  | r :: s :: t, u :: v :: x, hu, h => exact RepD.tup (E := E) (ok := ok) (w := w) (r :: s :: t) (u :: v :: x) (by simpa using hu) (fun i h1 h2 => h i h1 h2)
  | [], _ :: _, hu, _ => simp at hu
  | [_], [], hu, _ => simp at hu
  | [_], _ :: _ :: _, hu, _ => simp at hu
  | _ :: _ :: _, [], hu, _ => simp at hu
  | _ :: _ :: _, [_], hu, _ => simp at hu

section
variable {P : Program} {R : List (Nat × AObj) → List D → Prop} (hT : tableOf P = T)

/-- The lines that 'Conc' asks of an operation that yields a row. -/
theorem e_newSlice {G : Gh} {E : Env} {ok : Oks} {S : St} {a : Act} {w : World} (c : Conc G E ok S a w) {o : Oper} {d : Nat} (hd : o.dst = some d) {z n m : Nat} {l : List V} {cs : Array Value} {e : TypeId} (hrun : (execOp a.eval o).run P w = .ok (.value (.slice (some ⟨w.heap.size, 0, none⟩) n m)) (w.alloc (.cells cs e)))
    (hn : l.length = n) (hnm : n ≤ m) (hm : m ≤ maxLen) (hcs : cs.size = m * z) (hz : ∀ i (h : i < l.length), (l[i]'h).flat.length = z)
    (hr : ∀ i (h : i < l.length) j (hj : j < (l[i]'h).flat.length), ((l[i]'h).flat[j]'hj).cell = true ∧ ∃ v, cs[i * z + j]? = some v ∧ Rep ok w ((l[i]'h).flat[j]'hj) v)
    {K : St → Prop} (hK : K ((S.new d (.row z l true)).put (some d) (.own d))) (Q : Exit → Act → World → Prop) : o.wp P a w (fun a' w' => After G K a' w') Q := by
  have g := Grow.alloc w ok (.cells cs e) 0
  refine wp_value hrun ?_
  have := (c.newRow d o.dst hd (z := z) (n := n) (cap := m) (l := l) (ex := true) g (fun o' => by
    have hno := not_ok_new c.okb o'
    simp [okAdd, hno]) (heap_alloc_new w _) hn hcs hnm hm (rowNews hz hr (g.same c.okb) (heap_alloc_new w _))).1
  rw [hd] at this ⊢
  exact ⟨_, _, _, hK, this⟩

theorem e_box {G : Gh} {E : Env} {ok : Oks} {S : St} {a : Act} {w : World} (c : Conc G E ok S a w) {o : Oper} {t : Nat} {x : Operand} (ho : o.op = .box t x) {d : Nat} (hd : o.dst = some d) {K : St → Prop} (Q : Exit → Act → World → Prop)
    (h : (∃ l, S.ev x = .v (.agg l) ∧ l.length ≤ 1000000 ∧ K ((S.new d (.row 1 l true)).put (some d) (.ptr d 0))) ∨ ∃ l, cellsD (S.ev x) = some l ∧ K ((S.new d (.box l)).put (some d) (.ptr d 0))) : o.wp P a w (fun a' w' => After G K a' w') Q := by
  have hx := ev_rep c x
  refine wp_value (v := .pointer (some ⟨w.heap.size, 0, none⟩)) (w' := w.alloc (.cells (a.eval x).cells t)) (by simp [execOp, ho, Instr.box, newVar, newRow, newObj, Sem.run]) ?_
  rcases h with ⟨l, h1, h2, h⟩ | ⟨l, h1, h⟩
  · have g := Grow.alloc w ok (.cells (a.eval x).cells t) 0
    rw [h1] at hx
    obtain ⟨cs, hev, hlen, hcell, hrep⟩ := rep_agg (repD_v hx)
    have hsz : (a.eval x).cells.size = l.length := by rw [hev]; simpa [Value.cells] using hlen
    have hrow : ∀ i (h : i < l.length) j (hj : j < (l[i]'h).flat.length), ((l[i]'h).flat[j]'hj).cell = true ∧ ∃ v, (a.eval x).cells[i * 1 + j]? = some v ∧ Rep ok w ((l[i]'h).flat[j]'hj) v := by
      intro i hi j hj
      have hf := cell_flat (hcell i hi)
      have hj0 : j = 0 := by rw [hf] at hj; simpa using hj
      subst hj0
      have hi' : i < cs.length := by omega
      refine ⟨by simpa [hf] using hcell i hi, cs[i]'hi', ?_, by simpa [hf] using hrep i hi hi'⟩
      rw [hev, show i * 1 + 0 = i from by omega]
      simp [Value.cells, hi']
    have := (c.newRow d o.dst hd (z := 1) (n := l.length) (cap := l.length) (l := l) (ex := true) g (fun o' => by
      have hno := not_ok_new c.okb o'
      simp [okAdd, hno]) (heap_alloc_new w _) rfl (by omega) (Nat.le_refl _) (by simp [maxLen]; omega) (rowNews (fun i hi => by rw [cell_flat (hcell i hi)]; rfl) hrow (g.same c.okb) (heap_alloc_new w _))).2
    rw [hd] at this ⊢
    exact ⟨_, _, _, h, this⟩
  · obtain ⟨q1, q2, q3⟩ := cellsD_rep h1 hx
    have q1' : (a.eval x).cells.size = l.length := by simpa using q1
    obtain ⟨E', hc⟩ := c.newBox d o.dst l (a.eval x).cells t q1' (fun j hj => by
      have hj' : j < (a.eval x).cells.toList.length := by omega
      refine ⟨(a.eval x).cells[j]'(by simpa using hj'), Array.getElem?_eq_getElem _, q2 _ (by simp), ?_⟩
      have := q3 j hj hj'
      simpa using this)
    rw [hd] at hc ⊢
    exact ⟨_, _, _, h, hc⟩

theorem run_markStringish (w : World) (b : Nat) {cs : Array Value} {e : TypeId} (h : w.heap[b]? = some (.cells cs e)) : ∃ w', (markStringish ⟨b, 0, none⟩).run P w = .ok () w' ∧ (∃ fr, w'.heap[b]? = some (.cells cs e fr)) ∧ (∀ k, k ≠ b → w'.heap[k]? = w.heap[k]?) ∧
    w'.os = w.os ∧ w'.tape = w.tape ∧ w'.output = w.output ∧ w'.heap.size = w.heap.size := by
  refine ⟨w.freeze ⟨b, cs.size, none⟩ 1, ?_, ?_, fun k hk => ?_, ?_, ?_, ?_, ?_⟩
  · simp [markStringish, World.shape?, h]
  · simp [World.freeze, Array.getElem?_modify, h]
  · simp only [World.freeze, Nat.one_ne_zero, if_false, Array.getElem?_modify]
    rw [if_neg (Ne.symm hk)]
  all_goals simp [World.freeze]

include hT
theorem e_conv {G : Gh} {E : Env} {ok : Oks} {S : St} {a : Act} {w : World} (c : Conc G E ok S a w) {o : Oper} {s d e : Nat} {x : Operand} (ho : o.op = .convert s d x) (hsd : s = d) (hk : (tyOf s).k = .slice e) (he : (tyOf e).k = .int .u8) {id : Nat} (hx : S.ev x = .own id) {y : V} {l : List V} {ex : Bool} (hob : look S.ob id = some (.row 1 (y :: l) ex))
    {K : St → Prop} (hK : K (({ S with ob := remOb id S.ob } : St).put o.dst (.v (.slice (y :: l))))) (Q : Exit → Act → World → Prop) : o.wp P a w (fun a' w' => After G K a' w') Q := by
  subst hsd
  have hev := ev_rep c x
  rw [hx] at hev
  have hev := repD_own hev
  rcases c.obj _ _ hob with ⟨h1, _, _⟩ | ⟨b, cap, cs, e', h1, h2, h3, h4, h5, h6, h7, h8⟩
  · cases h1
  rw [h2] at hev
  obtain ⟨w', g1, ⟨fr, g2⟩, g3, g4, g5, g6, g7⟩ := run_markStringish (P := P) w b h3
  have hcell : ∀ b' o', w'.cell? ⟨b', o', none⟩ = w.cell? ⟨b', o', none⟩ := by
    intro b' o'
    by_cases hb : b' = b
    · subst hb; rw [cell_of_heap g2, cell_of_heap h3]
    · simp only [World.cell?, g3 b' hb]
  have hs : Same ok (okAdd ok b ((y :: l).length * 1)) w w' := ⟨fun _ _ q => .inl q, fun b' o' _ => hcell b' o'⟩
  refine wp_value (v := a.eval x) (w' := w') ?_ ?_
  · simp only [execOp, ho, hev, convert, Sem.run_bind, run_underlying (ty_slice hT hk), run_underlying (ty_int hT he), Result.andThen_ok, beq_self_eq_true, g1, Sem.run_pure]
  · have c1 := (c.rem id).step (w' := w') (ok' := okAdd ok b ((y :: l).length * 1)) {
      same := hs
      blocks := fun j p b' hj hb' => by
        have hne : b' ≠ b := fun q => by
          subst q
          simp only [look_remOb] at hj
          split at hj
          · cases hj
          · rename_i hne
            exact c.apart j id p _ b' hj hob hne hb' h1
        exact ⟨g3 b' hne, fun o' q => by
          rcases q with q | ⟨q, _⟩
          · exact q
          · exact absurd q hne⟩
      okb := fun b' o' q => by
        rw [g7]
        rcases q with q | ⟨rfl, _⟩
        · exact c.okb _ _ q
        · exact heap_lt h3
      newk := fun b' o' q => q.imp (fun h => h) fun ⟨hb', _⟩ => by subst hb'; exact c.reg id _ _ hob h1
      os := g4, tape := g5, output := g6, size := by rw [g7]; exact Nat.le_refl _
      old := fun k q1 q2 => g3 k (fun q => by
        subst q
        rcases c.reg id _ _ hob h1 with q3 | q3
        · omega
        · exact q2 q3) }
    refine ⟨E, _, _, hK, c1.put o.dst (.v _ _ ?_)⟩
    rw [hev]
    exact rep_row (h7.mono hs fun i _ => hcell _ _) (fun j hj => .inr ⟨rfl, by omega⟩) h5 h6

theorem e_append_nil {G : Gh} {E : Env} {ok : Oks} {S : St} {a : Act} {w : World} (c : Conc G E ok S a w) {o : Oper} {cl : Call} (ho : o.op = .call cl) (hcb : cl.callee = .builtin .append) {t t2 e d : Nat} (hat : cl.argTypes = #[t, t2]) {s x : Operand} (has : cl.args = #[s, x]) (hd : o.dst = some d) (hk : (tyOf t).k = .slice e) (hkn : known (tyOf e).k = true) (hz0 : 0 < (tyOf e).size)
    (hs : a.eval s = .slice none 0 0) {l2 : List V} {news : List Value} (hsrc : Src P (tyOf e).size t2 (a.eval x) l2.length news w) (hnews : News ok w (tyOf e).size l2 news) (hroom : l2.length * (tyOf e).bytes ≤ 140737488355328) (hb0 : 0 < (tyOf e).bytes) {K : St → Prop} {ex : Bool}
    (hK : K ((S.new d (.row (tyOf e).size l2 ex)).put (some d) (.own d))) (Q : Exit → Act → World → Prop) : o.wp P a w (fun a' w' => After G K a' w') Q := by
  have hexec : ∀ {v w'}, (Builtin.append_ #[t, t2] o.type #[.slice none 0 0, a.eval x]).run P w = .ok v w' → (execOp a.eval o).run P w = .ok (.value v) w' := by
    intro v w' hr
    simp only [execOp, ho, resolve, hcb, Sem.run_bind, Sem.run_pure, Result.andThen_ok, invoke, builtin, has, hat]
    simp [hs, hr]
  by_cases h0 : l2 = []
  · subst h0
    have hn0 : news = [] := List.eq_nil_of_length_eq_zero (by simpa using hnews.1)
    subst hn0
    obtain ⟨i, zv, hi, hz, hsz, _⟩ := ty_info hT (t := e) (known_ne' hkn)
    have hrun := run_append_nothing (P := P) w t t2 o.type e i (ty_slice hT hk) hi none 0 0 (Nat.le_refl _) (a.eval x) (by rw [hsz]; exact hsrc)
    refine wp_value (hexec hrun) ?_
    have c2 := c.add (E' := E.set d none 0 0) d (.row (tyOf e).size [] ex) (E.set_ne _ _ _ _) (.inl ⟨rfl, E.set_blk _ _ _ _, E.set_hdr _ _ _ _⟩) (fun b hb => by rw [E.set_blk] at hb; cases hb)
    have c3 := c2.put (v := .slice none 0 0) (d := .own d) o.dst ?_
    · rw [hd] at c3 ⊢
      exact ⟨_, _, _, hK, c3⟩
    have h1 := RepD.own (E := E.set d none 0 0) (ok := ok) (w := w) d
    rw [E.set_hdr] at h1
    exact h1
  · have hpos : 0 < l2.length := List.length_pos_iff.2 h0
    obtain ⟨v, w', hrun, E', ok', hc⟩ := append_grow hT c hd hk hkn hz0 (base := none) (n := 0) (cap := 0) (l := []) (ex := ex) (olds := []) rfl rfl hsrc hnews (News.nil _ _ _) (run_firstCells_none _ _ _ _ _) (by omega) (by simpa using hroom) hb0
    refine wp_value (hexec hrun) ⟨E', ok', _, hK, ?_⟩
    rw [hd] at hc ⊢
    exact hc

theorem e_append_own {G : Gh} {E : Env} {ok : Oks} {S : St} {a : Act} {w : World} (c : Conc G E ok S a w) {o : Oper} {cl : Call} (ho : o.op = .call cl) (hcb : cl.callee = .builtin .append) {t t2 e d : Nat} (hat : cl.argTypes = #[t, t2]) {s x : Operand} (has : cl.args = #[s, x]) (hd : o.dst = some d) (hk : (tyOf t).k = .slice e) (hkn : known (tyOf e).k = true) (hz0 : 0 < (tyOf e).size)
    {id : Nat} {l : List V} {ex : Bool} (hs : S.ev s = .own id) (hob : look S.ob id = some (.row (tyOf e).size l ex)) {l2 : List V} {news : List Value} (hsrc : Src P (tyOf e).size t2 (a.eval x) l2.length news w) (hnews : News ok w (tyOf e).size l2 news) (hroom : (l.length + l2.length) * (tyOf e).bytes ≤ 140737488355328) (hb0 : 0 < (tyOf e).bytes) {K : St → Prop}
    (hK : K ((({ S with ob := remOb id S.ob } : St).new d (.row (tyOf e).size (l ++ l2) ex)).put (some d) (.own d))) (Q : Exit → Act → World → Prop) : o.wp P a w (fun a' w' => After G K a' w') Q := by
  have hev := ev_rep c s
  rw [hs] at hev
  have hev := repD_own hev
  rcases c.obj _ _ hob with ⟨h1, h2, h3⟩ | ⟨b, cap, cs, e', h1, h2, h3, h4, h5, h6, h7, h8⟩
  · subst h1
    exact e_append_nil hT (c.rem id) ho hcb hat has hd hk hkn hz0 (by rw [hev, h3]) hsrc hnews (by simpa using hroom) hb0 hK Q
  · rw [h2] at hev
    have hexec : ∀ {v w'}, (Builtin.append_ #[t, t2] o.type #[.slice (some ⟨b, 0, none⟩) l.length cap, a.eval x]).run P w = .ok v w' → (execOp a.eval o).run P w = .ok (.value v) w' := by
      intro v w' hr
      simp only [execOp, ho, resolve, hcb, Sem.run_bind, Sem.run_pure, Result.andThen_ok, invoke, builtin, has, hat]
      simp [hev, hr]
    by_cases hfit : l.length + l2.length ≤ cap
    · obtain ⟨v, w', hrun, E', ok', hc⟩ := append_room hT c hd hk hkn hz0 hob h1 h2 h3 h4 h6 h7 h8 rfl rfl hsrc hnews hfit
      refine wp_value (hexec hrun) ⟨E', ok', _, hK, ?_⟩
      rw [hd] at hc ⊢
      exact hc
    · obtain ⟨olds, n1, n2, n3⟩ := h7.news
      obtain ⟨v, w', hrun, E', ok', hc⟩ := append_grow hT (c.rem id) hd hk hkn hz0 (base := some ⟨b, 0, none⟩) (n := l.length) (cap := cap) (l := l) (ex := ex) (olds := olds) rfl rfl hsrc hnews n1 (run_firstCells_some _ _ _ _ _ _ _ n1.1 (fun j u hu => by rw [add_plain]; exact n2 j u hu)) (by omega) hroom hb0
      refine wp_value (hexec hrun) ⟨E', ok', _, hK, ?_⟩
      rw [hd] at hc ⊢
      exact hc
end
end Go.Proofs.Ytinckcpmkocakaa.AM
