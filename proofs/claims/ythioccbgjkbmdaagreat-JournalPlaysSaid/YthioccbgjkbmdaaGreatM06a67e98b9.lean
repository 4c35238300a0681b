/-
 The abstract machine, part 14: conversions, calls; every quiet operation does what 'qWp' says.
-/
import Derived.Test.YthioccbgjkbmdaaGreatM05bc25095a
set_option linter.unusedVariables false
set_option linter.unusedSimpArgs false
namespace Go.Proofs.YthioccbgjkbmdaaGreat.AM
open Go Go.RowKit
theorem bytesV_get {s : List UInt8} {i : Nat} (h : i < (bytesV s).length) : (bytesV s)[i]'h = .int .u8 (s[i]'(by simpa [bytesV] using h)).toNat := by simp [bytesV]
section
variable {P : Program} {R : List (Nat × AObj) → List D → Prop}
theorem conv_s2b (hT : tableOf P = T) {s d e : Nat} (hs : (tyOf s).k = .str) (hd : (tyOf d).k = .slice e) (he : (tyOf e).k = .int .u8) (l : List UInt8) (hl : l.length ≤ 9223372036854775807) (ok : Oks) (w : World) (hb : ∀ b o, ok b o → b < w.heap.size) :
  ∃ v w' ok', (convert s d (.string ⟨l.toArray⟩)).run P w = .ok v w' ∧ Grow w ok w' ok' ∧ Rep ok' w' (.slice (bytesV l)) v := by
 have h1 := ty_str hT hs
 have h2 := ty_slice hT hd
 have h3 := ty_int hT he
 have hrun := Lib.run_convert_string_bytes (P := P) w s d e ⟨l.toArray⟩ h1 h2 h3
 rw [size_mk] at hrun
 have hg : Grow w ok (Lib.bytesWorld w e ⟨l.toArray⟩) (okAdd ok w.heap.size l.length) := by
  refine ⟨⟨rfl, rfl, rfl, by rw [Lib.bytesWorld_size]; omega, fun k hk => Lib.bytesWorld_at_old _ _ _ _ hk⟩, fun _ _ h => .inl h, fun b o h => ?_, ⟨rfl, rfl, rfl⟩⟩
  rcases h with h | ⟨rfl, _⟩
  ·exact .inl h
  ·exact .inr ⟨Nat.le_refl _, by rw [Lib.bytesWorld_size]; omega⟩
 have hlen : (bytesV l).length = l.length := by simp [bytesV]
 have c1 := grownCap_ge w l.length 0 e
 have c2 := grownCap_le_maxLen w l.length 0 e (by simp [maxLen]; omega)
 generalize grownCap w l.length 0 e = c at hrun c1 c2
 refine ⟨_, _, _, hrun, hg, ?_⟩
 have hrow : RowAt (okAdd ok w.heap.size l.length) (Lib.bytesWorld w e ⟨l.toArray⟩) w.heap.size 0 1 (bytesV l) := by
  refine ⟨fun i hi => by rw [bytesV_get]; rfl, fun i hi j hj => ?_, fun i hi j hj => ?_⟩
  ·rw [bytesV_get] at hj
   simp [V.flat] at hj; subst hj
   simp only [bytesV_get]; rfl
  ·rw [bytesV_get] at hj
   simp [V.flat] at hj; subst hj
   simp only [bytesV_get]
   refine ⟨.int .u8 (l[i]'(by omega)).toNat, ?_, .int _ _⟩
   have := Lib.bytesWorld_cell w e ⟨l.toArray⟩ i (by rw [size_mk]; omega)
   rw [show 0 + (i * 1 + 0) = i from by omega, this]
   simp [List.getD, show i < l.length from by omega]
 have := rep_row hrow (fun j hj => .inr ⟨rfl, by omega⟩) (cap := c) (by omega) c2
 rwa [hlen] at this
theorem convD_sound (hT : tableOf P = T) (s d : Nat) (ek : TK) (hek : ∀ e, ((tyOf s).k = .slice e ∨ (tyOf d).k = .slice e) → ek = (tyOf e).k) (ob : List (Nat × AObj)) (ρ : Operand → D) (x : Operand) (K : D → Prop)
  (h : convD (std P R) (tyOf s).k (tyOf d).k ek false ob (ρ x) K) : ∃ r, K r ∧ Comes' P ob ρ (.convert s d x) r := by
 have mem : x ∈ (Op.convert s d x).operands.toList := by simp [Op.operands]
 have ex : ∀ (a : Act) (o : Oper), o.op = .convert s d x → execOp a.eval o = (do pure (.value (← convert s d (a.eval x)))) := fun a o ho => by simp only [execOp, ho]
 unfold convD at h
 split at h
 ·rename_i k k2 n hs hd hx
  refine ⟨_, h, fun E ok w a o ho hq => ?_⟩
  have e1 := repD_int (hx ▸ hq.opr x mem)
  refine does_v (ex a o ho) (v := .int k (k.wrap n)) ?_ (.v _ _ (.int _ _))
  rw [e1]; simp [convert, run_underlying (ty_int hT hs), run_underlying (ty_int hT hd), Conv.intToInt]
 ·rename_i b hs hd hx
  refine ⟨_, h, fun E ok w a o ho hq => ?_⟩
  have e1 := repD_str (hx ▸ hq.opr x mem)
  refine does_v (ex a o ho) (v := .string ⟨b.toArray⟩) ?_ (.v _ _ (.str _))
  rw [e1]; simp [convert, run_underlying (ty_str hT hs), run_underlying (ty_str hT hd)]
 ·rename_i e b hs hd hx
  split at h
  ·rename_i hk
   obtain ⟨hl, h⟩ := h
   refine ⟨_, h, fun E ok w a o ho hq => ?_⟩
   have e1 := repD_str (hx ▸ hq.opr x mem)
   have hk' := hek e (.inr hd)
   obtain ⟨v, w', ok', g1, g2, g3⟩ := conv_s2b hT hs hd hk'.symm b (by simpa using hl) ok w hq.okb
   refine does_grow (v := v) ?_ g2 (.v _ _ g3)
   rw [ex a o ho, e1]
   simp [g1]
  ·exact h.elim
 ·rename_i e hs hd
  split at h
  ·rename_i hk
   have hk' := hek e (.inl hs)
   have he : (tyOf e).k = .int .u8 := hk'.symm
   have key : ∀ (b : List UInt8) (E : Env) (ok : Oks) (w : World) (a : Act) (o : Oper), o.op = .convert s d x → ∀ (ad : Option Addr) (c : Nat), a.eval x = .slice ad (bytesV b).length c → (0 < (bytesV b).length → ∃ bk off z, ad = some ⟨bk, off, none⟩ ∧ RowAt ok w bk off z (bytesV b)) → (ad = none → bytesV b = []) →
     Does P E o a w ok (.v (.str b)) := by
    intro b E ok w a o ho ad c he' hrow hnil
    have hlen : (bytesV b).length = b.length := by simp [bytesV]
    rw [hlen] at he'
    refine does_v (ex a o ho) (v := .string ⟨b.toArray⟩) ?_ (.v _ _ (.str _))
    rw [he']
    cases ad with
    | none =>
     have := hnil rfl
     have hb : b = [] := List.eq_nil_of_length_eq_zero (by rw [← hlen, this]; rfl)
     subst hb
     have := run_convert_bytes_nil (P := P) w s e (ty_slice hT hs) (ty_int hT he) 0 c d (ty_str hT hd)
     exact this
    | some ad =>
     refine run_convert_bytes_back w s d e ad c b (ty_slice hT hs) (ty_int hT he) (ty_str hT hd) (fun j hj => ?_)
     obtain ⟨bk, off, z, q, hr⟩ := hrow (by omega)
     cases q
     have hz := hr.hz j (by omega)
     rw [bytesV_get] at hz
     obtain ⟨u, hu, hv⟩ := hr.hr j (by omega) 0 (by rw [bytesV_get]; simp [V.flat])
     have hv' : Rep ok w (.int .u8 (b[j]'hj).toNat) u := by
      have : ((bytesV b)[j]'(by omega)).flat[0]'(by rw [bytesV_get]; simp [V.flat]) = .int .u8 (b[j]'hj).toNat := by
       simp only [bytesV_get]; rfl
      rwa [this] at hv
     rw [add_plain, ← rep_int hv', ← hu]
     simp [V.flat] at hz
     congr 2
     rw [← hz]; omega
   split at h
   ·rename_i l hx'
    obtain ⟨b, rfl, h⟩ := h
    refine ⟨_, h, fun E ok w a o ho hq => ?_⟩
    obtain ⟨ad, c, g1, g2, g3, z, _, _, g4⟩ := slice_row (repD_v (hx' ▸ hq.opr x mem))
    refine key b E ok w a o ho ad c g1 (fun hp => ?_) (fun hn => ?_)
    ·obtain ⟨bk, off, q1, q2, _⟩ := g4 hp
     exact ⟨bk, off, z, q1, q2⟩
    ·subst hn
     refine List.eq_nil_of_length_eq_zero ?_
     rcases Nat.eq_zero_or_pos (bytesV b).length with q | q
     ·exact q
     ·obtain ⟨_, _, q, _⟩ := g4 q; cases q
   ·rename_i hx'
    refine ⟨_, h, fun E ok w a o ho hq => ?_⟩
    have e1 : a.eval x = .slice none 0 0 := repD_nils (hx' ▸ hq.opr x mem)
    exact key [] E ok w a o ho none 0 e1 (by simp [bytesV]) (fun _ => rfl)
   ·rename_i id hx'
    split at h
    ·rename_i z l e' hrow
     obtain ⟨b, rfl, h⟩ := h
     refine ⟨_, h, fun E ok w a o ho hq => ?_⟩
     have e1 : a.eval x = E.hdr id := repD_own (hx' ▸ hq.opr x mem)
     rcases hq.obj _ _ (rowOf_some hrow) with ⟨q1, q2, q3⟩ | ⟨bk, cap, cs, e'', q1, q2, q3, q4, q5, q6, q7, q8⟩
     ·exact key b E ok w a o ho none 0 (by rw [e1, q3, q1]; rfl) (fun hp => by rw [q1] at hp; simp at hp) (fun _ => q1)
     ·exact key b E ok w a o ho _ cap (by rw [e1, q2]) (fun _ => ⟨bk, 0, z, rfl, q7⟩) (fun q => by cases q)
    ·exact h.elim
   ·exact h.elim
  ·exact h.elim
 ·exact h.elim
theorem calleeD_some {E : Env} {ok : Oks} {w : World} {d : D} {g : Nat} {fst cap : List D} {u : Value} (h : calleeD d = some (g, fst, cap)) (r : RepD E ok w d u) : ∃ fs cs : List Value, u = .func (.func g) fs.toArray cs.toArray ∧ fs.length = fst.length ∧ (∀ i (h : i < fst.length) (h' : i < fs.length), RepD E ok w (fst[i]'h) (fs[i]'h')) ∧ cs.length = cap.length ∧ ∀ i (h : i < cap.length) (h' : i < cs.length), RepD E ok w (cap[i]'h) (cs[i]'h') := by
 unfold calleeD at h
 split at h
 ·simp at h; obtain ⟨rfl, rfl, rfl⟩ := h
  obtain ⟨cs, h1, h2, h3⟩ := repD_fn r
  exact ⟨[], cs, h1, rfl, by simp, h2, h3⟩
 ·simp at h; obtain ⟨rfl, rfl, rfl⟩ := h
  obtain ⟨cs, h1, h2, h3⟩ := rep_clo (repD_v r)
  exact ⟨[], cs, h1, rfl, by simp, by simpa using h2, fun i h h' => by simp only [List.getElem_map]; exact .v _ _ (h3 i (by simpa using h) h')⟩
 ·simp at h; obtain ⟨rfl, rfl, rfl⟩ := h
  obtain ⟨cs, h1, h2, h3⟩ := rep_mth (repD_v r)
  exact ⟨cs, [], h1, by simpa using h2, fun i h h' => by simp only [List.getElem_map]; exact .v _ _ (h3 i (by simpa using h) h'), rfl, by simp⟩
 ·simp at h
theorem freeze_res {B : Nat} {ok0 ok : Oks} {w0 w : World} {rs : List Rs} {us : List Value} {gs : List (Option Nat)} (hB : B = w0.heap.size) (hlt : ∀ b o, ok b o → ok0 b o ∨ (w0.heap.size ≤ b ∧ b < w.heap.size))
  (hu : us.length = rs.length) (hg : gs.length = rs.length) (h : ∀ i (h : i < rs.length) (h' : i < us.length) (h'' : i < gs.length), RsRep B ok w (rs[i]'h) (us[i]'h') (gs[i]'h'')) :
  ∃ ok' : Oks, (∀ b o, ok b o → ok' b o) ∧ (∀ b o, ok' b o → ok0 b o ∨ (w0.heap.size ≤ b ∧ b < w.heap.size)) ∧ (∀ i (h : i < rs.length) (h' : i < us.length), Rep ok' w (frozenRs (rs[i]'h)) (us[i]'h')) ∧ EnvEq ok ok' := by
 refine ⟨{ ok with ok := fun b o => ok b o ∨ ∃ (i z : Nat) (l : List V), gs[i]? = some (some b) ∧ rs[i]? = some (Rs.o z l) ∧ o < l.length * z }, fun _ _ h => .inl h, fun b o q => ?_, fun i hi hi' => ?_, ⟨rfl, rfl, rfl⟩⟩
 ·rcases q with q | ⟨i, z, l, q1, q2, q3⟩
  ·exact hlt b o q
  ·obtain ⟨q4, q5⟩ := List.getElem?_eq_some_iff.1 q1
   obtain ⟨q6, q7⟩ := List.getElem?_eq_some_iff.1 q2
   have := h i q6 (by omega) q4
   rw [q5, q7] at this
   rcases this with ⟨_, q8, _⟩ | ⟨b', cap, cs, e, q8, q9, _, q10, _⟩
   ·cases q8
   ·cases q8
    exact .inr ⟨by omega, heap_lt q10⟩
 ·have hi'' : i < gs.length := by omega
  have h0 := h i hi hi' hi''
  have hs : Same ok { ok with ok := fun b o => ok b o ∨ ∃ (i z : Nat) (l : List V), gs[i]? = some (some b) ∧ rs[i]? = some (Rs.o z l) ∧ o < l.length * z } w w := ⟨fun _ _ h => .inl h, fun _ _ _ => rfl, ⟨Nat.le_refl _, fun _ _ => rfl, fun _ _ => rfl⟩⟩
  cases hrs : rs[i]'hi with
  | v x => rw [hrs] at h0; exact h0.2.mono hs
  | o z l =>
   rw [hrs] at h0
   rcases h0 with ⟨rfl, _, hu0⟩ | ⟨b, cap, cs, e, h1, h2, hu0, h4, h5, h6, h7, h8, h9⟩
   ·rw [hu0]; exact rep_nil_slice _ _
   ·rw [hu0]
    refine rep_row (h8.mono hs fun _ _ => rfl) (fun j hj => .inr ⟨i, z, l, by rw [List.getElem?_eq_getElem hi'', h1], by rw [List.getElem?_eq_getElem hi, hrs], by omega⟩) h6 h7
theorem resV_rep {E : Env} {ok : Oks} {w : World} {rs : List Rs} {us : List Value} (hu : us.length = rs.length) (h : ∀ i (h : i < rs.length) (h' : i < us.length), Rep ok w (frozenRs (rs[i]'h)) (us[i]'h')) : RepD E ok w (resV rs) (retVal us) := by
 match rs, us, hu, h with
 | [r], [u], hu, h => exact .v _ _ (h 0 (by simp) (by simp))
 | [], [], hu, h => exact RepD.tup (E := E) (ok := ok) (w := w) [] [] rfl (by simp)
 | r :: s :: t, u :: v :: x, hu, h =>
  refine RepD.tup (E := E) (ok := ok) (w := w) ((r :: s :: t).map fun r => .v (frozenRs r)) (u :: v :: x) (by simpa using hu) (fun i h1 h2 => ?_)
  simp only [List.getElem_map]
  exact .v _ _ (h i (by simpa using h1) h2)
 | [], _ :: _, hu, _ => simp at hu
 | [_], [], hu, _ => simp at hu
 | [_], _ :: _ :: _, hu, _ => simp at hu
 | _ :: _ :: _, [], hu, _ => simp at hu
 | _ :: _ :: _, [_], hu, _ => simp at hu
theorem call_does {g : Nat} {xs : List V} {rs : List Rs} (hf : FnR P g xs rs) {ok : Oks} {w : World} {a : Act} {o : Oper} {c : Call} {f : Operand} (ho : o.op = .call c) (hc : c.callee = .value f) {cs : List Value}
  {fs : List Value} (hfv : a.eval f = .func (.func g) fs.toArray cs.toArray) (hrep : ∀ i (h : i < xs.length) (h' : i < (fs ++ c.args.toList.map a.eval ++ cs).length), Rep ok w (xs[i]'h) ((fs ++ c.args.toList.map a.eval ++ cs)[i]'h')) (hlen : (fs ++ c.args.toList.map a.eval ++ cs).length = xs.length) (hb : ∀ b o, ok b o → b < w.heap.size)
  (next : Act → World → Prop) (Q : Exit → Act → World → Prop)
  (hn : ∀ (us : List Value) (gs : List (Option Nat)) (w' : World) (ok' : Oks), Grow w ok w' ok' → us.length = rs.length → gs.length = rs.length → (∀ i (h : i < rs.length) (h' : i < us.length) (h'' : i < gs.length), RsRep w.heap.size ok' w' (rs[i]'h) (us[i]'h') (gs[i]'h'')) → (∀ (i j b : Nat), gs[i]? = some (some b) → gs[j]? = some (some b) → i = j) → next (a.put o.dst (retVal us)) w') :
  o.wp P a w next Q := by
 obtain ⟨⟨fn, h1, h2, h3⟩, hf⟩ := hf
 have hargs : fs.toArray ++ c.args.map a.eval ++ cs.toArray = (fs ++ c.args.toList.map a.eval ++ cs).toArray := by apply Array.ext'; simp
 have hrun : (execOp a.eval o).run P w = .ok (.enter g (fs ++ c.args.toList.map a.eval ++ cs).toArray) w := by
  simp only [execOp, ho, resolve, hc, hfv, Deferred.ofValue, Sem.run_bind, Sem.run_pure, Result.andThen_ok, invoke, callFunc, program, Sem.run, h1, hargs]
  cases hb : fn.body with
  | none => rw [hb] at h2; simp at h2
  | some b => simp [h3]
 unfold Oper.wp
 rw [hrun, Oper.upon_enter]
 refine (hf w ok _ hb hlen hrep).mono fun e w' ⟨us, gs, ok', he, q1, q2, qe, q3, q4, q5, q6, q7⟩ => ?_
 subst he
 exact hn us gs w' ok' ⟨q1, q2, q3, qe⟩ q4 q5 q6 q7
theorem toVa_sound {E : Env} {ok : Oks} {w : World} {ob : List (Nat × AObj)} (ho : ∀ id o, look ob id = some o → ObjRep E ok w id o) {d : D} {x : V} {u : Value} (h : toVa ob d = some x) (r : RepD E ok w d u) : Rep ok w x u := by
 unfold toVa at h
 split at h
 ·cases h; cases r; exact .nils
 ·exact toV_sound ho _ _ _ h r
theorem toVas_sound {E : Env} {ok : Oks} {w : World} {ob : List (Nat × AObj)} (ho : ∀ id o, look ob id = some o → ObjRep E ok w id o) : ∀ (l : List D) (xs : List V) (cs : List Value), toVas ob l = some xs → cs.length = l.length →
  (∀ i (h : i < l.length) (h' : i < cs.length), RepD E ok w (l[i]'h) (cs[i]'h')) → xs.length = l.length ∧ ∀ i (h : i < xs.length) (h' : i < cs.length), Rep ok w (xs[i]'h) (cs[i]'h')
 | [], xs, cs, h, hl, hr => by simp [toVas] at h; subst h; simp
 | d :: r, xs, [], h, hl, hr => by simp at hl
 | d :: r, xs, c :: cs, h, hl, hr => by
  unfold toVas at h
  split at h
  ·rename_i x hx
   split at h
   ·rename_i ys hy
    simp at h; subst h
    have h0 := toVa_sound ho hx (hr 0 (by simp) (by simp))
    obtain ⟨h1, h2⟩ := toVas_sound ho r ys cs hy (by simpa using hl) (fun i hi hi' => hr (i + 1) (by simp; omega) (by simp; omega))
    refine ⟨by simp [h1], fun i hi hi' => ?_⟩
    cases i with
    | zero => simpa using h0
    | succ i => simpa using h2 i (by simpa using hi) (by simpa using hi')
   ·simp at h
  ·simp at h
theorem toVg_sound {E : Env} {ok : Oks} {w : World} {ob : List (Nat × AObj)} (ho : ∀ id o, look ob id = some o → ObjRep E ok w id o) {d : D} {x : V} {u : Value} (h : toVg ob d = some x) (r : RepD E ok w d u) : Rep ok w x u := by
 unfold toVg at h
 split at h
 ·rename_i l
  split at h
  ·rename_i xs hx
   simp at h; subst h
   cases r with
   | agg _ cs hl hcell hr =>
    obtain ⟨h1, h2⟩ := toVas_sound ho l xs cs hx hl hr
    exact .agg _ _ (by omega) (fun i hi => rep_cell (h2 i hi (by omega)) (hcell _ (List.getElem_mem _))) h2
  ·simp at h
 ·exact toVa_sound ho h r
theorem toVgs_sound {E : Env} {ok : Oks} {w : World} {ob : List (Nat × AObj)} (ho : ∀ id o, look ob id = some o → ObjRep E ok w id o) : ∀ (l : List D) (xs : List V) (cs : List Value), toVgs ob l = some xs → cs.length = l.length →
  (∀ i (h : i < l.length) (h' : i < cs.length), RepD E ok w (l[i]'h) (cs[i]'h')) → xs.length = l.length ∧ ∀ i (h : i < xs.length) (h' : i < cs.length), Rep ok w (xs[i]'h) (cs[i]'h')
 | [], xs, cs, h, hl, hr => by simp [toVgs] at h; subst h; simp
 | d :: r, xs, [], h, hl, hr => by simp at hl
 | d :: r, xs, c :: cs, h, hl, hr => by
  unfold toVgs at h
  split at h
  ·rename_i x hx
   split at h
   ·rename_i ys hy
    simp at h; subst h
    have h0 := toVg_sound ho hx (hr 0 (by simp) (by simp))
    obtain ⟨h1, h2⟩ := toVgs_sound ho r ys cs hy (by simpa using hl) (fun i hi hi' => hr (i + 1) (by simp; omega) (by simp; omega))
    refine ⟨by simp [h1], fun i hi hi' => ?_⟩
    cases i with
    | zero => simpa using h0
    | succ i => simpa using h2 i (by simpa using hi) (by simpa using hi')
   ·simp at h
  ·simp at h
theorem Subs.rep {ok : Oks} {w : World} : ∀ {xs ys : List V} {cs : List Value}, Subs xs ys → cs.length = xs.length → (∀ i (h : i < xs.length) (h' : i < cs.length), Rep ok w (xs[i]'h) (cs[i]'h')) → cs.length = ys.length ∧ ∀ i (h : i < ys.length) (h' : i < cs.length), Rep ok w (ys[i]'h) (cs[i]'h')
 | [], [], cs, _, hl, _ => ⟨hl, by simp⟩
 | x :: r, y :: s, [], _, hl, _ => by simp at hl
 | x :: r, y :: s, c :: cs, h, hl, hr => by
  obtain ⟨h0, h1⟩ := h
  obtain ⟨q1, q2⟩ := Subs.rep (cs := cs) h1 (by simpa using hl) (fun i hi hi' => hr (i + 1) (Nat.succ_lt_succ hi) (Nat.succ_lt_succ hi'))
  refine ⟨by simp [q1], fun i hi hi' => ?_⟩
  cases i with
  | zero =>
   have hx := hr 0 (by simp) (by simp)
   simp only [List.getElem_cons_zero] at hx ⊢
   rcases h0 with rfl | ⟨rfl, rfl⟩ | ⟨l, rfl, rfl⟩
   ·exact hx
   ·cases hx; exact rep_nil_slice _ _
   ·cases hx; rename_i q; exact q
  | succ i => exact q2 i (Nat.lt_of_succ_lt_succ hi) (Nat.lt_of_succ_lt_succ hi')
 | [], _ :: _, _, h, _, _ => h.elim
 | _ :: _, [], _, h, _, _ => h.elim
theorem call_args {ob : List (Nat × AObj)} {ρ : Operand → D} {c : Call} {f : Operand} {g : Nat} {fst cap : List D} {ys xs : List V} (hc : c.callee = .value f) (hcal : calleeD (ρ f) = some (g, fst, cap)) (hx : toVas ob (fst ++ c.args.toList.map ρ ++ cap) = some ys) (hsub : Subs ys xs)
  {E : Env} {ok : Oks} {w : World} {a : Act} (hq : QH E ok w a ob ρ (.call c)) :
  ∃ fs cs : List Value, a.eval f = .func (.func g) fs.toArray cs.toArray ∧ (fs ++ c.args.toList.map a.eval ++ cs).length = xs.length ∧ ∀ i (h : i < xs.length) (h' : i < (fs ++ c.args.toList.map a.eval ++ cs).length), Rep ok w (xs[i]'h) ((fs ++ c.args.toList.map a.eval ++ cs)[i]'h') := by
 obtain ⟨fs, cs, h1, h2, h3, h2', h3'⟩ := calleeD_some hcal (hq.opr f (by simp [Op.operands, Call.operands, hc]))
 have app : ∀ {l l' : List D} {us us' : List Value}, us.length = l.length → us'.length = l'.length → (∀ i (h : i < l.length) (h' : i < us.length), RepD E ok w (l[i]'h) (us[i]'h')) → (∀ i (h : i < l'.length) (h' : i < us'.length), RepD E ok w (l'[i]'h) (us'[i]'h')) →
   ∀ i (h : i < (l ++ l').length) (h' : i < (us ++ us').length), RepD E ok w ((l ++ l')[i]'h) ((us ++ us')[i]'h') := by
  intro l l' us us' e1 e2 r1 r2 i hi hi'
  by_cases hlt : i < l.length
  ·rw [List.getElem_append_left hlt, List.getElem_append_left (by omega)]; exact r1 _ _ _
  ·rw [List.getElem_append_right (by omega), List.getElem_append_right (by omega)]
   simp only [e1]; exact r2 _ _ _
 obtain ⟨h4, h5⟩ := toVas_sound (E := E) (ok := ok) (w := w) hq.obj _ ys (fs ++ c.args.toList.map a.eval ++ cs) hx (by simp [h2, h2']) (app (by simp [h2]) h2' (app h2 (by simp) h3 (fun i hi hi' => by
  simp only [List.getElem_map]
  exact hq.opr _ (by simp [Op.operands, Call.operands, hc]))) h3')
 obtain ⟨q1, q2⟩ := hsub.rep (by simp [h4, h2, h2']) h5
 exact ⟨fs, cs, h1, q1, q2⟩
theorem q_call (ob : List (Nat × AObj)) (ρ : Operand → D) (c : Call) (f : Operand) (g : Nat) (fst cap : List D) (ys xs : List V) (rs : List Rs) (hc : c.callee = .value f) (hcal : calleeD (ρ f) = some (g, fst, cap)) (hx : toVas ob (fst ++ c.args.toList.map ρ ++ cap) = some ys) (hsub : Subs ys xs) (hf : FnR P g xs rs) : Comes' P ob ρ (.call c) (resV rs) := by
 intro E ok w a o ho hq next Q hn
 obtain ⟨fs, cs, h1, h2, h3⟩ := call_args hc hcal hx hsub hq
 refine call_does hf ho hc h1 h3 h2 hq.okb next Q fun us gs w' ok' hg hu hgs hr _ => ?_
 obtain ⟨ok'', k1, k2, k3, ke⟩ := freeze_res (w0 := w) (ok0 := ok) rfl hg.new hu hgs hr
 exact hn _ w' ok'' ⟨hg.below, fun b o q => k1 b o (hg.sub b o q), k2, hg.env.trans ke⟩ (resV_rep hu k3)
theorem q_sound (hT : tableOf P = T) (ob : List (Nat × AObj)) (ρ : Operand → D) (op : Op) (K : D → Prop) (h : qWp (std P R) ob ρ op K) : ∃ d, K d ∧ Comes' P ob ρ op d := by
 cases op with
 | move x => unfold qWp at h; exact ⟨_, h, q_move ob ρ x⟩
 | assign x => unfold qWp at h; exact ⟨_, h, q_assign ob ρ x⟩
 | pick c x y =>
  unfold qWp at h
  simp only at h
  split at h
  ·rename_i hc; exact ⟨_, h, by have := q_pick (P := P) ob ρ c x y true (.inl hc); simpa using this⟩
  ·rename_i hc; exact ⟨_, h, by have := q_pick (P := P) ob ρ c x y false (.inl hc); simpa using this⟩
  ·rename_i t hc
   have h := h t rfl
   have := q_pick (P := P) ob ρ c x y t (.inr hc)
   cases t
   ·exact ⟨_, h, by simpa using this⟩
   ·exact ⟨_, h, by simpa using this⟩
  ·exact h.elim
 | nilCheck x =>
  unfold qWp at h
  simp only at h
  split at h
  ·rename_i i o hx; exact ⟨_, h, hx ▸ q_nilCheck ob ρ x (.inl ⟨_, _, hx⟩)⟩
  ·rename_i hx; exact ⟨_, h, hx ▸ q_nilCheck ob ρ x (.inr (.inl ⟨_, _, _, _, hx⟩))⟩
  ·rename_i hx; exact ⟨_, h, hx ▸ q_nilCheck ob ρ x (.inr (.inr (.inl ⟨_, hx⟩)))⟩
  ·rename_i hx; exact ⟨_, h, hx ▸ q_nilCheck ob ρ x (.inr (.inr (.inr (.inl ⟨_, _, hx⟩))))⟩
  ·rename_i hx; exact ⟨_, h, hx ▸ q_nilCheck ob ρ x (.inr (.inr (.inr (.inr (.inl ⟨_, _, hx⟩)))))⟩
  ·rename_i hx; exact ⟨_, h, hx ▸ q_nilCheck ob ρ x (.inr (.inr (.inr (.inr (.inr (.inl ⟨_, _, hx⟩))))))⟩
  ·rename_i hx; exact ⟨_, h, hx ▸ q_nilCheck ob ρ x (.inr (.inr (.inr (.inr (.inr (.inr (.inl ⟨_, _, _, _, hx⟩)))))))⟩
  ·rename_i hx; exact ⟨_, h, hx ▸ q_nilCheck ob ρ x (.inr (.inr (.inr (.inr (.inr (.inr (.inr ⟨_, _, hx⟩)))))))⟩
  ·exact h.elim
 | binOp op t x y t' =>
  unfold qWp at h
  simp only at h
  split at h
  ·rename_i k a k' b hx hy
   split at h
   ·rename_i hs
    exact q_int ob ρ op t t' x y k k' a b hx hy (by simp [hs]) K h
   ·split at h
    ·rename_i hk
     exact q_int ob ρ op t t' x y k k' a b hx hy (fun _ => keq_eq hk) K h
    ·exact h.elim
  ·rename_i a b hx hy
   exact q_strop ob ρ op t t' x y a b hx hy K h
  ·split at h
   ·obtain ⟨d, h1, h2⟩ := eqD_sound hT t ob _ _ _ h
    exact ⟨d, h1, q_eq ob ρ t t' x y d h2⟩
   ·obtain ⟨d, h1, h2⟩ := eqD_sound hT t ob _ _ _ h
    exact ⟨_, h1, q_ne ob ρ t t' x y d h2⟩
   ·exact h.elim
 | unOp op t x => exact q_unOp ob ρ op t x K h
 | convert s d x =>
  unfold qWp at h
  simp only at h
  split at h
  ·exact h.elim
  ·rename_i e hs hd
   exact convD_sound (R := R) hT s d _ (fun e' he => by
    rcases he with he | he
    ·rw [hs] at he; cases he; rfl
    ·rw [hd] at he; cases he) ob ρ x K (by rw [hs, hd]; exact h)
  ·rename_i e hs hd
   exact convD_sound (R := R) hT s d _ (fun e' he => by
    rcases he with he | he
    ·rw [hs] at he; cases he
    ·rw [hd] at he; cases he; rfl) ob ρ x K (by rw [hs, hd]; exact h)
  ·rename_i h1 h2 h3
   unfold convD at h
   split at h
   ·rename_i k k2 n hs hd hx
    exact convD_sound (R := R) hT s d .other (fun e' he => by
     rcases he with he | he
     ·rw [hs] at he; cases he
     ·rw [hd] at he; cases he) ob ρ x K (by rw [hs, hd, hx]; exact h)
   ·rename_i b hs hd hx
    exact convD_sound (R := R) hT s d .other (fun e' he => by
     rcases he with he | he
     ·rw [hs] at he; cases he
     ·rw [hd] at he; cases he) ob ρ x K (by rw [hs, hd, hx]; exact h)
   ·rename_i e b hs hd hx
    exact absurd hd (h3 _ hs)
   ·rename_i e hs hd
    exact absurd hd (h2 _ hs)
   ·exact h.elim
 | field t x f => exact q_field hT ob ρ t x f K h
 | fieldAddr t x f => exact q_fieldAddr hT ob ρ t x f K h
 | indexAddr t x i => exact q_indexAddr hT ob ρ t x i K h
 | index t x i => exact q_index hT ob ρ t x i K h
 | load t x =>
  unfold qWp at h
  simp only at h
  split at h
  ·rename_i hk; exact q_load hT ob ρ t x K hk h
  ·exact h.elim
 | slice t x lo hi mx => exact q_slice hT ob ρ t x lo hi mx K h
 | extract x i => exact q_extract ob ρ x i K h
 | makeFunc fn first cap => exact q_makeFunc ob ρ fn first cap K h
 | makeInterface t x => exact q_makeInterface hT ob ρ t x K h
 | build t parts => exact q_build hT ob ρ t parts K h
 | buildSlice t n parts =>
  obtain ⟨l, hK, e, hk, hkn, hrun⟩ := q_buildSlice hT ob ρ t n parts K h
  refine ⟨_, hK, fun E ok w a o ho hq => ?_⟩
  obtain ⟨cs, h1, h2, h3, h4, h5, h6⟩ := hrun E ok w a hq
  have hrep := rep_alloc_row (e := e) h5 h6 hq.okb (Nat.le_refl _) (by omega)
  refine does_grow (v := .slice (some ⟨w.heap.size, 0, none⟩) n n) (w' := w.alloc (.cells cs e)) (ok' := okAdd ok w.heap.size (l.length * (tyOf e).size)) ?_ (Grow.alloc w ok _ _) (.v _ _ (by rw [← h2]; exact hrep))
  simp only [execOp, ho, Sem.run_bind, h1, Result.andThen_ok, Sem.run_pure]
 | makeSlice t l c =>
  obtain ⟨r, hK, e, m, hk, hkn, hm1, hm2, hrun⟩ := q_makeSlice hT ob ρ t l c K h
  refine ⟨_, hK, fun E ok w a o ho hq => ?_⟩
  obtain ⟨cs, h1, h2, h3, h4⟩ := hrun E ok w a hq
  refine does_grow (v := .slice (some ⟨w.heap.size, 0, none⟩) r.length m) (w' := w.alloc (.cells cs e)) (ok' := okAdd ok w.heap.size (r.length * (tyOf e).size)) ?_ (Grow.alloc w ok _ _) (.v _ _ (rep_alloc_row (e := e) h3 h4 hq.okb hm1 hm2))
  simp only [execOp, ho, Sem.run_bind, h1, Result.andThen_ok, Sem.run_pure]
 | call c =>
  unfold qWp at h
  simp only at h
  split at h
  ·rename_i b hc
   split at h
   ·rename_i x ha
    split at h
    ·rename_i t ht
     exact q_len hT ob ρ c x t hc ha ht K h
    ·exact h.elim
   ·exact q_min false ob ρ c hc K h
   ·exact q_min true ob ρ c hc K h
   ·exact h.elim
  ·rename_i f hc
   split at h
   ·rename_i g fst cap hcal
    split at h
    ·rename_i xs hx
     obtain ⟨ys, hsub, h⟩ := h
     rcases h with ⟨rs, hf, h⟩ | ⟨gh, post, e, _⟩
     ·exact ⟨_, h, q_call ob ρ c f g fst cap xs ys rs hc hcal hx hsub hf⟩
     ·cases e
    ·exact h.elim
   ·exact h.elim
  ·exact h.elim
 | _ => exact h.elim
theorem heapOf_some {ob : List (Nat × AObj)} {gh : GH} {pub : List Nat} (h : heapOf ob = some (gh, pub)) : look ob hk = some (.heap gh pub) := by
 unfold heapOf at h
 split at h
 ·rename_i q; simp at h; obtain ⟨rfl, rfl⟩ := h; exact q
 ·cases h
theorem r_sound (hT : tableOf P = T) (ob : List (Nat × AObj)) (ρ : Operand → D) (op : Op) (K : D → Prop) (h : rWp (std P R) ob ρ op K) : ∃ d, K d ∧ Comes' P ob ρ op d := by
 unfold rWp at h
 split at h
 ·split at h
  ·rename_i gh pub hh
   split at h
   ·rename_i xs hx
    obtain ⟨x, hq, hK⟩ := h
    refine ⟨_, hK, fun E ok w a o ho hqh => ?_⟩
    obtain ⟨h1, h2⟩ := toVas_sound (E := E) (ok := ok) (w := w) hqh.obj (op.operands.toList.map ρ) xs (op.operands.toList.map a.eval) hx (by simp) (fun i hi hi' => by
     simp only [List.getElem_map]
     exact hqh.opr _ (List.getElem_mem _))
    obtain ⟨v, hr, hv⟩ := hq ok w a o ho (hqh.obj _ _ (heapOf_some hh)).2 hqh.okb ⟨by simpa using h1, fun i hi hi' => by
     have := h2 i hi' (by simpa using hi)
     simpa using this⟩
    exact does_run hr (.v _ _ hv)
   ·exact h.elim
  ·exact h.elim
 ·exact q_sound hT ob ρ op K h
end
open Go Go.RowKit
theorem look_remOb (id : Nat) : ∀ (ob : List (Nat × AObj)) (j : Nat), look (remOb id ob) j = if j = id then none else look ob j
 | [], j => by simp [remOb, look]
 | (k, o) :: r, j => by
  have ih := look_remOb id r j
  unfold remOb
  by_cases h : k = id
  ·subst h
   rw [if_pos rfl, ih]
   by_cases hj : j = k
   ·simp [hj]
   ·simp [hj, look, Ne.symm hj]
  ·rw [if_neg h]
   simp only [look]
   by_cases hj : k = j
   ·subst hj; simp [h]
   ·simp [hj, ih]
theorem look_map {α β : Type} (f : α → β) : ∀ (l : List (Nat × α)) (j : Nat), look (l.map fun p => (p.1, f p.2)) j = (look l j).map f
 | [], j => rfl
 | (k, x) :: r, j => by
  simp only [List.map_cons, look]
  by_cases h : k = j
  ·simp [h]
  ·simp [h, look_map f r j]
theorem get_kill (S : St) (id t : Nat) : (S.kill id).get t = unD id (S.get t) := by
 simp only [St.kill, St.get, look_map]
 cases look S.sl t with
 | none => simp [unD, mentions]
 | some d => rfl
theorem look_kill (S : St) (id j : Nat) : look (S.kill id).ob j = if j = id then none else (look S.ob j).map (unOb id) := by
 simp only [St.kill, look_map, look_remOb]
 split <;> rfl
theorem unD_rep {E : Env} {ok : Oks} {w : World} {d : D} {u : Value} (id : Nat) (h : RepD E ok w d u) : RepD E ok w (unD id d) u := by
 unfold unD; split
 ·exact .any _
 ·exact h
theorem unOb_rep {E : Env} {ok : Oks} {w : World} {o : AObj} {j : Nat} (id : Nat) (h : ObjRep E ok w j o) : ObjRep E ok w j (unOb id o) := by
 cases o with
 | box l =>
  obtain ⟨b, e, cs, h1, h2, h3, h4, h5⟩ := h
  refine ⟨b, e, cs, h1, h2, by simpa using h3, h4, fun i hi => ?_⟩
  obtain ⟨u, q1, q2, q3⟩ := h5 i (by simpa using hi)
  exact ⟨u, q1, q2, by simp only [List.getElem_map]; exact unD_rep id q3⟩
 | _ => exact h
theorem occ_unOb (E : Env) (ok : Oks) (id j : Nat) (o : AObj) (b : Nat) : occ E ok j (unOb id o) b ↔ occ E ok j o b := by cases o <;> exact Iff.rfl
theorem isHeap_unOb (id : Nat) (o : AObj) : (unOb id o).isHeap ↔ o.isHeap := by cases o <;> exact Iff.rfl
theorem occ_E {E E' : Env} {id : Nat} (he : ∀ j, j ≠ id → E'.blk j = E.blk j ∧ E'.hdr j = E.hdr j) (ok : Oks) {j : Nat} (hj : j ≠ id) (o : AObj) (b : Nat) : occ E' ok j o b ↔ occ E ok j o b := by
 cases o <;> first | exact Iff.rfl | (unfold occ; rw [(he j hj).1])
theorem Conc.kill {G : Gh} {E : Env} {ok : Oks} {S : St} {a : Act} {w : World} (c : Conc G E ok S a w) (id : Nat) : Conc G E ok (S.kill id) a w := by
 have hob : ∀ j o, look (S.kill id).ob j = some o → ∃ o', look S.ob j = some o' ∧ o = unOb id o' := by
  intro j o h
  rw [look_kill] at h
  split at h
  ·simp at h
  ·simp only [Option.map_eq_some_iff] at h
   obtain ⟨o', h1, rfl⟩ := h
   exact ⟨o', h1, rfl⟩
 refine { c with n := c.n, slot := fun t => ?_, obj := fun j o h => ?_, apart := fun i j o p b h1 h2 => ?_, reg := fun i o b h => ?_, hp := fun i gh pub h => ?_ }
 ·rw [get_kill]; exact unD_rep id (c.slot t)
 ·obtain ⟨o', h1, rfl⟩ := hob j o h
  exact unOb_rep id (c.obj _ _ h1)
 ·obtain ⟨o', h3, rfl⟩ := hob i o h1
  obtain ⟨p', h4, rfl⟩ := hob j p h2
  rw [occ_unOb, occ_unOb]
  exact c.apart i j o' p' b h3 h4
 ·obtain ⟨o', h3, rfl⟩ := hob i o h
  rw [occ_unOb, isHeap_unOb]
  exact c.reg i o' b h3
 ·obtain ⟨o', h3, e⟩ := hob i _ h
  cases o' with
  | heap gh2 pub2 => exact c.hp i _ _ h3
  | _ => simp [unOb] at e
theorem Conc.rem {G : Gh} {E : Env} {ok : Oks} {S : St} {a : Act} {w : World} (c : Conc G E ok S a w) (id : Nat) : Conc G E ok { S with ob := remOb id S.ob } a w := by
 have hob : ∀ j o, look (remOb id S.ob) j = some o → look S.ob j = some o := by
  intro j o h
  rw [look_remOb] at h
  split at h
  ·simp at h
  ·exact h
 exact { c with obj := fun j o h => c.obj j o (hob j o h), apart := fun i j o p b h1 h2 => c.apart i j o p b (hob _ _ h1) (hob _ _ h2), reg := fun i o b h => c.reg i o b (hob _ _ h), hp := fun i gh pub h => c.hp i gh pub (hob _ _ h) }
theorem mentionsL_get {id : Nat} : ∀ {l : List D}, mentionsL id l = false → ∀ i (h : i < l.length), mentions id (l[i]'h) = false
 | [], _, i, h => by simp at h
 | d :: r, hm, i, h => by
  simp only [mentionsL, Bool.or_eq_false_iff] at hm
  cases i with
  | zero => exact hm.1
  | succ i => exact mentionsL_get hm.2 i (by simpa using h)
theorem RepD.env {E E' : Env} {ok : Oks} {w : World} {d : D} {u : Value} {id : Nat} (he : ∀ j, j ≠ id → E'.blk j = E.blk j ∧ E'.hdr j = E.hdr j) (r : RepD E ok w d u) (hm : mentions id d = false) : RepD E' ok w d u := by
 induction r with
 | any u => exact .any u
 | ub b => exact .ub b
 | lit b => exact .lit b
 | v x u r => exact .v x u r
 | nils => exact .nils
 | agg l cs hl hcell hr ih => exact .agg l cs hl hcell (fun i h h' => ih i h h' (mentionsL_get (by simpa [mentions] using hm) i h))
 | tup l cs hl hr ih => exact .tup l cs hl (fun i h h' => ih i h h' (mentionsL_get (by simpa [mentions] using hm) i h))
 | ptr j off b hb => exact .ptr j off b (by rw [(he j (by simpa [mentions] using hm)).1]; exact hb)
 | own j => rw [← (he j (by simpa [mentions] using hm)).2]; exact .own j
 | rptr j z i off b hb hi => exact .rptr j z i off b (by rw [(he j (by simpa [mentions] using hm)).1]; exact hb) hi
 | fn f cap cs hl hr ih => exact .fn f cap cs hl (fun i h h' => ih i h h' (mentionsL_get (by simpa [mentions] using hm) i h))
theorem mentions_unD (id : Nat) (d : D) : mentions id (unD id d) = false := by
 unfold unD
 cases h : mentions id d with
 | true => rfl
 | false => exact h
theorem ObjRep.env {E E' : Env} {ok : Oks} {w : World} {o : AObj} {j id : Nat} (he : ∀ j, j ≠ id → E'.blk j = E.blk j ∧ E'.hdr j = E.hdr j) (hj : j ≠ id) (h : ObjRep E ok w j (unOb id o)) : ObjRep E' ok w j (unOb id o) := by
 cases o with
 | box l =>
  obtain ⟨b, e, cs, h1, h2, h3, h4, h5⟩ := h
  refine ⟨b, e, cs, by rw [(he j hj).1]; exact h1, h2, h3, h4, fun i hi => ?_⟩
  obtain ⟨u, q1, q2, q3⟩ := h5 i hi
  exact ⟨u, q1, q2, q3.env he (by simp only [List.getElem_map]; exact mentions_unD id _)⟩
 | cbox l =>
  obtain ⟨b, h1, h2⟩ := h
  exact ⟨b, by rw [(he j hj).1]; exact h1, h2⟩
 | row z l ex =>
  rcases h with ⟨h1, h2, h3⟩ | ⟨b, cap, cs, e, h1, h2, h3⟩
  ·exact .inl ⟨h1, by rw [(he j hj).1]; exact h2, by rw [(he j hj).2]; exact h3⟩
  ·exact .inr ⟨b, cap, cs, e, by rw [(he j hj).1]; exact h1, by rw [(he j hj).2]; exact h2, h3⟩
 | heap gh pub => exact h
structure Step (G : Gh) (E : Env) (S : St) (w : World) (ok : Oks) (w' : World) (ok' : Oks) : Prop where
 same : Same ok ok' w w'
 env : EnvEq ok ok'
 blocks : ∀ id o b, look S.ob id = some o → occ E ok id o b → w'.heap[b]? = w.heap[b]? ∧ ∀ o', ok' b o' → ok b o'
 okb : ∀ b o, ok' b o → b < w'.heap.size
 newk : ∀ b o, ok' b o → ok b o ∨ G.w0.heap.size ≤ b ∨ G.M b
 os : w'.os = w.os
 tape : w'.tape = w.tape
 output : w'.output = w.output
 size : w.heap.size ≤ w'.heap.size
 old : ∀ b, b < G.w0.heap.size → ¬ G.M b → w'.heap[b]? = w.heap[b]?
theorem ObjRep.step {G : Gh} {E : Env} {S : St} {w w' : World} {ok ok' : Oks} (s : Step G E S w ok w' ok') {id : Nat} {o : AObj} (hl : look S.ob id = some o) (h : ObjRep E ok w id o) : ObjRep E ok' w' id o := by
 cases o with
 | box l =>
  obtain ⟨b, e, cs, h1, h2, h3, h4, h5⟩ := h
  obtain ⟨q1, q2⟩ := s.blocks _ _ _ hl h1
  refine ⟨b, e, cs, h1, q1.trans h2, h3, fun o' q => h4 o' (q2 o' q), fun i hi => ?_⟩
  obtain ⟨u, q3, q4, q5⟩ := h5 i hi
  exact ⟨u, q3, q4, q5.mono s.same⟩
 | cbox l =>
  obtain ⟨b, h1, hlt, h2, h3⟩ := h
  refine ⟨b, h1, Nat.lt_of_lt_of_le hlt s.size, h2, fun j hj => ?_⟩
  obtain ⟨q, u, hu, hr⟩ := h3 j hj
  exact ⟨s.same.sub _ _ q, u, (s.same.cell _ _ q).trans hu, hr.mono s.same⟩
 | row z l ex =>
  rcases h with h | ⟨b, cap, cs, e, h1, h2, h3, h4, h5, h6, h7, h8⟩
  ·exact .inl h
  ·obtain ⟨q1, q2⟩ := s.blocks _ _ _ hl h1
   have hc : ∀ o, w'.cell? ⟨b, o, none⟩ = w.cell? ⟨b, o, none⟩ := fun o => by simp only [World.cell?, q1]
   exact .inr ⟨b, cap, cs, e, h1, h2, q1.trans h3, h4, h5, h6, h7.mono s.same (fun i _ => hc _), fun o' => ⟨fun q => (h8 o').1 (q2 o' q), fun q => s.same.sub _ _ ((h8 o').2 q)⟩⟩
 | heap gh pub => exact ⟨h.1, GlOk.stay s.same s.size s.env (fun b hb => s.blocks _ _ b hl hb) h.2⟩
theorem Conc.step {G : Gh} {E : Env} {ok ok' : Oks} {S : St} {a : Act} {w w' : World} (c : Conc G E ok S a w) (s : Step G E S w ok w' ok') : Conc G E ok' S a w' where
 n := c.n
 defers := c.defers
 slot t := (c.slot t).mono s.same
 obj id o h := (c.obj id o h).step s h
 apart i j o p b h1 h2 hne hb := by rw [occ_env s.env] at hb ⊢; exact c.apart i j o p b h1 h2 hne hb
 reg i o b h1 hb := by rw [occ_env s.env] at hb; exact c.reg i o b h1 hb
 okb := s.okb
 sub b o h := s.same.sub _ _ (c.sub b o h)
 env := c.env.trans s.env.ext
 envq q := (c.envq q).trans s.env
 hp := c.hp
 newk b o h := (s.newk b o h).elim (c.newk b o) .inr
 os := s.os.trans c.os
 tape := s.tape.trans c.tape
 output := s.output.trans c.output
 size := Nat.le_trans c.size s.size
 old b h1 h2 := (s.old b h1 h2).trans (c.old b h1 h2)
 keep b o q := (s.same.cell b o (c.sub b o q)).trans (c.keep b o q)
theorem obj_lt {G : Gh} {E : Env} {ok : Oks} {S : St} {a : Act} {w : World} (c : Conc G E ok S a w) {id b : Nat} {o : AObj} (h1 : look S.ob id = some o) (h2 : occ E ok id o b) : b < w.heap.size := by
 have := c.obj id o h1
 cases o with
 | box l => obtain ⟨b', _, _, q, q', _⟩ := this; rw [show E.blk id = some b from h2] at q; cases q; exact heap_lt q'
 | cbox l => obtain ⟨b', q, q', _⟩ := this; rw [show E.blk id = some b from h2] at q; cases q; exact q'
 | row z l ex =>
  rcases this with ⟨_, q, _⟩ | ⟨b', _, _, _, q, _, q', _⟩
  ·rw [show E.blk id = some b from h2] at q; cases q
  ·rw [show E.blk id = some b from h2] at q; cases q; exact heap_lt q'
 | heap gh pub => exact GlOk.lt this.2 h2
theorem Step.of_grow {G : Gh} {E : Env} {ok ok' : Oks} {S : St} {a : Act} {w w' : World} (c : Conc G E ok S a w) (g : Grow w ok w' ok') : Step G E S w ok w' ok' where
 same := g.same c.okb
 env := g.env
 blocks id o b h1 h2 := by
  have hlt : b < w.heap.size := obj_lt c h1 h2
  refine ⟨g.below.block b hlt, fun o' q => ?_⟩
  rcases g.new b o' q with q | ⟨q, _⟩
  ·exact q
  ·omega
 okb := g.okb c.okb
 newk b o h := (g.new b o h).imp id fun q => .inl (Nat.le_trans c.size q.1)
 os := g.below.os
 tape := g.below.tape
 output := g.below.output
 size := g.below.size
 old b h1 _ := g.below.block b (Nat.lt_of_lt_of_le h1 c.size)
theorem Conc.swap2 {G : Gh} {E : Env} {ok ok' : Oks} {S : St} {a : Act} {w w' : World} {gh gh' : GH} {pub pub' : List Nat} (c : Conc G E ok S a w) (hh : look S.ob hk = some (.heap gh pub)) (fr : Frame (occG ok gh) w w') (same : Same ok ok' w w')
  (hn : ∀ b o, ok' b o → b < w'.heap.size ∧ (ok b o ∨ occG ok gh b ∨ w.heap.size ≤ b)) (gl : GlOk ok' gh' w') (hg : ∀ b, occG ok' gh' b → occG ok gh b ∨ w.heap.size ≤ b ∨ (G.w0.heap.size ≤ b ∧ ∀ j p, j ≠ hk → look S.ob j = some p → ¬ occ E ok j p b)) : Conc G E ok' (S.setOb hk (.heap gh' pub')) a w' := by
 have hs := same.sub
 have he := same.env
 have blocks : ∀ id o b, id ≠ hk → look S.ob id = some o → occ E ok id o b → w'.heap[b]? = w.heap[b]? ∧ ∀ o', ok' b o' → ok b o' := fun id o b hne hl hb => by
  have h1 := obj_lt c hl hb
  have h2 : ¬ occG ok gh b := fun h => c.apart id hk o _ b hl hh hne hb h
  refine ⟨fr.old b h1 h2, fun o' q => ?_⟩
  rcases (hn b o' q).2 with q | q | q
  ·exact q
  ·exact absurd q h2
  ·omega
 have nh : ∀ id o, id ≠ hk → look S.ob id = some o → ∀ b, occ E ok' id o b ↔ occ E ok id o b := fun id o hne hl b => by
  cases o with
  | heap gh2 pub2 => exact absurd (c.obj _ _ hl).1 hne
  | _ => exact Iff.rfl
 have hob : ∀ j p, look (S.setOb hk (.heap gh' pub')).ob j = some p → (j = hk ∧ p = .heap gh' pub') ∨ (j ≠ hk ∧ look S.ob j = some p) := by
  intro j p h
  simp only [St.setOb, look] at h
  split at h
  ·rename_i e; simp at h; exact .inl ⟨e.symm, h.symm⟩
  ·rename_i e
   rw [look_remOb, if_neg (Ne.symm e)] at h
   exact .inr ⟨Ne.symm e, h⟩
 exact {
  n := c.n
  defers := c.defers
  slot := fun t => (c.slot t).mono same
  obj := fun id o h => by
   rcases hob id o h with ⟨rfl, rfl⟩ | ⟨hne, h⟩
   ·exact ⟨rfl, gl⟩
   ·have r := c.obj id o h
    cases o with
    | box l =>
     obtain ⟨b, e, cs, h1, h2, h3, h4, h5⟩ := r
     obtain ⟨q1, q2⟩ := blocks _ _ b hne h h1
     refine ⟨b, e, cs, h1, q1.trans h2, h3, fun o' q => h4 o' (q2 o' q), fun i hi => ?_⟩
     obtain ⟨u, q3, q4, q5⟩ := h5 i hi
     exact ⟨u, q3, q4, q5.mono same⟩
    | cbox l =>
     obtain ⟨b, h1, hlt, h2, h3⟩ := r
     refine ⟨b, h1, Nat.lt_of_lt_of_le hlt fr.size, h2, fun j hj => ?_⟩
     obtain ⟨q, u, hu, hr⟩ := h3 j hj
     exact ⟨hs _ _ q, u, (same.cell _ _ q).trans hu, hr.mono same⟩
    | row z l ex =>
     rcases r with r | ⟨b, cap, cs, e, h1, h2, h3, h4, h5, h6, h7, h8⟩
     ·exact .inl r
     ·obtain ⟨q1, q2⟩ := blocks _ _ b hne h h1
      have hc : ∀ o, w'.cell? ⟨b, o, none⟩ = w.cell? ⟨b, o, none⟩ := fun o => by simp only [World.cell?, q1]
      exact .inr ⟨b, cap, cs, e, h1, h2, q1.trans h3, h4, h5, h6, h7.mono same (fun i _ => hc _), fun o' => ⟨fun q => (h8 o').1 (q2 o' q), fun q => hs _ _ ((h8 o').2 q)⟩⟩
    | heap gh2 pub2 => exact absurd r.1 hne
  apart := fun i j o p b h1 h2 hne hb hb' => by
   rcases hob i o h1 with ⟨rfl, rfl⟩ | ⟨hi, h3⟩ <;> rcases hob j p h2 with ⟨rfl, rfl⟩ | ⟨hj, h4⟩
   ·exact hne rfl
   ·rw [nh j p hj h4] at hb'
    rcases hg b hb with q | q | q
    ·exact c.apart j hk p _ b h4 hh hj hb' q
    ·have := obj_lt c h4 hb'; omega
    ·exact q.2 j p hj h4 hb'
   ·rw [nh i o hi h3] at hb
    rcases hg b hb' with q | q | q
    ·exact c.apart i hk o _ b h3 hh hi hb q
    ·have := obj_lt c h3 hb; omega
    ·exact q.2 i o hi h3 hb
   ·rw [nh i o hi h3] at hb
    rw [nh j p hj h4] at hb'
    exact c.apart i j o p b h3 h4 hne hb hb'
  reg := fun i o b h1 hb => by
   rcases hob i o h1 with ⟨rfl, rfl⟩ | ⟨hi, h3⟩
   ·rcases hg b hb with q | q | q
    ·exact (c.reg hk _ b hh q).imp (fun h => h) fun h => ⟨trivial, h.2⟩
    ·exact .inl (Nat.le_trans c.size q)
    ·exact .inl q.1
   ·rw [nh i o hi h3] at hb
    exact c.reg i o b h3 hb
  okb := fun b o q => (hn b o q).1
  sub := fun b o q => hs _ _ (c.sub b o q)
  env := c.env.trans he
  envq := fun q => by rw [c.hp _ _ _ hh] at q; cases q
  hp := fun i gh2 pub2 h => c.hp _ _ _ hh
  newk := fun b o q => by
   rcases (hn b o q).2 with q | q | q
   ·exact c.newk b o q
   ·exact .inr ((c.reg hk _ b hh q).imp (fun h => h) And.right)
   ·exact .inr (.inl (Nat.le_trans c.size q))
  os := fr.os.trans c.os
  tape := fr.tape.trans c.tape
  output := fr.output.trans c.output
  size := Nat.le_trans c.size fr.size
  old := fun b h1 h2 => by
   refine (fr.old b (Nat.lt_of_lt_of_le h1 c.size) fun h => ?_).trans (c.old b h1 h2)
   rcases c.reg hk _ b hh h with q | q
   ·omega
   ·exact h2 q.2
  keep := fun b o q => (same.cell b o (c.sub b o q)).trans (c.keep b o q) }
theorem Conc.swap {G : Gh} {E : Env} {ok ok' : Oks} {S : St} {a : Act} {w w' : World} {gh gh' : GH} {pub pub' : List Nat} (c : Conc G E ok S a w) (hh : look S.ob hk = some (.heap gh pub)) (fr : Frame (occG ok gh) w w') (same : Same ok ok' w w')
  (hn : ∀ b o, ok' b o → b < w'.heap.size ∧ (ok b o ∨ occG ok gh b ∨ w.heap.size ≤ b)) (gl : GlOk ok' gh' w') (hg : ∀ b, occG ok' gh' b → occG ok gh b ∨ w.heap.size ≤ b) : Conc G E ok' (S.setOb hk (.heap gh' pub')) a w' :=
 c.swap2 hh fr same hn gl fun b h => (hg b h).imp id .inl
theorem Conc.add {G : Gh} {E E' : Env} {ok : Oks} {S : St} {a : Act} {w : World} (c : Conc G E ok S a w) (id : Nat) (o : AObj) (he : ∀ j, j ≠ id → E'.blk j = E.blk j ∧ E'.hdr j = E.hdr j)
  (ho : ObjRep E' ok w id (unOb id o)) (hap : ∀ b, E'.blk id = some b → (∀ j p, j ≠ id → look S.ob j = some p → ¬ occ E ok j p b) ∧ G.w0.heap.size ≤ b) (hnh : ∀ b, occ E' ok id o b → E'.blk id = some b := by exact fun _ h => h) (hno : ∀ gh pub, unOb id o ≠ .heap gh pub := by intro _ _ h; simp [unOb] at h) : Conc G E' ok (S.new id o) a w := by
 have ck := c.kill id
 have hob : ∀ j p, look (S.new id o).ob j = some p → (j = id ∧ p = unOb id o) ∨ (j ≠ id ∧ ∃ p', look S.ob j = some p' ∧ p = unOb id p') := by
  intro j p h
  simp only [St.new, look] at h
  split at h
  ·rename_i e; simp at h; exact .inl ⟨e.symm, h.symm⟩
  ·rename_i e
   rw [look_kill, if_neg (Ne.symm e)] at h
   simp only [Option.map_eq_some_iff] at h
   obtain ⟨p', h1, rfl⟩ := h
   exact .inr ⟨Ne.symm e, p', h1, rfl⟩
 refine { ck with n := ck.n, slot := fun t => ?_, obj := fun j p h => ?_, apart := fun i j p q b h1 h2 hne hb => ?_, reg := fun i p b h hb => ?_, hp := fun i gh pub h => ?_ }
 ·have h1 := ck.slot t
  have h2 : (S.new id o).get t = (S.kill id).get t := rfl
  rw [h2]
  exact h1.env he (by rw [get_kill]; exact mentions_unD id _)
 ·rcases hob j p h with ⟨rfl, rfl⟩ | ⟨hj, p', h1, rfl⟩
  ·exact ho
  ·exact (unOb_rep id (c.obj _ _ h1)).env he hj
 ·rcases hob i p h1 with ⟨rfl, rfl⟩ | ⟨hi, p', h3, rfl⟩ <;> rcases hob j q h2 with ⟨rfl, rfl⟩ | ⟨hj, q', h4, rfl⟩
  ·exact absurd rfl hne
  ·rw [occ_unOb] at hb ⊢
   rw [occ_E he ok hj]
   exact (hap b (hnh b hb)).1 j q' hj h4
  ·rw [occ_unOb] at hb ⊢
   rw [occ_E he ok hi] at hb
   intro hx
   exact (hap b (hnh b hx)).1 i p' hi h3 hb
  ·rw [occ_unOb] at hb ⊢
   rw [occ_E he ok hi] at hb
   rw [occ_E he ok hj]
   exact c.apart i j p' q' b h3 h4 hne hb
 ·rcases hob i p h with ⟨rfl, rfl⟩ | ⟨hi, p', h3, rfl⟩
  ·rw [occ_unOb] at hb
   exact .inl (hap b (hnh b hb)).2
  ·rw [occ_unOb, occ_E he ok hi] at hb
   rw [isHeap_unOb]
   exact c.reg i p' b h3 hb
 ·rcases hob i _ h with ⟨rfl, e⟩ | ⟨hi, p', h3, e⟩
  ·exact absurd e.symm (hno _ _)
  ·cases p' with
   | heap gh2 pub2 => exact c.hp i _ _ h3
   | _ => simp [unOb] at e
theorem Conc.back' {G : Gh} {E : Env} {ok : Oks} {S : St} {a : Act} {w : World} {id : Nat} (c : Conc G E ok { S with ob := remOb id S.ob } a w) (o : AObj) (ho : ObjRep E ok w id o)
  (hap : ∀ b, occ E ok id o b → (∀ j p, j ≠ id → look S.ob j = some p → ¬ occ E ok j p b) ∧ (G.w0.heap.size ≤ b ∨ (o.isHeap ∧ G.M b))) (hpo : ∀ gh pub, o = .heap gh pub → G.heap = true) : Conc G E ok (S.setOb id o) a w := by
 have hob : ∀ j p, look (S.setOb id o).ob j = some p → (j = id ∧ p = o) ∨ (j ≠ id ∧ look S.ob j = some p) := by
  intro j p h
  simp only [St.setOb, look] at h
  split at h
  ·rename_i e; simp at h; exact .inl ⟨e.symm, h.symm⟩
  ·rename_i e
   rw [look_remOb, if_neg (Ne.symm e)] at h
   exact .inr ⟨Ne.symm e, h⟩
 refine { c with n := c.n, slot := fun t => c.slot t, obj := fun j p h => ?_, apart := fun i j p q b h1 h2 hne hb => ?_, reg := fun i p b h hb => ?_, hp := fun i gh pub h => ?_ }
 ·rcases hob j p h with ⟨rfl, rfl⟩ | ⟨hj, h1⟩
  ·exact ho
  ·exact c.obj j p (by simp only [look_remOb, if_neg hj]; exact h1)
 ·rcases hob i p h1 with ⟨rfl, rfl⟩ | ⟨hi, h3⟩ <;> rcases hob j q h2 with ⟨rfl, rfl⟩ | ⟨hj, h4⟩
  ·exact absurd rfl hne
  ·exact (hap b hb).1 j q hj h4
  ·intro hx
   exact (hap b hx).1 i p hi h3 hb
  ·exact c.apart i j p q b (by simp only [look_remOb, if_neg hi]; exact h3) (by simp only [look_remOb, if_neg hj]; exact h4) hne hb
 ·rcases hob i p h with ⟨rfl, rfl⟩ | ⟨hi, h3⟩
  ·exact (hap b hb).2
  ·exact c.reg i p b (by simp only [look_remOb, if_neg hi]; exact h3) hb
 ·rcases hob i _ h with ⟨rfl, e⟩ | ⟨hi, h3⟩
  ·exact hpo _ _ e.symm
  ·exact c.hp i _ _ (by simp only [look_remOb, if_neg hi]; exact h3)
theorem Conc.back {G : Gh} {E : Env} {ok : Oks} {S : St} {a : Act} {w : World} {id : Nat} (c : Conc G E ok { S with ob := remOb id S.ob } a w) (o : AObj) (ho : ObjRep E ok w id o)
  (hap : ∀ b, E.blk id = some b → (∀ j p, j ≠ id → look S.ob j = some p → ¬ occ E ok j p b) ∧ G.w0.heap.size ≤ b) (hnh : ∀ b, occ E ok id o b → E.blk id = some b := by exact fun _ h => h) (hno : ∀ gh pub, o ≠ .heap gh pub := by intro _ _ h; cases h) : Conc G E ok (S.setOb id o) a w :=
 c.back' o ho (fun b hb => ⟨(hap b (hnh b hb)).1, .inl (hap b (hnh b hb)).2⟩) fun gh pub e => absurd e (hno gh pub)
end Go.Proofs.YthioccbgjkbmdaaGreat.AM
