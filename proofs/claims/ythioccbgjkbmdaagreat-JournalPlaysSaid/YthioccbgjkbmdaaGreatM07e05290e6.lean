/-
 The abstract machine, part 16: append.
-/
import Derived.Test.YthioccbgjkbmdaaGreatM06a67e98b9
import Derived.Deep.AppendSrc
import Derived.Deep.Upon
set_option linter.unusedVariables false
set_option linter.unusedSimpArgs false
namespace Go.Proofs.YthioccbgjkbmdaaGreat.AM
open Go Go.RowKit
theorem setCell_row {w : World} {b o : Nat} {cs : Array Value} {e : TypeId} {fr : Nat × Nat} (v : Value) (h : w.heap[b]? = some (.cells cs e fr)) :
  (w.setCell ⟨b, o, none⟩ v).heap[b]? = some (.cells (cs.setIfInBounds o v) e fr) ∧ ∀ k, k ≠ b → (w.setCell ⟨b, o, none⟩ v).heap[k]? = w.heap[k]? := by
 constructor
 ·simp only [World.setCell, Array.getElem?_modify, if_pos, h, Option.map_some]
  simp
 ·intro k hk
  simp only [World.setCell, Array.getElem?_modify]
  rw [if_neg (Ne.symm hk)]
theorem setCells_row {b : Nat} {e : TypeId} {fr : Nat × Nat} : ∀ (vs : List Value) (o : Nat) (w : World) (cs : Array Value), w.heap[b]? = some (.cells cs e fr) → o + vs.length ≤ cs.size →
  ∃ cs', (w.setCells b o vs).heap[b]? = some (.cells cs' e fr) ∧ cs'.size = cs.size ∧ (∀ j, cs'[j]? = if o ≤ j ∧ j < o + vs.length then vs[j - o]? else cs[j]?) ∧ (∀ k, k ≠ b → (w.setCells b o vs).heap[k]? = w.heap[k]?) ∧
   (w.setCells b o vs).os = w.os ∧ (w.setCells b o vs).tape = w.tape ∧ (w.setCells b o vs).output = w.output ∧ (w.setCells b o vs).heap.size = w.heap.size
 | [], o, w, cs, h, hl => ⟨cs, h, rfl, fun j => by rw [if_neg (by intro q; simp at q; omega)], fun _ _ => rfl, rfl, rfl, rfl, rfl⟩
 | v :: r, o, w, cs, h, hl => by
  simp only [List.length_cons] at hl
  obtain ⟨h1, h2⟩ := setCell_row (o := o) v h
  obtain ⟨cs', g1, g2, g3, g4, g5, g6, g7, g8⟩ := setCells_row r (o + 1) _ _ h1 (by simp; omega)
  refine ⟨cs', g1, by rw [g2]; simp, fun j => ?_, fun k hk => (g4 k hk).trans (h2 k hk), g5, g6, g7, ?_⟩
  ·rw [g3]
   simp only [List.length_cons, Array.getElem?_setIfInBounds]
   by_cases hj : j = o
   ·subst hj
    rw [if_neg (by omega), if_pos rfl, if_pos (by omega), if_pos (by omega)]
    simp
   ·by_cases hj2 : o + 1 ≤ j ∧ j < o + 1 + r.length
    ·rw [if_pos hj2, if_pos (by omega)]
     rw [show j - o = (j - (o + 1)) + 1 from by omega, List.getElem?_cons_succ]
    ·rw [if_neg hj2, if_neg (Ne.symm hj), if_neg (by omega)]
  ·simp only [World.setCells] at g8 ⊢
   rw [g8]; simp [World.setCell]
def News (ok : Oks) (w : World) (z : Nat) (l : List V) (news : List Value) : Prop :=
 news.length = l.length * z ∧ (∀ i (h : i < l.length), (l[i]'h).flat.length = z) ∧ ∀ i (h : i < l.length) j (hj : j < (l[i]'h).flat.length), ((l[i]'h).flat[j]'hj).cell = true ∧ ∃ u, news[i * z + j]? = some u ∧ Rep ok w ((l[i]'h).flat[j]'hj) u
theorem RowAt.news {ok : Oks} {w : World} {b off z : Nat} {l : List V} (r : RowAt ok w b off z l) : ∃ news : List Value, News ok w z l news ∧ (∀ j u, news[j]? = some u → w.cell? ⟨b, off + j, none⟩ = some u) ∧ ∀ u ∈ news, u.oneCell' = true := by
 have all : ∀ k, k < l.length * z → ∃ u, w.cell? ⟨b, off + k, none⟩ = some u ∧ u.oneCell' = true := by
  intro k hk
  rcases Nat.eq_zero_or_pos z with h0 | h0
  ·subst h0; omega
  ·have h1 : k / z < l.length := Nat.div_lt_of_lt_mul (by rw [Nat.mul_comm]; exact hk)
   have h3 : k / z * z + k % z = k := by rw [Nat.mul_comm]; exact Nat.div_add_mod k z
   have h4 : k % z < (l[k / z]'h1).flat.length := by rw [r.hz]; exact Nat.mod_lt _ h0
   obtain ⟨u, hu, hr⟩ := r.hr (k / z) h1 (k % z) h4
   rw [h3] at hu
   exact ⟨u, hu, (hr.oneCell (r.hcell _ _ _ h4)).2⟩
 refine ⟨(List.range (l.length * z)).map fun k => (w.cell? ⟨b, off + k, none⟩).getD undef, ⟨by simp, r.hz, fun i hi j hj => ⟨r.hcell i hi j hj, ?_⟩⟩, fun j u hu => ?_, fun u hu => ?_⟩
 ·obtain ⟨u, hu, hr⟩ := r.hr i hi j hj
  refine ⟨u, ?_, hr⟩
  have h2 : i * z + z ≤ l.length * z := by rw [← Nat.succ_mul]; exact Nat.mul_le_mul_right _ hi
  have h1 := r.hz i hi
  rw [List.getElem?_map, List.getElem?_range (by omega)]
  simp [hu]
 ·rw [List.getElem?_map] at hu
  by_cases hj : j < l.length * z
  ·obtain ⟨v, hv, _⟩ := all j hj
   rw [List.getElem?_range hj] at hu
   simp [hv] at hu
   rw [hv, hu]
  ·rw [List.getElem?_eq_none (by simp; omega)] at hu
   simp at hu
 ·obtain ⟨k, hk, rfl⟩ := List.mem_map.1 hu
  obtain ⟨v, hv, h1⟩ := all k (by simpa using hk)
  rw [hv]; exact h1
theorem News.nil (ok : Oks) (w : World) (z : Nat) : News ok w z [] [] := ⟨by simp, by simp, by simp⟩
theorem News.mono {ok ok' : Oks} {w w' : World} {z : Nat} {l : List V} {news : List Value} (hs : Same ok ok' w w') (h : News ok w z l news) : News ok' w' z l news :=
 ⟨h.1, h.2.1, fun i hi j hj => by
  obtain ⟨h1, u, h2, h3⟩ := h.2.2 i hi j hj
  exact ⟨h1, u, h2, h3.mono hs⟩⟩
theorem News.append {ok : Oks} {w : World} {z : Nat} {l l2 : List V} {n n2 : List Value} (h : News ok w z l n) (h2 : News ok w z l2 n2) : News ok w z (l ++ l2) (n ++ n2) := by
 refine ⟨by rw [List.length_append, List.length_append, h.1, h2.1, Nat.add_mul], fun i hi => ?_, fun i hi j hj => ?_⟩
 ·by_cases hlt : i < l.length
  ·rw [List.getElem_append_left hlt]; exact h.2.1 i hlt
  ·rw [List.getElem_append_right (by omega)]; exact h2.2.1 _ _
 ·by_cases hlt : i < l.length
  ·have e : (l ++ l2)[i]'hi = l[i]'hlt := List.getElem_append_left hlt
   have hj' : j < (l[i]'hlt).flat.length := by rw [← e]; exact hj
   obtain ⟨q1, u, q2, q3⟩ := h.2.2 i hlt j hj'
   have hz := h.2.1 i hlt
   have hle : i * z + z ≤ l.length * z := by rw [← Nat.succ_mul]; exact Nat.mul_le_mul_right _ hlt
   simp only [e]
   exact ⟨q1, u, by rw [List.getElem?_append_left (by rw [h.1]; omega)]; exact q2, q3⟩
  ·have hlt2 : i - l.length < l2.length := by simp at hi; omega
   have e : (l ++ l2)[i]'hi = l2[i - l.length]'hlt2 := List.getElem_append_right (by omega)
   have hj' : j < (l2[i - l.length]'hlt2).flat.length := by rw [← e]; exact hj
   obtain ⟨q1, u, q2, q3⟩ := h2.2.2 _ hlt2 j hj'
   simp only [e]
   refine ⟨q1, u, ?_, q3⟩
   have hi2 : i * z + j = n.length + ((i - l.length) * z + j) := by
    rw [h.1, ← Nat.add_assoc, ← Nat.add_mul]
    congr 2; omega
   rw [hi2, List.getElem?_append_right (by omega)]
   rw [Nat.add_sub_cancel_left]; exact q2
theorem row_of_news {ok : Oks} {w : World} {b z : Nat} {l : List V} {news : List Value} (h : News ok w z l news) (hc : ∀ j u, news[j]? = some u → w.cell? ⟨b, j, none⟩ = some u) : RowAt ok w b 0 z l :=
 ⟨h.2.1, fun i hi j hj => (h.2.2 i hi j hj).1, fun i hi j hj => by
  obtain ⟨_, u, h2, h3⟩ := h.2.2 i hi j hj
  exact ⟨u, by rw [Nat.zero_add]; exact hc _ _ h2, h3⟩⟩
theorem RowAt.take {ok : Oks} {w : World} {b off z : Nat} {l : List V} (r : RowAt ok w b off z l) (n : Nat) : RowAt ok w b off z (l.take n) where
 hz i hi := by simp only [List.getElem_take]; exact r.hz _ _
 hcell i hi j hj := by simp only [List.getElem_take]; exact r.hcell i (by simp at hi; omega) j (by simpa using hj)
 hr i hi j hj := by simp only [List.getElem_take]; exact r.hr i (by simp at hi; omega) j (by simpa using hj)
section
variable {P : Program} {R : List (Nat × AObj) → List D → Prop} (hT : tableOf P = T)
include hT
theorem src_sound {ob : List (Nat × AObj)} {z : Nat} {t2 : Nat} {d : D} {K : List V → Prop} (hk : isSrcT (tyOf t2).k d = true) (hz0 : 0 < z) (h : srcW (std P R) z ob d K) :
  ∃ l, K l ∧ ∀ (E : Env) (ok : Oks) (w : World) (u : Value), (∀ id o, look ob id = some o → ObjRep E ok w id o) → RepD E ok w d u → ∃ news, Src P z t2 u l.length news w ∧ News ok w z l news := by
 unfold srcW at h
 split at h
 ·rename_i l
  have hk' : ∃ e, (tyOf t2).k = .slice e := by
   unfold isSrcT at hk; split at hk <;> simp_all
  obtain ⟨e, hk'⟩ := hk'
  obtain ⟨hsz, h⟩ := h
  refine ⟨l, h, fun E ok w u ho hr => ?_⟩
  obtain ⟨ad, c, rfl, _, _, z', hz, hcell, hp⟩ := slice_row (repD_v hr)
  cases ad with
  | none =>
   have hl : l = [] := by
    rcases Nat.eq_zero_or_pos l.length with q | q
    ·exact List.eq_nil_of_length_eq_zero q
    ·obtain ⟨_, _, q', _⟩ := hp q; cases q'
   subst hl
   exact ⟨[], Src.ofNil w (ty_slice hT hk') c, News.nil _ _ _⟩
  | some ad =>
   rcases Nat.eq_zero_or_pos l.length with q | q
   ·have hl := List.eq_nil_of_length_eq_zero q
    subst hl
    exact ⟨[], Src.ofSlice w (ty_slice hT hk') ad 0 c [] (by simp) (by simp) (by simp), News.nil _ _ _⟩
   ·obtain ⟨b, off, e1, hrow, _⟩ := hp q
    cases e1
    have hzz : z' = z := by
     rw [← hz 0 q]; exact hsz _ (List.getElem_mem _)
    subst hzz
    obtain ⟨news, n1, n2, n3⟩ := hrow.news
    exact ⟨news, Src.ofSlice w (ty_slice hT hk') _ l.length c news n1.1 (fun j u hu => by rw [add_plain]; exact n2 j u hu) n3, n1⟩
 ·rename_i s
  split at h
  ·rename_i hz1
   subst hz1
   have hk' : (tyOf t2).k = .str := by
    unfold isSrcT at hk; split at hk <;> simp_all
   refine ⟨_, h, fun E ok w u ho hr => ?_⟩
   rw [repD_str hr]
   have hs := Src.ofString (P := P) w (ty_str hT hk') ⟨s.toArray⟩
   rw [size_mk] at hs
   have hlen : (bytesV s).length = s.length := by simp [bytesV]
   refine ⟨_, by simp only [std]; rw [hlen]; exact hs, ?_⟩
   refine ⟨by simp [byteCells, std, hlen], fun i hi => by simp only [std, bytesV_get]; rfl, fun i hi j hj => ?_⟩
   simp only [std] at hi hj ⊢
   have hf : ((bytesV s)[i]'hi).flat = [.int .u8 (s[i]'(by omega)).toNat] := by rw [bytesV_get]; rfl
   have hj0 : j = 0 := by rw [hf] at hj; simpa using hj
   subst hj0
   simp only [hf, List.getElem_cons_zero]
   refine ⟨rfl, .int .u8 (s[i]'(by omega)).toNat, ?_, .int _ _⟩
   simp [byteCells, show i < s.length from by omega]
  ·exact h.elim
 ·have hk' : ∃ e, (tyOf t2).k = .slice e := by
   unfold isSrcT at hk; split at hk <;> simp_all
  obtain ⟨e, hk'⟩ := hk'
  refine ⟨_, h, fun E ok w u ho hr => ?_⟩
  rw [repD_nils hr]
  exact ⟨[], Src.ofNil w (ty_slice hT hk') 0, News.nil _ _ _⟩
 ·have hk' : ∃ e, (tyOf t2).k = .slice e := by
   unfold isSrcT at hk; split at hk <;> simp_all
  obtain ⟨e, hk'⟩ := hk'
  refine ⟨_, h, fun E ok w u ho hr => ?_⟩
  rw [rep_nils (repD_v hr)]
  exact ⟨[], Src.ofNil w (ty_slice hT hk') 0, News.nil _ _ _⟩
 ·rename_i id
  have hk' : ∃ e, (tyOf t2).k = .slice e := by
   unfold isSrcT at hk; split at hk <;> simp_all
  obtain ⟨e, hk'⟩ := hk'
  split at h
  ·rename_i z' l ex hrow
   split at h
   ·rename_i hz
    subst hz
    refine ⟨_, h, fun E ok w u ho hr => ?_⟩
    rw [repD_own hr]
    rcases ho _ _ (rowOf_some hrow) with ⟨rfl, _, h3⟩ | ⟨b, cap, cs, e', h1, h2, h3, h4, h5, h6, h7, h8⟩
    ·rw [h3]; exact ⟨[], Src.ofNil w (ty_slice hT hk') 0, News.nil _ _ _⟩
    ·obtain ⟨news, n1, n2, n3⟩ := h7.news
     rw [h2]
     exact ⟨news, Src.ofSlice w (ty_slice hT hk') _ l.length cap news n1.1 (fun j u hu => by rw [add_plain]; exact n2 j u hu) n3, n1⟩
   ·exact h.elim
  ·exact h.elim
 ·rename_i id n
  have hk' : ∃ e, (tyOf t2).k = .slice e := by
   unfold isSrcT at hk; split at hk <;> simp_all
  obtain ⟨e, hk'⟩ := hk'
  split at h
  ·rename_i gh pub hh
   obtain ⟨l, ⟨q1, q2, q3⟩, h⟩ := h
   refine ⟨_, h, fun E ok w u ho hr => ?_⟩
   obtain ⟨_, hrow⟩ := (ho _ _ (heapOf_some hh)).2.obj _ _ q1
   obtain ⟨_, hv⟩ := rep_gs (repD_v hr)
   rcases hv with ⟨rfl, _, rfl⟩ | ⟨b, hb, h0, hc, hm, rfl⟩
   ·exact ⟨[], Src.ofNil w (ty_slice hT hk') 0, News.nil _ _ _⟩
   ·rcases hrow with ⟨rfl, hb'⟩ | ⟨b', cs, e', hb', h2, h3, h4, h5, h6, h7⟩
    ·rw [hb] at hb'; cases hb'
    ·rw [hb] at hb'; cases hb'
     have hlen : (l.take n.toNat).length = n.toNat := by rw [List.length_take]; omega
     obtain ⟨news, n1, n2, n3⟩ := (h6.take n.toNat).news
     refine ⟨news, ?_, n1⟩
     suffices q : ∀ m, m = (l.take n.toNat).length → Src P z t2 (.slice (some ⟨b, 0, none⟩) m (ok.cap id)) (l.take n.toNat).length news w from q _ hlen.symm
     rintro _ rfl
     exact Src.ofSlice w (ty_slice hT hk') _ (l.take n.toNat).length (ok.cap id) news n1.1 (fun j u hu => by rw [add_plain]; exact n2 j u hu) n3
  ·exact h.elim
 ·exact h.elim
end
open Go Go.RowKit
def okApp (ok : Oks) (ex : Bool) (b n : Nat) : Oks := { ok with ok := fun b' o' => ok b' o' ∨ (ex = false ∧ b' = b ∧ o' < n) }
def Env.set (E : Env) (id : Nat) (b : Option Nat) (len cap : Nat) : Env :=
 { blk := fun j => if j = id then b else E.blk j, ha := fun j => if j = id then b.map (⟨·, 0, none⟩) else E.ha j, hl := fun j => if j = id then len else E.hl j, hc := fun j => if j = id then cap else E.hc j }
theorem Env.set_ne (E : Env) (id : Nat) (b : Option Nat) (len cap : Nat) : ∀ j, j ≠ id → (E.set id b len cap).blk j = E.blk j ∧ (E.set id b len cap).hdr j = E.hdr j := by
 intro j hj; simp [Env.set, Env.hdr, hj]
theorem Env.set_blk (E : Env) (id : Nat) (b : Option Nat) (len cap : Nat) : (E.set id b len cap).blk id = b := by simp [Env.set]
theorem Env.set_hdr (E : Env) (id : Nat) (b : Option Nat) (len cap : Nat) : (E.set id b len cap).hdr id = .slice (b.map (⟨·, 0, none⟩)) len cap := by simp [Env.set, Env.hdr]
def After (G : Gh) (K : St → Prop) (a : Act) (w : World) : Prop := ∃ E ok S, K S ∧ Conc G E ok S a w
theorem grow_drew_alloc (w : World) (ok : Oks) (o : Obj) (n : Nat) : Grow w ok (w.drew.alloc o) (okAdd ok w.heap.size n) :=
 ⟨((Below.refl _ w).drew).alloc (Nat.le_refl _) o, fun _ _ h => .inl h, fun b o h => by
  rcases h with h | ⟨rfl, _⟩
  ·exact .inl h
  ·exact .inr ⟨Nat.le_refl _, by simp⟩, ⟨rfl, rfl, rfl⟩⟩
theorem Conc.newRow {G : Gh} {E : Env} {ok ok' : Oks} {S : St} {a : Act} {w w' : World} (c : Conc G E ok S a w) (d : Nat) (dst : Option Nat) (hdst : dst = some d) {z n cap : Nat} {l : List V} {ex : Bool} {cs : Array Value} {e : TypeId}
  (g : Grow w ok w' ok') (hok : ∀ o, ok' w.heap.size o ↔ ex = false ∧ o < l.length * z) (hh : w'.heap[w.heap.size]? = some (.cells cs e)) (hn : l.length = n) (hcs : cs.size = cap * z) (hc : n ≤ cap) (hm : cap ≤ maxLen) (hr : RowAt ok' w' w.heap.size 0 z l) :
  Conc G (E.set d (some w.heap.size) n cap) ok' ((S.new d (.row z l ex)).put dst (.own d)) (a.put dst (.slice (some ⟨w.heap.size, 0, none⟩) n cap)) w' ∧
  Conc G (E.set d (some w.heap.size) n cap) ok' ((S.new d (.row z l ex)).put dst (.ptr d 0)) (a.put dst (.pointer (some ⟨w.heap.size, 0, none⟩))) w' := by
 have c1 := c.step (Step.of_grow c g)
 have c2 := c1.add (E' := E.set d (some w.heap.size) n cap) d (.row z l ex) (E.set_ne _ _ _ _) (.inr ⟨w.heap.size, cap, cs, e, E.set_blk _ _ _ _, by rw [E.set_hdr, hn]; rfl, hh, hcs, by omega, hm, hr, hok⟩) (fun b hb => by
  rw [E.set_blk] at hb
  cases hb
  refine ⟨fun j p _ hj hb => ?_, c.size⟩
  rw [occ_env g.env] at hb
  have := obj_lt c hj hb
  omega)
 constructor
 ·refine c2.put dst ?_
  have h1 := RepD.own (E := E.set d (some w.heap.size) n cap) (ok := ok') (w := w') d
  rw [E.set_hdr] at h1
  exact h1
 ·exact c2.put dst (.ptr _ _ _ (E.set_blk _ _ _ _))
section
variable {P : Program} {R : List (Nat × AObj) → List D → Prop} (hT : tableOf P = T)
include hT
theorem append_grow {G : Gh} {E : Env} {ok : Oks} {S : St} {a : Act} {w : World} (c : Conc G E ok S a w) {o : Oper} {d : Nat} (hd : o.dst = some d) {t t2 e : Nat} (hk : (tyOf t).k = .slice e) (hkn : known (tyOf e).k = true) (hz0 : 0 < (tyOf e).size)
  {base : Option Addr} {n cap m : Nat} {l l2 : List V} {ex : Bool} {x : Value} {olds news : List Value} (hl : l.length = n) (hl2 : l2.length = m) (hs : Src P (tyOf e).size t2 x m news w) (hnews : News ok w (tyOf e).size l2 news) (holds : News ok w (tyOf e).size l olds)
  (hold : (Builtin.firstCells (tyOf e).size n (.slice base n cap)).run P w.drew = .ok olds.toArray w.drew) (hg : cap < n + m) (hroom : (n + m) * (tyOf e).bytes ≤ 140737488355328) (hb0 : 0 < (tyOf e).bytes) :
  ∃ v w', (Builtin.append_ #[t, t2] o.type #[.slice base n cap, x]).run P w = .ok v w' ∧ ∃ E' ok', Conc G E' ok' ((S.new d (.row (tyOf e).size (l ++ l2) ex)).put o.dst (.own d)) (a.put o.dst v) w' := by
 obtain ⟨i, zv, hi, hz, hsz, hby, _, _, _, hzs⟩ := ty_info hT (t := e) (known_ne' hkn)
 have hnm : n + m ≤ 140737488355328 := Nat.le_trans (Nat.le_mul_of_pos_right _ hb0) hroom
 have hrun := run_append_grow_src (P := P) w t t2 o.type e i zv (ty_slice hT hk) hi hz base n cap olds (by rw [hsz]; exact hold) x m news (by rw [hsz]; exact hs) hg (by omega) (growslice_fits hg (by rw [hby]; exact hroom))
 have c1 := grownCap_ge w (n + m) cap e
 have c2 := grownCap_le_maxLen w (n + m) cap e (by simp [maxLen]; omega)
 generalize grownCap w (n + m) cap e = q at hrun c1 c2
 have hall := holds.append hnews
 have hlen : (olds ++ news).length = (n + m) * (tyOf e).size := by rw [hall.1, List.length_append, hl, hl2]
 have hcs : ((olds ++ news).toArray ++ Builtin.zeroCells zv.cells (q - (n + m))).size = q * (tyOf e).size := by
  have hzc : (Builtin.zeroCells zv.cells (q - (n + m))).size = (q - (n + m)) * (tyOf e).size := by simp [Builtin.zeroCells, hzs, hsz]
  rw [Array.size_append, hzc]
  simp only [List.size_toArray, hlen]
  rw [← Nat.add_mul]; congr 1; omega
 refine ⟨_, _, hrun, E.set d (some w.heap.size) (n + m) q, okAdd ok w.heap.size (match ex with | true => 0 | false => (n + m) * (tyOf e).size), ?_⟩
 have hg := grow_drew_alloc w ok (.cells ((olds ++ news).toArray ++ Builtin.zeroCells zv.cells (q - (n + m))) e) (match ex with | true => 0 | false => (n + m) * (tyOf e).size)
 have hsame := hg.same c.okb
 have hheap : (w.drew.alloc (.cells ((olds ++ news).toArray ++ Builtin.zeroCells zv.cells (q - (n + m))) e)).heap[w.heap.size]? = some (.cells ((olds ++ news).toArray ++ Builtin.zeroCells zv.cells (q - (n + m))) e) := heap_alloc_new w.drew _
 exact (c.newRow d o.dst hd hg (fun o => by
  have hno : ¬ ok w.heap.size o := fun h => by have := c.okb _ _ h; omega
  cases ex <;> simp [okAdd, hno, List.length_append, hl, hl2]) hheap (by simp [hl, hl2]) hcs c1 c2 (row_of_news (hall.mono hsame) (fun j u hu => by
   rw [cell_of_heap hheap]
   have hj : j < (olds ++ news).length := (List.getElem?_eq_some_iff.1 hu).1
   rw [Array.getElem?_append_left (by simpa using hj)]
   simpa using hu))).1
theorem append_room {G : Gh} {E : Env} {ok : Oks} {S : St} {a : Act} {w : World} (c : Conc G E ok S a w) {o : Oper} {d id : Nat} (hd : o.dst = some d) {t t2 e : Nat} (hk : (tyOf t).k = .slice e) (hkn : known (tyOf e).k = true) (hz0 : 0 < (tyOf e).size)
  {b n cap m : Nat} {l l2 : List V} {ex : Bool} {x : Value} {news : List Value} (hob : look S.ob id = some (.row (tyOf e).size l ex)) (hb : E.blk id = some b) (hh : E.hdr id = .slice (some ⟨b, 0, none⟩) n cap) {cs : Array Value} {e0 : TypeId} (hheap : w.heap[b]? = some (.cells cs e0)) (hcs : cs.size = cap * (tyOf e).size) (hm : cap ≤ maxLen)
  (hrow : RowAt ok w b 0 (tyOf e).size l) (hok : ∀ o, ok b o ↔ ex = false ∧ o < l.length * (tyOf e).size) (hl : l.length = n) (hl2 : l2.length = m) (hs : Src P (tyOf e).size t2 x m news w) (hnews : News ok w (tyOf e).size l2 news) (hfit : n + m ≤ cap) :
  ∃ v w', (Builtin.append_ #[t, t2] o.type #[.slice (some ⟨b, 0, none⟩) n cap, x]).run P w = .ok v w' ∧ ∃ E' ok', Conc G E' ok' ((({ S with ob := remOb id S.ob } : St).new d (.row (tyOf e).size (l ++ l2) ex)).put o.dst (.own d)) (a.put o.dst v) w' := by
 obtain ⟨i, zv, hi, hz, hsz, hby, _, _, _, hzs⟩ := ty_info hT (t := e) (known_ne' hkn)
 generalize hzz : (tyOf e).size = z at *
 have hmul : (n + m) * z ≤ cap * z := Nat.mul_le_mul_right _ hfit
 have hlen : news.length = m * z := by rw [hnews.1, hl2]
 have hadd : (n + m) * z = n * z + m * z := Nat.add_mul _ _ _
 have hrun := run_append_room_src (P := P) w t t2 o.type e i (ty_slice hT hk) hi b 0 n cap x m news (by rw [hsz]; exact hs) hfit (fun j hj => by
   rw [cell_of_heap hheap, hsz]
   simp; omega) (fun j hj => by simp [World.frozen?, hheap])
 rw [hsz] at hrun
 obtain ⟨cs', g1, g2, g3, g4, g5, g6, g7, g8⟩ := setCells_row news (0 + n * z) w cs hheap (by omega)
 have hbsz := heap_lt hheap
 have hcell : ∀ b' o', (b' ≠ b ∨ o' < n * z) → (w.setCells b (0 + n * z) news).cell? ⟨b', o', none⟩ = w.cell? ⟨b', o', none⟩ := by
  intro b' o' h
  by_cases hbb : b' = b
  ·subst hbb
   rw [cell_of_heap g1, cell_of_heap hheap, g3, if_neg (by omega)]
  ·simp only [World.cell?, g4 b' hbb]
 have hsame : Same ok (okApp ok ex b ((n + m) * z)) w (w.setCells b (0 + n * z) news) :=
  ⟨fun _ _ h => .inl h, fun b' o' h => hcell b' o' (by
   by_cases hbb : b' = b
   ·subst hbb
    have := ((hok o').1 h).2
    rw [hl] at this
    exact .inr this
   ·exact .inl hbb), ⟨Nat.le_refl _, fun _ _ => rfl, fun _ _ => rfl⟩⟩
 have c1 := c.rem id
 have c2 := c1.step (w' := w.setCells b (0 + n * z) news) (ok' := okApp ok ex b ((n + m) * z)) {
  same := hsame
  env := ⟨rfl, rfl, rfl⟩
  blocks := fun j p b' hj hb' => by
   simp only [look_remOb] at hj
   split at hj
   ·cases hj
   ·rename_i hne
    have hbb : b' ≠ b := fun q => by
     subst q
     exact c.apart j id p _ b' hj hob hne hb' hb
    exact ⟨g4 b' hbb, fun o' q => by
     rcases q with q | ⟨_, q, _⟩
     ·exact q
     ·exact absurd q hbb⟩
  okb := fun b' o' q => by
   rw [g8]
   rcases q with q | ⟨_, rfl, _⟩
   ·exact c.okb _ _ q
   ·exact hbsz
  newk := fun b' o' q => q.imp (fun h => h) fun ⟨_, hb', _⟩ => by subst hb'; exact .inl (c.regL hob (fun h => h) hb)
  os := g5
  tape := g6
  output := g7
  size := by rw [g8]; exact Nat.le_refl _
  old := fun k h1 h2 => g4 k (fun q => by
   subst q
   rcases c.reg id _ _ hob hb with h3 | h3
   ·omega
   ·exact h2 h3.2) }
 refine ⟨_, _, hrun, E.set d (some b) (n + m) cap, okApp ok ex b ((n + m) * z), ?_⟩
 have hall : News (okApp ok ex b ((n + m) * z)) (w.setCells b (0 + n * z) news) z (l ++ l2) ((List.range (n * z)).map (fun k => (w.cell? ⟨b, k, none⟩).getD undef) ++ news) := by
  suffices h0 : News ok w z l ((List.range (n * z)).map (fun k => (w.cell? ⟨b, k, none⟩).getD undef)) from (h0.mono hsame).append (hnews.mono hsame)
  refine ⟨by simp [hl], hrow.hz, fun i hi j hj => ⟨hrow.hcell i hi j hj, ?_⟩⟩
  obtain ⟨u, hu, hr⟩ := hrow.hr i hi j hj
  refine ⟨u, ?_, hr⟩
  have h1 := hrow.hz i hi
  have h2 : i * z + z ≤ l.length * z := by rw [← Nat.succ_mul]; exact Nat.mul_le_mul_right _ hi
  rw [hl] at h2
  rw [List.getElem?_map, List.getElem?_range (by omega)]
  simp at hu
  simp [hu]
 have hrow' : RowAt (okApp ok ex b ((n + m) * z)) (w.setCells b (0 + n * z) news) b 0 z (l ++ l2) := by
  refine row_of_news hall (fun j u hu => ?_)
  rw [cell_of_heap g1, g3]
  by_cases hj : j < n * z
  ·rw [if_neg (by omega)]
   rw [List.getElem?_append_left (by simpa using hj), List.getElem?_map, List.getElem?_range hj] at hu
   simp at hu
   have h2 : j < cs.size := by omega
   rw [cell_of_heap hheap, Array.getElem?_eq_getElem h2] at hu
   rw [Array.getElem?_eq_getElem h2]
   simpa using hu
  ·rw [List.getElem?_append_right (by simpa using hj)] at hu
   simp only [List.length_map, List.length_range] at hu
   have h2 := (List.getElem?_eq_some_iff.1 hu).1
   rw [if_pos (by omega)]
   simpa using hu
 have c3 := c2.add (E' := E.set d (some b) (n + m) cap) d (.row z (l ++ l2) ex) (E.set_ne _ _ _ _) (.inr ⟨b, cap, cs', e0, E.set_blk _ _ _ _, by rw [E.set_hdr]; simp [hl, hl2], g1, by rw [g2, hcs], by simp [hl, hl2]; omega, hm, hrow', fun o' => by
   show (ok b o' ∨ (ex = false ∧ b = b ∧ o' < (n + m) * z)) ↔ _
   rw [hok o']
   simp only [List.length_append, hl, hl2]
   constructor
   ·rintro (⟨q1, q2⟩ | ⟨q1, _, q2⟩)
    ·exact ⟨q1, by omega⟩
    ·exact ⟨q1, q2⟩
   ·rintro ⟨q1, q2⟩
    exact .inr ⟨q1, trivial, q2⟩⟩) (fun b' hb' => by
  rw [E.set_blk] at hb'
  cases hb'
  refine ⟨fun j p _ hj hb' => ?_, c.regL hob (fun h => h) hb⟩
  simp only [look_remOb] at hj
  split at hj
  ·cases hj
  ·rename_i hne
   exact c.apart j id p _ b hj hob hne hb' hb)
 refine c3.put o.dst ?_
 have h1 := RepD.own (E := E.set d (some b) (n + m) cap) (ok := okApp ok ex b ((n + m) * z)) (w := w.setCells b (0 + n * z) news) d
 rw [E.set_hdr] at h1
 exact h1
end
open Go Go.RowKit
theorem ev_rep {G : Gh} {E : Env} {ok : Oks} {S : St} {a : Act} {w : World} (c : Conc G E ok S a w) (x : Operand) : RepD E ok w (S.ev x) (a.eval x) := by
 cases x with
 | tmp t => exact c.slot t
 | const v => exact constD_rep _ _ _ _
 | global g => exact .any _
 | func f => exact RepD.fn (E := E) (ok := ok) (w := w) f [] [] rfl (by simp)
theorem Conc.qh {G : Gh} {E : Env} {ok : Oks} {S : St} {a : Act} {w : World} (c : Conc G E ok S a w) (op : Op) : QH E ok w a S.ob S.ev op :=
 ⟨fun x _ => ev_rep c x, c.obj, c.okb⟩
theorem Conc.softOb' {G : Gh} {E : Env} {a : Act} {w : World} (ids : List Nat) : ∀ {ok : Oks} {S : St}, Conc G E ok S a w → ∃ ok' : Oks, (∀ b o, ok b o → ok' b o) ∧ EnvEq ok ok' ∧ Conc G E ok' { S with ob := softOb S.ob ids } a w := by
 induction ids with
 | nil => exact fun {ok S} c => ⟨ok, fun _ _ h => h, .refl _, c⟩
 | cons id r ih =>
  intro ok S c
  unfold AM.softOb
  split
  ·rename_i z l hl
   rcases c.obj _ _ hl with ⟨h1, h2, h3⟩ | ⟨b, cap, cs, e, h1, h2, h3, h4, h5, h6, h7, h8⟩
   ·have c1 := (c.rem id).back (S := S) (.row z l false) (.inl ⟨h1, h2, h3⟩) (fun b hb => by rw [h2] at hb; cases hb)
    exact ih c1
   ·have hs : Same ok (okAdd ok b (l.length * z)) w w := ⟨fun _ _ h => .inl h, fun _ _ _ => rfl, ⟨Nat.le_refl _, fun _ _ => rfl, fun _ _ => rfl⟩⟩
    have c1 := (c.rem id).step (w' := w) (ok' := okAdd ok b (l.length * z)) {
     same := hs
     env := ⟨rfl, rfl, rfl⟩
     blocks := fun j p b' hj hb' => ⟨rfl, fun o' q => by
      simp only [look_remOb] at hj
      split at hj
      ·cases hj
      ·rename_i hne
       rcases q with q | ⟨rfl, _⟩
       ·exact q
       ·exact absurd h1 (c.apart j id p _ b' hj hl hne hb')⟩
     okb := fun b' o' q => by
      rcases q with q | ⟨rfl, _⟩
      ·exact c.okb _ _ q
      ·exact heap_lt h3
     newk := fun b' o' q => q.imp (fun h => h) fun ⟨hb', _⟩ => by subst hb'; exact .inl (c.regL hl (fun h => h) h1)
     os := rfl, tape := rfl, output := rfl, size := Nat.le_refl _, old := fun _ _ _ => rfl }
    have c2 := c1.back (S := S) (.row z l false) (.inr ⟨b, cap, cs, e, h1, h2, h3, h4, h5, h6, h7.mono hs (fun _ _ => rfl), fun o' => by
     show (ok b o' ∨ (b = b ∧ o' < l.length * z)) ↔ _
     rw [h8 o']; simp⟩) (fun b' hb' => by
      rw [h1] at hb'; cases hb'
      exact ⟨fun j p hne hj hb' => c.apart j id p _ _ hj hl hne hb' h1, c.regL hl (fun h => h) h1⟩)
    obtain ⟨ok'', k1, ke, k2⟩ := ih c2
    exact ⟨ok'', fun b' o' q => k1 _ _ (.inl q), ⟨ke.next, ke.blk, ke.cap⟩, k2⟩
  ·rename_i l hl
   split
   ·rename_i x hx
    have hx' : toVs S.ob l = some x ∧ x.all V.cell = true := by
     unfold cellV at hx
     split at hx
     ·rename_i r hr
      split at hx
      ·rename_i hc; simp at hx; subst hx; exact ⟨hr, hc⟩
      ·simp at hx
     ·simp at hx
    obtain ⟨b, e, cs, h1, h2, h3, h4, h5⟩ := c.obj _ _ hl
    have hs : Same ok (okAdd ok b l.length) w w := ⟨fun _ _ h => .inl h, fun _ _ _ => rfl, ⟨Nat.le_refl _, fun _ _ => rfl, fun _ _ => rfl⟩⟩
    have hv := toVs_sound c.obj l x ((List.range l.length).map fun j => cs.getD j undef) hx'.1 (by simp) (fun i hi hi' => by
     obtain ⟨u, q1, q2, q3⟩ := h5 i hi
     simp only [List.getElem_map, List.getElem_range, Array.getD_eq_getD_getElem?, q1]
     exact q3)
    have c1 := (c.rem id).step (w' := w) (ok' := okAdd ok b l.length) {
     same := hs
     env := ⟨rfl, rfl, rfl⟩
     blocks := fun j p b' hj hb' => ⟨rfl, fun o' q => by
      simp only [look_remOb] at hj
      split at hj
      ·cases hj
      ·rename_i hne
       rcases q with q | ⟨rfl, _⟩
       ·exact q
       ·exact absurd h1 (c.apart j id p _ b' hj hl hne hb')⟩
     okb := fun b' o' q => by
      rcases q with q | ⟨rfl, _⟩
      ·exact c.okb _ _ q
      ·exact heap_lt h2
     newk := fun b' o' q => q.imp (fun h => h) fun ⟨hb', _⟩ => by subst hb'; exact .inl (c.regL hl (fun h => h) h1)
     os := rfl, tape := rfl, output := rfl, size := Nat.le_refl _, old := fun _ _ _ => rfl }
    have c2 := c1.back (S := S) (.cbox x) ⟨b, h1, heap_lt h2, fun j hj => List.all_eq_true.1 hx'.2 _ (List.getElem_mem hj), fun j hj => by
     have hj' : j < l.length := by rw [← hv.1]; exact hj
     obtain ⟨u, q1, q2, q3⟩ := h5 j hj'
     refine ⟨.inr ⟨rfl, hj'⟩, u, by rw [cell_of_heap h2]; exact q1, ?_⟩
     have := hv.2 j hj (by simpa using hj')
     simp only [List.getElem_map, List.getElem_range, Array.getD_eq_getD_getElem?, q1] at this
     exact this.mono hs⟩ (fun b' hb' => by
      rw [h1] at hb'; cases hb'
      exact ⟨fun j p hne hj hb' => c.apart j id p _ _ hj hl hne hb' h1, c.regL hl (fun h => h) h1⟩)
    obtain ⟨ok'', k1, ke, k2⟩ := ih c2
    exact ⟨ok'', fun b' o' q => k1 _ _ (.inl q), ⟨ke.next, ke.blk, ke.cap⟩, k2⟩
   ·exact ih c
  ·exact ih c
theorem Conc.softOb {G : Gh} {E : Env} {a : Act} {w : World} (ids : List Nat) {ok : Oks} {S : St} (c : Conc G E ok S a w) : ∃ ok', Conc G E ok' { S with ob := AM.softOb S.ob ids } a w := by
 obtain ⟨ok', _, _, c'⟩ := c.softOb' ids
 exact ⟨ok', c'⟩
section
variable {P : Program} {R : List (Nat × AObj) → List D → Prop} (hT : tableOf P = T)
theorem after_q (hT : tableOf P = T) {G : Gh} {E : Env} {ok : Oks} {S : St} {a : Act} {w : World} (c : Conc G E ok S a w) {o : Oper} {K : St → Prop} (h : rWp (std P R) S.ob S.ev o.op fun r => K (S.put o.dst r)) (Q : Exit → Act → World → Prop) :
  o.wp P a w (fun a' w' => After G K a' w') Q := by
 obtain ⟨d, hK, hd⟩ := r_sound hT S.ob S.ev o.op _ h
 exact hd E ok w a o rfl (c.qh _) _ Q fun v w' ok' g r => ⟨E, ok', _, hK, (c.grow g).put o.dst r⟩
theorem wp_value {o : Oper} {a : Act} {w w' : World} {v : Value} {next : Act → World → Prop} {Q : Exit → Act → World → Prop} (h : (execOp a.eval o).run P w = .ok (.value v) w') (hn : next (a.put o.dst v) w') : o.wp P a w next Q := by
 unfold Oper.wp; rw [h]; exact hn
theorem wp_skip' {o : Oper} {a : Act} {w w' : World} {next : Act → World → Prop} {Q : Exit → Act → World → Prop} (h : (execOp a.eval o).run P w = .ok .skip w') (hn : next (a.put o.dst undef) w') : o.wp P a w next Q := by
 unfold Oper.wp; rw [h]; exact hn
theorem Conc.newBox {G : Gh} {E : Env} {ok : Oks} {S : St} {a : Act} {w : World} (c : Conc G E ok S a w) (d : Nat) (dst : Option Nat) (l : List D) (cs : Array Value) (e : TypeId) (hl : cs.size = l.length)
  (hr : ∀ j (h : j < l.length), ∃ u, cs[j]? = some u ∧ u.oneCell' = true ∧ RepD E ok w (l[j]'h) u) :
  ∃ E', Conc G E' (okAdd ok w.heap.size 0) ((S.new d (.box l)).put dst (.ptr d 0)) (a.put dst (.pointer (some ⟨w.heap.size, 0, none⟩))) (w.alloc (.cells cs e)) := by
 have g := Grow.alloc w ok (.cells cs e) 0
 have hs := g.same c.okb
 have c1 := c.step (Step.of_grow c g)
 refine ⟨E.set d (some w.heap.size) 0 0, ?_⟩
 have c2 := c1.add (E' := E.set d (some w.heap.size) 0 0) d (.box l) (E.set_ne _ _ _ _) ⟨w.heap.size, e, cs, E.set_blk _ _ _ _, heap_alloc_new w _, by simpa using hl, fun o q => by
   rcases q with q | ⟨_, q⟩
   ·have := c.okb _ _ q; omega
   ·omega, fun j hj => by
   obtain ⟨u, q1, q2, q3⟩ := hr j (by simpa using hj)
   refine ⟨u, q1, q2, ?_⟩
   simp only [List.getElem_map]
   exact ((unD_rep d q3).mono hs).env (E.set_ne _ _ _ _) (mentions_unD d _)⟩ (fun b hb => by
  rw [E.set_blk] at hb
  cases hb
  refine ⟨fun j p _ hj hb => ?_, c.size⟩
  rw [occ_env g.env] at hb
  have := obj_lt c hj hb
  omega)
 exact c2.put dst (.ptr _ _ _ (E.set_blk _ _ _ _))
theorem exec_alloc (hT : tableOf P = T) {t : Nat} (hk : known (tyOf t).k = true) (w : World) : ∃ z : Value, (Instr.alloc t true (.tuple #[])).run P w = .ok (.pointer (some ⟨w.heap.size, 0, none⟩)) (w.alloc (.cells z.cells t)) ∧ (tyOf t).zero = z.cells.toList.map constD1 ∧ (∀ u ∈ z.cells.toList, u.oneCell' = true) ∧ z.cells.size = (tyOf t).size := by
 obtain ⟨i, z, hi, hz, hs, hb, hzero, _, hone, hzs⟩ := ty_info hT (known_ne' hk)
 refine ⟨z, ?_, hzero, hone, by omega⟩
 simp [Instr.alloc, zeroValue, typeInfo, program, Sem.run, hi, hz, newVar, newRow, newObj]
theorem e_alloc (hT : tableOf P = T) {G : Gh} {E : Env} {ok : Oks} {S : St} {a : Act} {w : World} (c : Conc G E ok S a w) {o : Oper} {t : Nat} (ho : o.op = .alloc t) {d : Nat} (hd : o.dst = some d) (hk : known (tyOf t).k = true) (Q : Exit → Act → World → Prop) {next : Act → World → Prop}
  (h : (∃ n e l, (tyOf t).k = .arr n e ∧ cellV [] (tyOf t).zero = some l ∧ l.length = n ∧ n ≤ 1000000 ∧ ∀ E' ok' w', Conc G E' ok' ((S.new d (.row 1 l true)).put (some d) (.ptr d 0)) (a.put o.dst (.pointer (some ⟨w.heap.size, 0, none⟩))) w' → next (a.put o.dst (.pointer (some ⟨w.heap.size, 0, none⟩))) w') ∨
   ∀ E' ok' w', Conc G E' ok' ((S.new d (.box (tyOf t).zero)).put (some d) (.ptr d 0)) (a.put o.dst (.pointer (some ⟨w.heap.size, 0, none⟩))) w' → next (a.put o.dst (.pointer (some ⟨w.heap.size, 0, none⟩))) w') : o.wp P a w next Q := by
 obtain ⟨z, hrun, hzero, hone, hsz⟩ := exec_alloc hT hk w
 refine wp_value (v := .pointer (some ⟨w.heap.size, 0, none⟩)) (w' := w.alloc (.cells z.cells t)) (by simp only [execOp, ho, Sem.run_bind, hrun, Result.andThen_ok, Sem.run_pure]) ?_
 rcases h with ⟨n, e, l, h1, h2, h3, h4, h⟩ | h
 ·have g := Grow.alloc w ok (.cells z.cells t) 0
  have hs := g.same c.okb
  have h2' : toVs [] (tyOf t).zero = some l ∧ l.all V.cell = true := by
   unfold cellV at h2
   split at h2
   ·rename_i r hr
    split at h2
    ·rename_i hc; simp at h2; subst h2; exact ⟨hr, hc⟩
    ·simp at h2
   ·simp at h2
  rw [hzero] at h2'
  have hv := toVs_sound (E := E) (ok := ok) (w := w) (ob := []) (by simp [look]) _ l z.cells.toList h2'.1 (by simp) (fun i h h' => by simp only [List.getElem_map]; exact constD1_rep _ _ _ _)
  have hlen : l.length = z.cells.size := by simpa using hv.1
  have hcl : ∀ j (hj : j < l.length), (l[j]'hj).cell = true := fun j hj => List.all_eq_true.1 h2'.2 _ (List.getElem_mem hj)
  have hrow : RowAt (okAdd ok w.heap.size 0) (w.alloc (.cells z.cells t)) w.heap.size 0 1 l := row_alloc (fun i hi => by rw [cell_flat (hcl i hi)]; rfl) (fun i hi j hj => by
   have hf := cell_flat (hcl i hi)
   have hj0 : j = 0 := by rw [hf] at hj; simpa using hj
   subst hj0
   have hi' : i < z.cells.size := by omega
   have := hv.2 i hi (by simpa using hi')
   refine ⟨by simpa [hf] using hcl i hi, z.cells[i]'hi', ?_, by simpa [hf] using this⟩
   rw [show i * 1 + 0 = i from by omega]; exact Array.getElem?_eq_getElem hi') c.okb
  have := (c.newRow d (some d) rfl (z := 1) (n := l.length) (cap := l.length) (l := l) (ex := true) g (fun o' => by
   have hno : ¬ ok w.heap.size o' := fun q => by have := c.okb _ _ q; omega
   simp [okAdd, hno]) (heap_alloc_new w _) rfl (by rw [← hlen]; omega) (Nat.le_refl _) (by simp [maxLen]; omega) hrow).2
  rw [hd]
  rw [hd] at h
  exact h _ _ _ this
 ·obtain ⟨E', hc⟩ := c.newBox d o.dst (tyOf t).zero z.cells t (by rw [hzero]; simp) (fun j hj => by
   have hj' : j < z.cells.toList.length := by rw [hzero] at hj; simpa using hj
   refine ⟨z.cells[j]'(by simpa using hj'), Array.getElem?_eq_getElem _, hone _ (by simp), ?_⟩
   simp only [hzero, List.getElem_map]
   have := constD1_rep E ok w (z.cells.toList[j]'hj')
   simpa using this)
  rw [hd] at hc
  rw [hd] at h ⊢
  exact h _ _ _ hc
end
end Go.Proofs.YthioccbgjkbmdaaGreat.AM
