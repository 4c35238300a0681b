/-
  The abstract machine, part 16: append.
-/
import Derived.Test.YtinckcpmkocakaaAmE
import Derived.Deep.AppendSrc
import Derived.Deep.Upon
set_option linter.unusedVariables false
set_option linter.unusedSimpArgs false
namespace Go.Proofs.Ytinckcpmkocakaa.AM
open Go Go.RowKit

theorem setCell_row {w : World} {b o : Nat} {cs : Array Value} {e : TypeId} {fr : Nat × Nat} (v : Value) (h : w.heap[b]? = some (.cells cs e fr)) :
    (w.setCell ⟨b, o, none⟩ v).heap[b]? = some (.cells (cs.setIfInBounds o v) e fr) ∧ ∀ k, k ≠ b → (w.setCell ⟨b, o, none⟩ v).heap[k]? = w.heap[k]? := by
  constructor
  · simp only [World.setCell, Array.getElem?_modify, if_pos, h, Option.map_some]
    simp
  · intro k hk
    simp only [World.setCell, Array.getElem?_modify]
    rw [if_neg (Ne.symm hk)]
theorem setCells_row {b : Nat} {e : TypeId} {fr : Nat × Nat} : ∀ (vs : List Value) (o : Nat) (w : World) (cs : Array Value), w.heap[b]? = some (.cells cs e fr) → o + vs.length ≤ cs.size →
    ∃ cs', (w.setCells b o vs).heap[b]? = some (.cells cs' e fr) ∧ cs'.size = cs.size ∧ (∀ j, cs'[j]? = if o ≤ j ∧ j < o + vs.length then vs[j - o]? else cs[j]?) ∧ (∀ k, k ≠ b → (w.setCells b o vs).heap[k]? = w.heap[k]?) ∧
      (w.setCells b o vs).os = w.os ∧ (w.setCells b o vs).tape = w.tape ∧ (w.setCells b o vs).output = w.output ∧ (w.setCells b o vs).heap.size = w.heap.size
  | [], o, w, cs, h, hl => ⟨cs, h, rfl, fun j => by rw [if_neg (by intro q; simp at q; omega)], fun _ _ => rfl, rfl, rfl, rfl, rfl⟩
  | v :: r, o, w, cs, h, hl => by
    simp only [List.length_cons] at hl
    obtain ⟨h1, h2⟩ := setCell_row (o := o) v h
    obtain ⟨cs', g1, g2, g3, g4, g5, g6, g7, g8⟩ := setCells_row r (o + 1) _ _ h1 (by simp; omega)
    refine ⟨cs', g1, by rw [g2]; simp, fun j => ?_, fun k hk => (g4 k hk).trans (h2 k hk), g5, g6, g7, ?_⟩
    · rw [g3]
      simp only [List.length_cons, Array.getElem?_setIfInBounds]
      by_cases hj : j = o
      · subst hj
        rw [if_neg (by omega), if_pos rfl, if_pos (by omega), if_pos (by omega)]
        simp
      · by_cases hj2 : o + 1 ≤ j ∧ j < o + 1 + r.length
        · rw [if_pos hj2, if_pos (by omega)]
          rw [show j - o = (j - (o + 1)) + 1 from by omega, List.getElem?_cons_succ]
        · rw [if_neg hj2, if_neg (Ne.symm hj), if_neg (by omega)]
    · simp only [World.setCells] at g8 ⊢
      rw [g8]; simp [World.setCell]

/-- Where new cells tell a list of data. -/
def News (ok : Oks) (w : World) (z : Nat) (l : List V) (news : List Value) : Prop :=
  news.length = l.length * z ∧ (∀ i (h : i < l.length), (l[i]'h).flat.length = z) ∧ ∀ i (h : i < l.length) j (hj : j < (l[i]'h).flat.length), ((l[i]'h).flat[j]'hj).cell = true ∧ ∃ u, news[i * z + j]? = some u ∧ Rep ok w ((l[i]'h).flat[j]'hj) u
theorem RowAt.news {ok : Oks} {w : World} {b off z : Nat} {l : List V} (r : RowAt ok w b off z l) : ∃ news : List Value, News ok w z l news ∧ (∀ j u, news[j]? = some u → w.cell? ⟨b, off + j, none⟩ = some u) ∧ ∀ u ∈ news, u.oneCell' = true := by
  have all : ∀ k, k < l.length * z → ∃ u, w.cell? ⟨b, off + k, none⟩ = some u ∧ u.oneCell' = true := by
    intro k hk
    rcases Nat.eq_zero_or_pos z with h0 | h0
    · subst h0; omega
    · have h1 : k / z < l.length := Nat.div_lt_of_lt_mul (by rw [Nat.mul_comm]; exact hk)
      have h3 : k / z * z + k % z = k := by rw [Nat.mul_comm]; exact Nat.div_add_mod k z
      have h4 : k % z < (l[k / z]'h1).flat.length := by rw [r.hz]; exact Nat.mod_lt _ h0
      obtain ⟨u, hu, hr⟩ := r.hr (k / z) h1 (k % z) h4
      rw [h3] at hu
      exact ⟨u, hu, (hr.oneCell (r.hcell _ _ _ h4)).2⟩
  refine ⟨(List.range (l.length * z)).map fun k => (w.cell? ⟨b, off + k, none⟩).getD undef, ⟨by simp, r.hz, fun i hi j hj => ⟨r.hcell i hi j hj, ?_⟩⟩, fun j u hu => ?_, fun u hu => ?_⟩
  · obtain ⟨u, hu, hr⟩ := r.hr i hi j hj
    refine ⟨u, ?_, hr⟩
    have h2 : i * z + z ≤ l.length * z := by rw [← Nat.succ_mul]; exact Nat.mul_le_mul_right _ hi
    have h1 := r.hz i hi
    rw [List.getElem?_map, List.getElem?_range (by omega)]
    simp [hu]
  · rw [List.getElem?_map] at hu
    by_cases hj : j < l.length * z
    · obtain ⟨v, hv, _⟩ := all j hj
      rw [List.getElem?_range hj] at hu
      simp [hv] at hu
      rw [hv, hu]
    · rw [List.getElem?_eq_none (by simp; omega)] at hu
      simp at hu
  · obtain ⟨k, hk, rfl⟩ := List.mem_map.1 hu
    obtain ⟨v, hv, h1⟩ := all k (by simpa using hk)
    rw [hv]; exact h1
theorem News.nil (ok : Oks) (w : World) (z : Nat) : News ok w z [] [] := ⟨by simp, by simp, by simp⟩
theorem News.mono {ok ok' : Oks} {w w' : World} {z : Nat} {l : List V} {news : List Value} (hs : Same ok ok' w w') (h : News ok w z l news) : News ok' w' z l news :=
  ⟨h.1, h.2.1, fun i hi j hj => by
    obtain ⟨h1, u, h2, h3⟩ := h.2.2 i hi j hj
    exact ⟨h1, u, h2, h3.mono hs⟩⟩
theorem News.append {ok : Oks} {w : World} {z : Nat} {l l2 : List V} {n n2 : List Value} (h : News ok w z l n) (h2 : News ok w z l2 n2) : News ok w z (l ++ l2) (n ++ n2) := by
  refine ⟨by rw [List.length_append, List.length_append, h.1, h2.1, Nat.add_mul], fun i hi => ?_, fun i hi j hj => ?_⟩
  · by_cases hlt : i < l.length
    · rw [List.getElem_append_left hlt]; exact h.2.1 i hlt
    · rw [List.getElem_append_right (by omega)]; exact h2.2.1 _ _
  · by_cases hlt : i < l.length
    · have e : (l ++ l2)[i]'hi = l[i]'hlt := List.getElem_append_left hlt
      have hj' : j < (l[i]'hlt).flat.length := by rw [← e]; exact hj
      obtain ⟨q1, u, q2, q3⟩ := h.2.2 i hlt j hj'
      have hz := h.2.1 i hlt
      have hle : i * z + z ≤ l.length * z := by rw [← Nat.succ_mul]; exact Nat.mul_le_mul_right _ hlt
      simp only [e]
      exact ⟨q1, u, by rw [List.getElem?_append_left (by rw [h.1]; omega)]; exact q2, q3⟩
    · have hlt2 : i - l.length < l2.length := by simp at hi; omega
      have e : (l ++ l2)[i]'hi = l2[i - l.length]'hlt2 := List.getElem_append_right (by omega)
      have hj' : j < (l2[i - l.length]'hlt2).flat.length := by rw [← e]; exact hj
      obtain ⟨q1, u, q2, q3⟩ := h2.2.2 _ hlt2 j hj'
      simp only [e]
      refine ⟨q1, u, ?_, q3⟩
      have hi2 : i * z + j = n.length + ((i - l.length) * z + j) := by
        rw [h.1, ← Nat.add_assoc, ← Nat.add_mul]
        congr 2; omega
      rw [hi2, List.getElem?_append_right (by omega)]
      rw [Nat.add_sub_cancel_left]; exact q2
/-- A row out of cells. -/
theorem row_of_news {ok : Oks} {w : World} {b z : Nat} {l : List V} {news : List Value} (h : News ok w z l news) (hc : ∀ j u, news[j]? = some u → w.cell? ⟨b, j, none⟩ = some u) : RowAt ok w b 0 z l :=
  ⟨h.2.1, fun i hi j hj => (h.2.2 i hi j hj).1, fun i hi j hj => by
    obtain ⟨_, u, h2, h3⟩ := h.2.2 i hi j hj
    exact ⟨u, by rw [Nat.zero_add]; exact hc _ _ h2, h3⟩⟩

section
variable {P : Program} {R : List (Nat × AObj) → List D → Prop} (hT : tableOf P = T)
include hT
theorem src_sound {ob : List (Nat × AObj)} {z : Nat} {t2 : Nat} {d : D} {K : List V → Prop} (hk : isSrcT (tyOf t2).k d = true) (hz0 : 0 < z) (h : srcW (std P R) z ob d K) :
    ∃ l, K l ∧ ∀ (E : Env) (ok : Oks) (w : World) (u : Value), (∀ id o, look ob id = some o → ObjRep E ok w id o) → RepD E ok w d u → ∃ news, Src P z t2 u l.length news w ∧ News ok w z l news := by
  unfold srcW at h
  split at h
  · rename_i l
    have hk' : ∃ e, (tyOf t2).k = .slice e := by
      unfold isSrcT at hk; split at hk <;> simp_all
    obtain ⟨e, hk'⟩ := hk'
    obtain ⟨hsz, h⟩ := h
    refine ⟨l, h, fun E ok w u ho hr => ?_⟩
    obtain ⟨ad, c, rfl, _, _, z', hz, hcell, hp⟩ := slice_row (repD_v hr)
    cases ad with
    | none =>
      have hl : l = [] := by
        rcases Nat.eq_zero_or_pos l.length with q | q
        · exact List.eq_nil_of_length_eq_zero q
        · obtain ⟨_, _, q', _⟩ := hp q; cases q'
      subst hl
      exact ⟨[], Src.ofNil w (ty_slice hT hk') c, News.nil _ _ _⟩
    | some ad =>
      rcases Nat.eq_zero_or_pos l.length with q | q
      · have hl := List.eq_nil_of_length_eq_zero q
        subst hl
        exact ⟨[], Src.ofSlice w (ty_slice hT hk') ad 0 c [] (by simp) (by simp) (by simp), News.nil _ _ _⟩
      · obtain ⟨b, off, e1, hrow, _⟩ := hp q
        cases e1
        have hzz : z' = z := by
          rw [← hz 0 q]; exact hsz _ (List.getElem_mem _)
        subst hzz
        obtain ⟨news, n1, n2, n3⟩ := hrow.news
        exact ⟨news, Src.ofSlice w (ty_slice hT hk') _ l.length c news n1.1 (fun j u hu => by rw [add_plain]; exact n2 j u hu) n3, n1⟩
  · rename_i s
    split at h
    · rename_i hz1
      subst hz1
      have hk' : (tyOf t2).k = .str := by
        unfold isSrcT at hk; split at hk <;> simp_all
      refine ⟨_, h, fun E ok w u ho hr => ?_⟩
      rw [repD_str hr]
      have hs := Src.ofString (P := P) w (ty_str hT hk') ⟨s.toArray⟩
      rw [size_mk] at hs
      have hlen : (bytesV s).length = s.length := by simp [bytesV]
      refine ⟨_, by simp only [std]; rw [hlen]; exact hs, ?_⟩
      refine ⟨by simp [byteCells, std, hlen], fun i hi => by simp only [std, bytesV_get]; rfl, fun i hi j hj => ?_⟩
      simp only [std] at hi hj ⊢
      have hf : ((bytesV s)[i]'hi).flat = [.int .u8 (s[i]'(by omega)).toNat] := by rw [bytesV_get]; rfl
      have hj0 : j = 0 := by rw [hf] at hj; simpa using hj
      subst hj0
      simp only [hf, List.getElem_cons_zero]
      refine ⟨rfl, .int .u8 (s[i]'(by omega)).toNat, ?_, .int _ _⟩
      simp [byteCells, show i < s.length from by omega]
    · exact h.elim
  · have hk' : ∃ e, (tyOf t2).k = .slice e := by
      unfold isSrcT at hk; split at hk <;> simp_all
    obtain ⟨e, hk'⟩ := hk'
    refine ⟨_, h, fun E ok w u ho hr => ?_⟩
    rw [repD_nils hr]
    exact ⟨[], Src.ofNil w (ty_slice hT hk') 0, News.nil _ _ _⟩
  · rename_i id
    have hk' : ∃ e, (tyOf t2).k = .slice e := by
      unfold isSrcT at hk; split at hk <;> simp_all
    obtain ⟨e, hk'⟩ := hk'
    split at h
    · rename_i z' l ex hrow
      split at h
      · rename_i hz
        subst hz
        refine ⟨_, h, fun E ok w u ho hr => ?_⟩
        rw [repD_own hr]
        rcases ho _ _ (rowOf_some hrow) with ⟨rfl, _, h3⟩ | ⟨b, cap, cs, e', h1, h2, h3, h4, h5, h6, h7, h8⟩
        · rw [h3]; exact ⟨[], Src.ofNil w (ty_slice hT hk') 0, News.nil _ _ _⟩
        · obtain ⟨news, n1, n2, n3⟩ := h7.news
          rw [h2]
          exact ⟨news, Src.ofSlice w (ty_slice hT hk') _ l.length cap news n1.1 (fun j u hu => by rw [add_plain]; exact n2 j u hu) n3, n1⟩
      · exact h.elim
    · exact h.elim
  · exact h.elim
end
end Go.Proofs.Ytinckcpmkocakaa.AM
