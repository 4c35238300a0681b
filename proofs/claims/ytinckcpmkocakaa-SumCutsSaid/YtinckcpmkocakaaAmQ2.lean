/-
  The abstract machine, part 6: pure data out of frame data; loads.
-/
import Derived.Test.YtinckcpmkocakaaAmQ
set_option linter.unusedVariables false
set_option linter.unusedSimpArgs false
namespace Go.Proofs.Ytinckcpmkocakaa.AM
open Go Go.RowKit

theorem add_plain (g o j : Nat) : (⟨g, o, none⟩ : Addr).add j = ⟨g, o + j, none⟩ := by unfold Addr.add; split <;> simp_all
theorem rep_cell {ok : Oks} {w : World} {x : V} {u : Value} (r : Rep ok w x u) (h : u.oneCell' = true) : x.cell = true := by
  cases r <;> simp [Value.oneCell'] at h <;> rfl
theorem rep_agg {ok : Oks} {w : World} {l : List V} {u : Value} (h : Rep ok w (.agg l) u) : ∃ cs : List Value, u = .agg cs.toArray ∧ cs.length = l.length ∧ (∀ i (h : i < l.length), (l[i]'h).cell = true) ∧ ∀ i (h : i < l.length) (h' : i < cs.length), Rep ok w (l[i]'h) (cs[i]'h') := by
  cases h with
  | agg _ cs hl hc hr => exact ⟨cs, rfl, hl, hc, hr⟩
theorem rep_tup {ok : Oks} {w : World} {l : List V} {u : Value} (h : Rep ok w (.tup l) u) : ∃ cs : List Value, u = .tuple cs.toArray ∧ cs.length = l.length ∧ ∀ i (h : i < l.length) (h' : i < cs.length), Rep ok w (l[i]'h) (cs[i]'h') := by
  cases h with
  | tup _ cs hl hr => exact ⟨cs, rfl, hl, hr⟩
theorem rep_nil_slice (ok : Oks) (w : World) : Rep ok w (.slice []) (.slice none 0 0) :=
  .slice [] none 0 0 (fun _ _ => undef) (by simp) (by simp) (by simp) (by simp) (by simp) (by simp)

/-- A row, as a slice of pure data. -/
theorem rep_row {ok : Oks} {w : World} {b off z cap : Nat} {l : List V} (r : RowAt ok w b off z l) (hok : ∀ j, j < l.length * z → ok b (off + j)) (hc : l.length ≤ cap) (hm : cap ≤ maxLen) : Rep ok w (.slice l) (.slice (some ⟨b, off, none⟩) l.length cap) := by
  refine .slice l _ cap z (fun i j => (w.cell? ⟨b, off + (i * z + j), none⟩).getD undef) hc hm (fun hp => ⟨b, off, rfl, fun i j hi hj => ?_⟩) r.hz r.hcell (fun i hi j hj => ?_)
  · have h2 : i * z + z ≤ l.length * z := by rw [← Nat.succ_mul]; exact Nat.mul_le_mul_right _ hi
    have hj' : j < (l[i]'hi).flat.length := by rw [r.hz i hi]; exact hj
    obtain ⟨u, hu, hx⟩ := r.hr i hi j hj'
    exact ⟨hok _ (by omega), by rw [hu]; rfl⟩
  · obtain ⟨u, hu, hx⟩ := r.hr i hi j hj
    rw [hu]; exact hx
/-- The other way: what a slice of pure data has in memory. -/
theorem slice_row {ok : Oks} {w : World} {l : List V} {u : Value} (h : Rep ok w (.slice l) u) : ∃ a c, u = .slice a l.length c ∧ l.length ≤ c ∧ c ≤ maxLen ∧ ∃ z, (∀ i (h : i < l.length), (l[i]'h).flat.length = z) ∧
    (∀ i (h : i < l.length) j (hj : j < (l[i]'h).flat.length), ((l[i]'h).flat[j]'hj).cell = true) ∧
    (0 < l.length → ∃ b off, a = some ⟨b, off, none⟩ ∧ RowAt ok w b off z l ∧ ∀ j, j < l.length * z → ok b (off + j)) := by
  cases h with
  | slice _ a c z us hc hm ha hz hcell hr =>
    refine ⟨a, c, rfl, hc, hm, z, hz, hcell, fun hp => ?_⟩
    obtain ⟨b, off, e, hx⟩ := ha hp
    refine ⟨b, off, e, ⟨hz, hcell, fun i hi j hj => ⟨us i j, (hx i j hi (by rw [← hz i hi]; exact hj)).2, hr i hi j hj⟩⟩, fun j hj => ?_⟩
    rcases Nat.eq_zero_or_pos z with h0 | h0
    · subst h0; omega
    · have h1 : j / z < l.length := Nat.div_lt_of_lt_mul (by rw [Nat.mul_comm]; exact hj)
      have h2 := (hx (j / z) (j % z) h1 (Nat.mod_lt _ h0)).1
      have h3 : j / z * z + j % z = j := by rw [Nat.mul_comm]; exact Nat.div_add_mod j z
      rwa [h3] at h2

mutual
theorem toV_sound {E : Env} {ok : Oks} {w : World} {ob : List (Nat × AObj)} (ho : ∀ id o, look ob id = some o → ObjRep E ok w id o) : ∀ (d : D) (x : V) (u : Value), toV ob d = some x → RepD E ok w d u → Rep ok w x u
  | .any, x, u, h, r => by simp [toV] at h
  | .lit b, x, u, h, r => by
    simp [toV] at h; subst h; cases r; exact .bool _
  | .v y, x, u, h, r => by
    simp [toV] at h; subst h; exact repD_v r
  | .nils, x, u, h, r => by
    simp [toV] at h; subst h; cases r; exact rep_nil_slice _ _
  | .agg l, x, u, h, r => by
    unfold toV at h
    split at h
    · rename_i xs hx
      simp at h; subst h
      cases r with
      | agg _ cs hl hcell hr =>
        obtain ⟨h1, h2⟩ := toVs_sound ho l xs cs hx hl hr
        exact .agg _ _ (by omega) (fun i hi => rep_cell (h2 i hi (by omega)) (hcell _ (List.getElem_mem _))) h2
    · simp at h
  | .tup l, x, u, h, r => by
    unfold toV at h
    split at h
    · rename_i xs hx
      simp at h; subst h
      cases r with
      | tup _ cs hl hr =>
        obtain ⟨h1, h2⟩ := toVs_sound ho l xs cs hx hl hr
        exact .tup _ _ (by omega) h2
    · simp at h
  | .ptr id off, x, u, h, r => by
    unfold toV at h
    split at h
    · rename_i l hl
      simp at h; subst h
      have hb := ho _ _ hl
      obtain ⟨b, h1, _, h2, h3⟩ := hb
      cases r with
      | ptr _ _ b' hb' =>
        rw [h1] at hb'; cases hb'
        refine .ref _ b off (fun j => (w.cell? ⟨b, off + j, none⟩).getD undef) (fun j hj => ?_) (fun j hj => ?_) (fun j hj => ?_)
        · simp at hj
          obtain ⟨q, u, hu, _⟩ := h3 (off + j) (by omega)
          exact ⟨q, by rw [hu]; rfl⟩
        · simp only [List.getElem_drop]; exact h2 _ (by simp at hj; omega)
        · simp at hj
          obtain ⟨q, u, hu, hr⟩ := h3 (off + j) (by omega)
          simp only [List.getElem_drop]
          rw [hu]; exact hr
    · simp at h
  | .own id, x, u, h, r => by
    unfold toV at h
    split at h
    · rename_i z l ex hl
      split at h
      · simp at h; subst h
        have hb := ho _ _ hl
        cases r
        rcases hb with ⟨rfl, _, hh⟩ | ⟨b, cap, cs, e, h1, h2, h3, h4, h5, h6, h7, h8⟩
        · rw [hh]; exact rep_nil_slice _ _
        · rw [h2]
          exact rep_row h7 (fun j hj => (h8 _).2 ⟨rfl, by omega⟩) h5 h6
      · simp at h
    · simp at h
  | .rptr _ _ _ _, x, u, h, r => by simp [toV] at h
  | .fn f cap, x, u, h, r => by
    unfold toV at h
    split at h
    · rename_i xs hx
      simp at h; subst h
      cases r with
      | fn _ _ cs hl hr =>
        obtain ⟨h1, h2⟩ := toVs_sound ho cap xs cs hx hl hr
        exact .clo _ _ _ (by omega) h2
    · simp at h
theorem toVs_sound {E : Env} {ok : Oks} {w : World} {ob : List (Nat × AObj)} (ho : ∀ id o, look ob id = some o → ObjRep E ok w id o) : ∀ (l : List D) (xs : List V) (cs : List Value), toVs ob l = some xs → cs.length = l.length →
    (∀ i (h : i < l.length) (h' : i < cs.length), RepD E ok w (l[i]'h) (cs[i]'h')) → xs.length = l.length ∧ ∀ i (h : i < xs.length) (h' : i < cs.length), Rep ok w (xs[i]'h) (cs[i]'h')
  | [], xs, cs, h, hl, hr => by simp [toVs] at h; subst h; simp
  | d :: r, xs, [], h, hl, hr => by simp at hl
  | d :: r, xs, c :: cs, h, hl, hr => by
    unfold toVs at h
    split at h
    · rename_i x hx
      split at h
      · rename_i ys hy
        simp at h; subst h
        have h0 := toV_sound ho d x c hx (hr 0 (by simp) (by simp))
        obtain ⟨h1, h2⟩ := toVs_sound ho r ys cs hy (by simpa using hl) (fun i hi hi' => hr (i + 1) (by simp; omega) (by simp; omega))
        refine ⟨by simp [h1], fun i hi hi' => ?_⟩
        cases i with
        | zero => simpa using h0
        | succ i => simpa using h2 i (by simpa using hi) (by simpa using hi')
      · simp at h
    · simp at h
end

section
variable {P : Program} (hT : tableOf P = T)
include hT
theorem run_load_agg {t : Nat} {w : World} {b off : Nat} {us : List Value} (hk : isAggT (tyOf t).k = true) (hs : (tyOf t).size = us.length) (hc : ∀ j (h : j < us.length), w.cell? ⟨b, off + j, none⟩ = some (us[j]'h)) :
    (Instr.loadAt t (.pointer (some ⟨b, off, none⟩))).run P w = .ok (.agg us.toArray) w := by
  have hk' : (tyOf t).k ≠ .other := by intro e; rw [e] at hk; simp [isAggT] at hk
  have hl := run_loadCells (P := P) (w := w) ⟨b, off, none⟩ us.length (fun j => us.getD j undef) (fun j hj => by rw [add_plain, hc j hj]; simp [hj])
  simp only [Instr.loadAt, Instr.sureAddr, loadVar, Sem.run_bind, Sem.run_pure, Result.andThen_ok, ty_isAgg hT hk', hk, if_true, ty_size hT hk', hs, hl]
  congr 2
  apply Array.ext
  · simp
  · intro i h1 h2
    simp at h1
    simp [h1]
theorem run_load_cell {t : Nat} {w : World} {b off : Nat} {u : Value} (hk : isAggT (tyOf t).k = false) (hk' : known (tyOf t).k = true) (hc : w.cell? ⟨b, off, none⟩ = some u) :
    (Instr.loadAt t (.pointer (some ⟨b, off, none⟩))).run P w = .ok u w := by
  have hk'' : (tyOf t).k ≠ .other := by intro e; rw [e] at hk'; simp [known] at hk'
  simp [Instr.loadAt, Instr.sureAddr, loadVar, ty_isAgg hT hk'', hk, hc]
end

theorem list_ofFn_get (n : Nat) (f : Nat → Value) (j : Nat) (h : j < ((List.range n).map f).length) : ((List.range n).map f)[j]'h = f j := by simp
/-- The cells of an element of a row. -/
theorem RowAt.elem {ok : Oks} {w : World} {b off z : Nat} {l : List V} (r : RowAt ok w b off z l) {i : Int} {x : V} (h0 : 0 ≤ i) (hx : l[i.toNat]? = some x) :
    x.flat.length = z ∧ (∀ j (h : j < x.flat.length), (x.flat[j]'h).cell = true) ∧ ∀ j (h : j < x.flat.length), ∃ u, w.cell? ⟨b, off + (i.toNat * z + j), none⟩ = some u ∧ Rep ok w (x.flat[j]'h) u := by
  obtain ⟨hi, he⟩ := List.getElem?_eq_some_iff.1 hx
  subst he
  exact ⟨r.hz _ hi, fun j hj => r.hcell _ hi j hj, fun j hj => r.hr _ hi j hj⟩
theorem cell_flat {x : V} (h : x.cell = true) : x.flat = [x] := by cases x <;> simp [V.cell] at h <;> rfl
end Go.Proofs.Ytinckcpmkocakaa.AM
