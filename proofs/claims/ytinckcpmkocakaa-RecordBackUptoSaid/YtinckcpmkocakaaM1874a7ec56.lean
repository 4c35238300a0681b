/-
  The abstract machine, part 25: what an input's reading gives: pure data.
-/
import Derived.Test.YtinckcpmkocakaaM178f941c5c
import Derived.ProofKit
import Derived.SizedLaws
set_option linter.unusedVariables false
set_option linter.unusedSimpArgs false
set_option linter.unusedSectionVars false
namespace Go.Proofs.Ytinckcpmkocakaa.AM
open Go Go.RowKit

def laidF : Nat → List (Nat × Nat) → Nat → Bool
  | off, [], size => off == size
  | off, (o, ft) :: r, size => o == off && laidF (off + (tyOf ft).size) r size
/-- Types whose values a reading knows whole. -/
def good : Nat → Nat → Bool
  | 0, _ => false
  | k + 1, t => match (tyOf t).k with
    | .bool => (tyOf t).size == 1
    | .int _ => (tyOf t).size == 1
    | .str => (tyOf t).size == 1
    | .slice e => (tyOf t).size == 1 && good k e && Nat.ble 1 (tyOf e).size
    | .struct fs => fs.all (fun p => good k p.2) && laidF 0 fs (tyOf t).size
    | _ => false
/-- A datum of a type; 'm': how many bytes a string, or a slice's elements, have at the most. -/
def TyM (m : Nat) : Nat → Nat → V → Prop
  | 0, _, _ => False
  | k + 1, t, x => match (tyOf t).k with
    | .bool => ∃ b, x = .bool b
    | .int kd => ∃ n, x = .int kd n ∧ kd.min ≤ n ∧ n ≤ kd.max
    | .str => ∃ s, x = .str s ∧ s.length ≤ m
    | .slice e => ∃ l, x = .slice l ∧ l.length * (tyOf e).bytes ≤ m ∧ ∀ y ∈ l, TyM m k e y
    | .struct fs => ∃ ys : List V, x = .agg (ys.flatMap V.flat) ∧ ys.length = fs.length ∧ ∀ i (h : i < ys.length) (h' : i < fs.length), TyM m k (fs[i]'h').2 (ys[i]'h)
    | _ => False
abbrev TyV : Nat → Nat → V → Prop := TyM reachBytes
theorem TyM.up {m m' : Nat} (hm : m ≤ m') : ∀ (k t : Nat) (x : V), TyM m k t x → TyM m' k t x
  | 0, _, _, h => h.elim
  | k + 1, t, x, h => by
    unfold TyM at h ⊢
    split at h
    · exact h
    · exact h
    · obtain ⟨s, h1, h2⟩ := h; exact ⟨s, h1, Nat.le_trans h2 hm⟩
    · obtain ⟨l, h1, h2, h3⟩ := h; exact ⟨l, h1, Nat.le_trans h2 hm, fun y hy => TyM.up hm k _ y (h3 y hy)⟩
    · obtain ⟨ys, h1, h2, h3⟩ := h; exact ⟨ys, h1, h2, fun i a b => TyM.up hm k _ _ (h3 i a b)⟩
    · exact h

def okW (w : World) : Oks := { ok := fun b _ => b < w.heap.size, next := 0, blk := fun _ => none, cap := fun _ => 0 }
/-- Cells that tell a datum. -/
def CR (w : World) (x : V) (cs : List Value) : Prop :=
  x.flat.length = cs.length ∧ ∀ j (h : j < x.flat.length), (x.flat[j]'h).cell = true ∧ ∃ u, cs[j]? = some u ∧ Rep (okW w) w (x.flat[j]'h) u

theorem CR.one {w : World} {x : V} {u : Value} (hx : x.cell = true) (h : Rep (okW w) w x u) : CR w x [u] := by
  have hf := cell_flat hx
  refine ⟨by rw [hf]; rfl, fun j hj => ?_⟩
  have hj0 : j = 0 := by rw [hf] at hj; simpa using hj
  subst hj0
  exact ⟨by simpa [hf] using hx, u, rfl, by simpa [hf] using h⟩

section
variable {P : Program} (hT : tableOf P = T) {H : Type} {enc : TypeId × Value → H}
include hT
theorem cellsOf_ty {t : Nat} (h : known (tyOf t).k = true) : P.cellsOf t = (tyOf t).size := by
  obtain ⟨i, z, hi, hz, hs, _⟩ := ty_info hT (known_ne' h)
  simp [Program.cellsOf, hi, hs]
theorem bytesOf_ty {t : Nat} (h : known (tyOf t).k = true) : P.bytesOf t = (tyOf t).bytes := by
  obtain ⟨i, z, hi, hz, hs, hb, _⟩ := ty_info hT (known_ne' h)
  simp [Program.bytesOf, hi, hb]
theorem good_known {k t : Nat} (h : good k t = true) : known (tyOf t).k = true := by
  cases k with
  | zero => simp [good] at h
  | succ k =>
    unfold good at h
    split at h <;> simp_all [known]

theorem mem_weightsAll {e : Nat} : ∀ {l : List (DataW H)} {d : DataW H} {n : Nat}, d ∈ l → n ∈ d.weights P e → n ∈ DataW.weightsAll P e l
  | x :: r, d, n, hd, hn => by
    unfold DataW.weightsAll
    rcases List.mem_cons.1 hd with rfl | hd
    · exact List.mem_append_left _ hn
    · exact List.mem_append_right _ (mem_weightsAll hd hn)
theorem mem_weightsEach : ∀ {ts : List Nat} {l : List (DataW H)} (i : Nat) {t : Nat} {d : DataW H} {n : Nat}, ts[i]? = some t → l[i]? = some d → n ∈ d.weights P t → n ∈ DataW.weightsEach P ts l
  | [], _, i, t, d, n, h, _, _ => by simp at h
  | _ :: _, [], i, t, d, n, _, h, _ => by simp at h
  | t0 :: ts, x :: r, i, t, d, n, h, h2, hn => by
    unfold DataW.weightsEach
    cases i with
    | zero =>
      simp at h h2; subst h; subst h2
      exact List.mem_append_left _ hn
    | succ i => exact List.mem_append_right _ (mem_weightsEach i (by simpa using h) (by simpa using h2) hn)

theorem struct_cells {m : Nat} {w : World} {k : Nat} : ∀ (fs : List (Nat × Nat)) (off size : Nat) (cs : List Value), laidF off fs size = true → cs.length = size → (∀ p ∈ fs, ∃ y, TyM m k p.2 y ∧ CR w y ((cs.drop p.1).take (tyOf p.2).size) ∧ y.flat.length = (tyOf p.2).size) →
    ∃ ys : List V, ys.length = fs.length ∧ (∀ i (h : i < ys.length) (h' : i < fs.length), TyM m k (fs[i]'h').2 (ys[i]'h)) ∧ off + (ys.flatMap V.flat).length = size ∧ ∀ j (h : j < (ys.flatMap V.flat).length), ((ys.flatMap V.flat)[j]'h).cell = true ∧ ∃ u, cs[off + j]? = some u ∧ Rep (okW w) w ((ys.flatMap V.flat)[j]'h) u
  | [], off, size, cs, hl, hs, hf => ⟨[], rfl, by simp, by simpa [laidF] using hl, by simp⟩
  | (o, ft) :: r, off, size, cs, hl, hs, hf => by
    simp only [laidF, Bool.and_eq_true, beq_iff_eq] at hl
    obtain ⟨rfl, hl⟩ := hl
    obtain ⟨y, h1, h2, h3⟩ := hf (o, ft) (by simp)
    replace h3 : y.flat.length = (tyOf ft).size := h3
    obtain ⟨ys, k1, k2, k3, k4⟩ := struct_cells r _ size cs hl hs (fun p hp => hf p (List.mem_cons_of_mem _ hp))
    refine ⟨y :: ys, by simp [k1], fun i hi hi' => ?_, by rw [List.flatMap_cons, List.length_append, h3]; omega, fun j hj => ?_⟩
    · cases i with
      | zero => exact h1
      | succ i => exact k2 i (by simpa using hi) (by simpa using hi')
    · have hj2 : j < y.flat.length + (ys.flatMap V.flat).length := by rw [List.flatMap_cons, List.length_append] at hj; exact hj
      simp only [List.flatMap_cons] at hj ⊢
      by_cases hlt : j < y.flat.length
      · rw [List.getElem_append_left hlt]
        obtain ⟨q1, u, q2, q3⟩ := h2.2 j hlt
        refine ⟨q1, u, ?_, q3⟩
        rw [List.getElem?_take, List.getElem?_drop] at q2
        split at q2
        · exact q2
        · cases q2
      · rw [List.getElem_append_right (by omega)]
        obtain ⟨q1, u, q2, q3⟩ := k4 (j - y.flat.length) (by omega)
        refine ⟨q1, u, ?_, q3⟩
        rw [← q2]; congr 1; omega

/-- **What a reading gives.** -/
theorem read {m : Nat} {w : World} {sp : Nat → Bool} : ∀ (k t : Nat) (cs : List Value) (d : DataW H) (ps : List MemPlace) (fuel : Nat), good k t = true → DataW.trod enc P w 0 sp true fuel t cs = some (d, ps) → (∀ n ∈ d.weights P t, n ≤ m) →
    ∃ x, TyM m k t x ∧ CR w x cs ∧ x.flat.length = (tyOf t).size ∧ (isAggT (tyOf t).k = true → ∃ l, x = .agg l) ∧ (isAggT (tyOf t).k = false → x.cell = true)
  | 0, t, cs, d, ps, fuel, hg, h, hw => by simp [good] at hg
  | k + 1, t, cs, d, ps, fuel, hg, h, hw => by
    unfold TyM
    unfold good at hg
    split at hg
    · rename_i hk
      rw [hk]
      obtain ⟨b, rfl, _⟩ := DataW.trod_bool (ty_bool hT hk) h
      exact ⟨.bool b, ⟨b, rfl⟩, CR.one rfl (.bool b), by have := eq_of_beq hg; simp [V.flat]; omega, fun h => by simp [isAggT] at h, fun _ => rfl⟩
    · rename_i kd hk
      rw [hk]
      obtain ⟨n, rfl, _, hwf⟩ := DataW.trod_int (ty_int hT hk) h
      simp only [Lit.wf, Bool.and_eq_true, decide_eq_true_eq] at hwf
      exact ⟨.int kd n, ⟨n, rfl, hwf⟩, CR.one rfl (.int kd n), by have := eq_of_beq hg; simp [V.flat]; omega, fun h => by simp [isAggT] at h, fun _ => rfl⟩
    · rename_i hk
      rw [hk]
      obtain ⟨s, rfl, hd, _⟩ := DataW.trod_string (ty_str hT hk) h
      cases hd
      refine ⟨.str s.data.toList, ⟨_, rfl, hw _ (by simp [DataW.weights])⟩, CR.one rfl (.str _), by have := eq_of_beq hg; simp [V.flat]; omega, fun h => by simp [isAggT] at h, fun _ => rfl⟩
    · rename_i e hk
      rw [hk]
      simp only [Bool.and_eq_true, beq_iff_eq] at hg
      obtain ⟨⟨hsz, hge⟩, hz1⟩ := hg
      have hz1 : 1 ≤ (tyOf e).size := Nat.le_of_ble_eq_true hz1
      have hke := good_known hT hge
      have hu := ty_slice hT hk
      rcases DataW.trod_slice hu h with ⟨rfl, hd⟩ | ⟨a, len, cap, elems, rest, n, _, rfl, hd, _, hlc, hcm, hel, helem, _⟩
      · exact ⟨.slice [], ⟨[], rfl, by simp, by simp⟩, CR.one rfl (rep_nil_slice _ _), by simpa [V.flat] using hsz.symm, fun h => by simp [isAggT] at h, fun _ => rfl⟩
      · cases hd
        have hcells := cellsOf_ty hT hke
        have hw1 : (elems.length + rest.length) * (tyOf e).bytes ≤ m := by
          have := hw ((elems.length + rest.length) * P.bytesOf e) (by unfold DataW.weights; rw [hu]; simp)
          rwa [bytesOf_ty hT hke] at this
        have hwe : ∀ i (hi : i < elems.length), ∀ q ∈ (elems[i]'hi).1.weights P e, q ≤ m := fun i hi q hm => hw q (by
          unfold DataW.weights; rw [hu]
          simp only [List.mem_cons, List.mem_append]
          exact .inr (.inl (mem_weightsAll hT (List.mem_map_of_mem (List.getElem_mem hi)) hm)))
        have each : ∀ i (hi : i < len), ∃ x us, TyM m k e x ∧ CR w x us ∧ x.flat.length = (tyOf e).size ∧ w.cells? 0 (a.add (i * (tyOf e).size)) (tyOf e).size = some us := by
          intro i hi
          have h1 := helem i hi
          have hi' : i < elems.length := by omega
          rw [List.getElem?_eq_getElem hi', hcells] at h1
          cases hc : w.cells? 0 (a.add (i * (tyOf e).size)) (tyOf e).size with
          | none => rw [hc] at h1; cases h1
          | some us =>
            rw [hc] at h1
            obtain ⟨x, q1, q2, q3, _⟩ := read k e us _ _ _ hge h1 (hwe i hi')
            exact ⟨x, us, q1, q2, q3, rfl⟩
        have hx : ∃ l : List V, l.length = len ∧ ∀ i (hi : i < l.length), ∃ us, TyM m k e (l[i]'hi) ∧ CR w (l[i]'hi) us ∧ (l[i]'hi).flat.length = (tyOf e).size ∧ w.cells? 0 (a.add (i * (tyOf e).size)) (tyOf e).size = some us := by
          refine ⟨List.ofFn fun i : Fin len => (each i.1 i.2).choose, by simp, fun i hi => ?_⟩
          simp only [List.getElem_ofFn]
          exact (each i (by simpa using hi)).choose_spec
        obtain ⟨l, hl, hall⟩ := hx
        refine ⟨.slice l, ⟨l, rfl, ?_, fun y hy => ?_⟩, CR.one rfl ?_, by simpa [V.flat] using hsz.symm, fun h => by simp [isAggT] at h, fun _ => rfl⟩
        · refine Nat.le_trans (Nat.mul_le_mul_right _ ?_) hw1
          omega
        · obtain ⟨i, hi, rfl⟩ := List.getElem_of_mem hy
          exact (hall i hi).choose_spec.1
        · subst hl
          obtain ⟨b, off, spot⟩ := a
          have hspot : 0 < l.length → spot = none := fun hp => by
            obtain ⟨us, _, ⟨q1, q2⟩, q3, q4⟩ := hall 0 hp
            obtain ⟨_, u, q6, _⟩ := q2 0 (by omega)
            obtain ⟨_, _, q9⟩ := World.cells?_some q4
            have h9 := q9 0 (by omega)
            rw [q6] at h9
            have := World.cell?_spot h9
            simpa [Addr.add] using this
          have hcell : ∀ i (hi : i < l.length) j, j < (tyOf e).size → ∃ u, spot = none ∧ w.cell? ⟨b, off + (i * (tyOf e).size + j), none⟩ = some u ∧ ∃ hj : j < (l[i]'hi).flat.length, ((l[i]'hi).flat[j]'hj).cell = true ∧ Rep (okW w) w ((l[i]'hi).flat[j]'hj) u := by
            intro i hi j hj
            obtain ⟨us, _, ⟨q1, q2⟩, q3, q4⟩ := hall i hi
            obtain ⟨q5, u, q6, q7⟩ := q2 j (by omega)
            obtain ⟨_, q8, q9⟩ := World.cells?_some q4
            have hs := hspot (by omega)
            subst hs
            have h9 := q9 j hj
            rw [q6, add_plain, add_plain, Nat.add_assoc] at h9
            exact ⟨u, rfl, h9, by omega, q5, q7⟩
          refine .slice l (some ⟨b, off, spot⟩) cap (tyOf e).size (fun i j => (w.cell? ⟨b, off + (i * (tyOf e).size + j), none⟩).getD undef) hlc hcm (fun hp => ?_) (fun i hi => (hall i hi).choose_spec.2.2.1) (fun i hi j hj => ?_) (fun i hi j hj => ?_)
          · obtain ⟨u, hsp, _⟩ := hcell 0 hp 0 hz1
            subst hsp
            refine ⟨b, off, rfl, fun i j hi hj => ?_⟩
            obtain ⟨u, _, hu, _⟩ := hcell i hi j hj
            exact ⟨(cell_lt hu : b < w.heap.size), by simp [hu]⟩
          · have h3 := (hall i hi).choose_spec.2.2.1
            obtain ⟨_, _, _, hj', h4, _⟩ := hcell i hi j (by omega)
            exact h4
          · have h3 := (hall i hi).choose_spec.2.2.1
            obtain ⟨u, _, hu, hj', _, h4⟩ := hcell i hi j (by omega)
            simp only [hu, Option.getD_some]
            exact h4
    · rename_i fs hk
      rw [hk]
      simp only [Bool.and_eq_true] at hg
      obtain ⟨hgf, hlf⟩ := hg
      obtain ⟨fields, hu, hfs⟩ := ty_struct hT hk
      obtain ⟨xs, n, _, hd, hcl, hxl, hf⟩ := DataW.trod_struct hu h
      cases hd
      have hkn : known (tyOf t).k = true := by rw [hk]; rfl
      rw [cellsOf_ty hT hkn] at hcl
      have hper : ∀ p ∈ fs, ∃ y, TyM m k p.2 y ∧ CR w y ((cs.drop p.1).take (tyOf p.2).size) ∧ y.flat.length = (tyOf p.2).size := by
        intro p hp
        have hgp := List.all_eq_true.1 hgf p hp
        subst hfs
        obtain ⟨f, hfm, rfl⟩ := List.mem_map.1 hp
        obtain ⟨i, hi, rfl⟩ := List.getElem_of_mem hfm
        have hi' : i < fields.size := by simpa using hi
        have h1 := hf i fields[i] (Array.getElem?_eq_getElem hi')
        have hix : i < xs.length := by omega
        have hgp' : good k fields[i].type = true := hgp
        rw [List.getElem?_eq_getElem hix, cellsOf_ty hT (good_known hT hgp')] at h1
        obtain ⟨y, q1, q2, q3, _⟩ := read k _ _ _ _ _ hgp' h1 (fun q hm => hw q (by
          unfold DataW.weights; rw [hu]
          exact mem_weightsEach hT i (t := fields[i].type) (d := (xs[i]'hix).1) (by simp [hi']) (by simp [hix]) hm))
        exact ⟨y, q1, q2, q3⟩
      obtain ⟨ys, k1, k2, k3, k4⟩ := struct_cells hT fs 0 (tyOf t).size cs hlf hcl hper
      refine ⟨.agg (ys.flatMap V.flat), ⟨ys, rfl, k1, k2⟩, ⟨by simp only [V.flat]; omega, fun j hj => ?_⟩, by simp only [V.flat]; omega, fun _ => ⟨_, rfl⟩, fun h => by simp [isAggT] at h⟩
      obtain ⟨g1, u, g2, g3⟩ := k4 j hj
      rw [Nat.zero_add] at g2
      exact ⟨g1, u, g2, g3⟩
    · cases hg
end
end Go.Proofs.Ytinckcpmkocakaa.AM

/-
  The abstract machine, part 26: from a contract to a row: 'for every input true; the input reads as it did'.
-/
set_option linter.unusedVariables false
set_option linter.unusedSimpArgs false
set_option linter.unusedSectionVars false
namespace Go.Proofs.Ytinckcpmkocakaa.AM
open Go Go.RowKit Go.ChangeShapes Go.WideShapes Go.ChangeAt

section
variable {P : Program} (hT : tableOf P = T) {H : Type} {enc : TypeId × Value → H}
include hT

theorem okWide_cell {t : Nat} {w : World} {r : Reach} {b0 : Nat} {v : Value} (hk : known (tyOf t).k = true) (ha : isAggT (tyOf t).k = false) (h : Value.okWide P w r b0 t v) {k : Nat} (hg : good k t = true) : v.cells.toList = [v] := by
  cases k with
  | zero => simp [good] at hg
  | succ k =>
    unfold good at hg
    split at hg
    · rename_i hk'
      obtain ⟨b, rfl⟩ := okWide_bool (ty_bool hT hk') h; rfl
    · rename_i kd hk'
      simp only [Value.okWide, ty_int hT hk', Cell.okWide] at h
      cases v <;> simp_all [Cell.ok, Value.cells]
    · rename_i hk'
      simp only [Value.okWide, ty_str hT hk', Cell.okWide] at h
      cases v <;> simp_all [Cell.ok, Value.cells]
    · rename_i e hk'
      simp only [Value.okWide, ty_slice hT hk', Cell.okWide] at h
      cases v <;> simp_all [Cell.ok, Value.cells]
    · rename_i fs hk'
      rw [hk'] at ha; simp [isAggT] at ha
    · cases hg
theorem okWide_agg {t : Nat} {w : World} {r : Reach} {b0 : Nat} {v : Value} (ha : isAggT (tyOf t).k = true) (h : Value.okWide P w r b0 t v) {k : Nat} (hg : good k t = true) : ∃ cs, v = .agg cs := by
  cases k with
  | zero => simp [good] at hg
  | succ k =>
    unfold good at hg
    split at hg
    · rename_i hk'; rw [hk'] at ha; simp [isAggT] at ha
    · rename_i hk'; rw [hk'] at ha; simp [isAggT] at ha
    · rename_i hk'; rw [hk'] at ha; simp [isAggT] at ha
    · rename_i hk'; rw [hk'] at ha; simp [isAggT] at ha
    · rename_i fs hk'
      obtain ⟨fields, hu, _⟩ := ty_struct hT hk'
      simp only [Value.okWide, hu] at h
      obtain ⟨cs, h, _⟩ := h
      exact ⟨cs, h⟩
    · cases hg

/-- One argument. -/
theorem readArg {m : Nat} {w : World} {r : Reach} {b0 k t : Nat} {v : Value} {d : DataW H} {ps : List MemPlace} (hg : good k t = true) (h : DataW.Trod enc P w 0 (fun _ => true) true t v d ps) (hok : Value.okWide P w r b0 t v) (hw : ∀ n ∈ d.weights P t, n ≤ m) : ∃ x, TyM m k t x ∧ Rep (okW w) w x v := by
  obtain ⟨fuel, h⟩ := h
  obtain ⟨x, h1, ⟨h2, h3⟩, h4, h5, h6⟩ := read hT k t _ d ps fuel hg h hw
  refine ⟨x, h1, ?_⟩
  cases ha : isAggT (tyOf t).k with
  | false =>
    have hc := h6 ha
    have hf := cell_flat hc
    have hv := okWide_cell hT (good_known hT hg) ha hok hg
    obtain ⟨_, u, h7, h8⟩ := h3 0 (by rw [hf]; simp)
    rw [hv] at h7
    simp at h7
    subst h7
    simpa [hf] using h8
  | true =>
    obtain ⟨l, rfl⟩ := h5 ha
    obtain ⟨cs, rfl⟩ := okWide_agg hT ha hok hg
    have : (Value.agg cs) = .agg cs.toList.toArray := by simp
    rw [this]
    refine .agg l cs.toList ?_ (fun i hi => (h3 i hi).1) (fun i hi hi' => ?_)
    · exact h2.symm
    · obtain ⟨_, u, q1, q2⟩ := h3 i hi
      have q1' : cs.toList[i]? = some u := q1
      rw [List.getElem?_eq_getElem hi'] at q1'
      cases q1'
      exact q2

theorem readAll {m : Nat} {w : World} {r : Reach} {b0 k : Nat} : ∀ (ts : List Nat) (vs : List Value) (ds : List (DataW H)) (ps : List MemPlace), (∀ t ∈ ts, good k t = true) → DataW.TrodAll enc P w 0 (fun _ => true) true ts vs ds ps → (∀ (j : Nat) t v, ts[j]? = some t → vs[j]? = some v → Value.okWide P w r b0 t v) → (∀ n ∈ DataW.weightsEach P ts ds, n ≤ m) →
    ∃ xs : List V, xs.length = ts.length ∧ vs.length = ts.length ∧ ds.length = ts.length ∧ (∀ i (h : i < xs.length) (h' : i < ts.length), TyM m k (ts[i]'h') (xs[i]'h)) ∧ ∀ i (h : i < xs.length) (h' : i < vs.length), Rep (okW w) w (xs[i]'h) (vs[i]'h')
  | [], [], [], ps, hg, h, hok, hw => ⟨[], rfl, rfl, rfl, by simp, by simp⟩
  | t :: ts, v :: vs, d :: ds, ps, hg, h, hok, hw => by
    obtain ⟨p, q, h1, h2, _⟩ := h
    unfold DataW.weightsEach at hw
    obtain ⟨x, k1, k2⟩ := readArg hT (hg t (by simp)) h1 (hok 0 t v rfl rfl) (fun n hn => hw n (List.mem_append_left _ hn))
    obtain ⟨xs, q1, q2, q3, q4, q5⟩ := readAll ts vs ds q (fun t ht => hg t (List.mem_cons_of_mem _ ht)) h2 (fun j t v h h' => hok (j + 1) t v (by simpa using h) (by simpa using h')) (fun n hn => hw n (List.mem_append_right _ hn))
    refine ⟨x :: xs, by simp [q1], by simp [q2], by simp [q3], fun i hi hi' => ?_, fun i hi hi' => ?_⟩
    · cases i with
      | zero => exact k1
      | succ i => exact q4 i (by simpa using hi) (by simpa using hi')
    · cases i with
      | zero => exact k2
      | succ i => exact q5 i (by simpa using hi) (by simpa using hi')
  | [], [], _ :: _, _, _, h, _, _ => h.elim
  | [], _ :: _, _, _, _, h, _, _ => h.elim
  | _ :: _, [], _, _, _, h, _, _ => h.elim
  | _ :: _, _ :: _, [], _, _, h, _, _ => h.elim
omit hT in
theorem trodAll_stays (hl : laidOutB P = true) {W W' : World} {sp' : Nat → Bool} : ∀ (ts : List Nat) (vs : List Value) (ds : List (DataW H)) (ps : List MemPlace), (∀ t ∈ ts, P.readableRec t = true ∧ t < P.types.size) → DataW.TrodAll enc P W 0 (fun _ => true) true ts vs ds ps → (∀ p ∈ ps, W.sameAt W' p) → (∀ p ∈ ps, sp' p.block = true) → DataW.TrodAll enc P W' 0 sp' true ts vs ds ps
  | [], [], [], ps, hr, h, _, _ => h
  | t :: ts, v :: vs, d :: ds, ps, hr, h, hs, hp => by
    obtain ⟨p, q, h1, h2, rfl⟩ := h
    exact ⟨p, q, WideElems.Trod_stays hl (hr t (by simp)).1 (hr t (by simp)).2 h1 (fun x hx => hs x (List.mem_append_left _ hx)) (fun x hx => hp x (List.mem_append_left _ hx)),
      trodAll_stays hl ts vs ds q (fun t ht => hr t (List.mem_cons_of_mem _ ht)) h2 (fun x hx => hs x (List.mem_append_right _ hx)) (fun x hx => hp x (List.mem_append_right _ hx)), rfl⟩
  | [], [], _ :: _, _, _, h, _, _ => h.elim
  | [], _ :: _, _, _, _, h, _, _ => h.elim
  | _ :: _, [], _, _, _, h, _, _ => h.elim
  | _ :: _, _ :: _, [], _, _, h, _, _ => h.elim

/-- What a row asks of a law's function: it answers true, and leaves all that was there. -/
def RowR (P : Program) (f : Nat) (xs : List V) : Prop :=
  ∀ (w : World) (vs : List Value), vs.length = xs.length → (∀ i (h : i < xs.length) (h' : i < vs.length), Rep (okW w) w (xs[i]'h) (vs[i]'h')) →
    Calls P f vs.toArray w fun e w' => e = .returned (.bool true) ∧ Below w.heap.size w w'
omit hT in
theorem RowR.of_R {f : Nat} {xs : List V} (h : FnR P f xs [.v (.bool true)]) : RowR P f xs := fun w vs hl hr =>
  (h.2 w (okW w) vs (fun b o h => h) hl hr).mono fun e w' ⟨us, gs, ok', he, hb, _, _, _, hu, hg, hrs, _⟩ => by
    match us, gs, hu, hg, hrs, he with
    | [u], [g], hu, hg, hrs, he =>
      obtain ⟨_, hrep⟩ := hrs 0 (by simp) (by simp) (by simp)
      have hub : u = .bool true := rep_bool hrep
      subst hub
      exact ⟨he, hb⟩
    | [], _, hu, _, _, _ => simp at hu
    | _ :: _ :: _, _, hu, _, _, _ => simp at hu
    | [_], [], _, hg, _, _ => simp at hg
    | [_], _ :: _ :: _, _, hg, _, _ => simp at hg
omit hT in
theorem RowR.of_G {f : Nat} {xs : List V} (h : FnG P f xs ⟨0, fun _ => none⟩ fun rs _ => rs = [.v (.bool true)]) : RowR P f xs := fun w vs hl hr =>
  (h.2 w (okW w) vs (fun b o h => h) ⟨rfl, fun id o q => by (cases q), fun i j o p b q => by (cases q)⟩ hl hr).mono fun e w' ⟨us, gs, ok', rs, gh', hpost, he, fr, _, _, hu, hg, hrs, _⟩ => by
    subst hpost
    match us, gs, hu, hg, hrs, he with
    | [u], [g], hu, hg, hrs, he =>
      obtain ⟨_, hrep⟩ := hrs 0 (by simp) (by simp) (by simp)
      have hub : u = .bool true := rep_bool hrep
      subst hub
      exact ⟨he, fr.os, fr.tape, fr.output, fr.size, fun b hb => fr.old b hb (fun ⟨id, o, q, _⟩ => by cases q)⟩
    | [], _, hu, _, _, _ => simp at hu
    | _ :: _ :: _, _, hu, _, _, _ => simp at hu
    | [_], [], _, hg, _, _ => simp at hg
    | [_], _ :: _ :: _, _, hg, _, _ => simp at hg
/-- **The contract that the row's form asks for.** -/
theorem calls_rowM {m : Nat} {f : Nat} {fn : Func} {ts : List Nat} {tb k : Nat} {s : ChangeSpec} (hparams : fn.params.toList = ts) (hrt : fn.resultTypes = #[tb]) (htb : P.underlying tb = some .bool) (hgood : ts.all (good k) = true) (hrec : ∀ t ∈ ts, P.readableRec t = true ∧ t < P.types.size) (hlaid : laidOutB P = true)
    (hvars : s.vars = []) (hs : ∀ ds : List (DataW H), ds.length = ts.length → s.fn H ds = { results := [.lit (.bool true)], args := ds })
    (hf : ∀ xs : List V, xs.length = ts.length → (∀ i (h : i < xs.length) (h' : i < ts.length), TyM m k (ts[i]'h') (xs[i]'h)) → RowR P f xs)
    {W : World} {r : Reach} {base : Nat} {args : Array Value} {ds gs : List (DataW H)} {before : List MemPlace}
    (hval : ∀ (j : Nat) t v, fn.params[j]? = some t → args[j]? = some v → Value.okWide P W r base t v) (hW : DataW.Whole enc P fn.params.toList s.vars false W args.toList ds gs before)
    (hwt : ∀ n ∈ DataW.weightsEach P (fn.params.toList ++ s.plain.varTypes P) (ds ++ gs), n ≤ m) :
    Calls P f args W fun e W' => ∃ v, e = .returned v ∧ s.post enc P fn false true false false W args v W' := by
  subst hparams
  have hW' := hW
  obtain ⟨p, q, hA, hV, rfl, hz, hn⟩ := hW
  rw [hvars] at hV
  obtain ⟨rfl, rfl⟩ := trodVars_none hV
  have hlen : ds.length = fn.params.toList.length := by
    clear hval hW' hwt hz hn hs hf hgood hrec hV
    generalize fn.params.toList = ts at *
    generalize args.toList = vs at *
    clear hrt
    induction ts generalizing vs ds p with
    | nil => cases vs <;> cases ds <;> first | rfl | exact hA.elim
    | cons t ts ih =>
      cases vs <;> cases ds <;> first | exact hA.elim | skip
      obtain ⟨p1, q1, _, h2, _⟩ := hA
      simp [ih _ _ h2]
  obtain ⟨xs, h1, h2, h3, h4, h5⟩ := readAll hT fn.params.toList args.toList ds p (fun t ht => List.all_eq_true.1 hgood t ht) hA (fun j t v h h' => hval j t v (by simpa using h) (by simpa using h')) (fun n hn => by
    exact hwt n (by
      suffices h : ∀ (ts us : List Nat) (l : List (DataW H)), l.length = ts.length → DataW.weightsEach P (ts ++ us) (l ++ []) = DataW.weightsEach P ts l by
        rw [h _ _ _ hlen]; exact hn
      intro ts us l hl
      simp only [List.append_nil]
      induction ts generalizing l with
      | nil =>
        have : l = [] := List.eq_nil_of_length_eq_zero (by simpa using hl)
        subst this
        cases us <;> simp [DataW.weightsEach]
      | cons t ts ih =>
        cases l with
        | nil => simp at hl
        | cons d l => simp only [List.cons_append]; unfold DataW.weightsEach; rw [ih l (by simpa using hl)])
    )
  have hcall := hf xs h1 h4 W args.toList (by omega) h5
  have hargs : args.toList.toArray = args := by simp
  rw [hargs] at hcall
  refine hcall.mono fun e W' ⟨he, hb⟩ => ?_
  · refine ⟨.bool true, he, ?_⟩
    have hlt := hW'.lt
    have hpost : s.fn H (ds ++ []) = { results := [.lit (.bool true)], args := ds } := by rw [List.append_nil]; exact hs ds hlen
    have hstay : ∀ sp : Nat → Bool, (∀ x ∈ p, sp x.block = true) → DataW.TrodAll enc P W' 0 sp true fn.params.toList args.toList ds p := fun sp hsp =>
      trodAll_stays hlaid _ _ _ _ hrec hA (fun x hx => hb.same (hlt x (by simpa using hx))) hsp
    have hres : ∀ (b : Nat) (sp : Nat → Bool) (hd : Bool), DataW.TrodAll enc P W' b sp hd fn.resultTypes.toList ((Value.bool true).resultList fn.resultTypes.size) [.lit (.bool true)] [] := by
      intro b sp hd
      rw [hrt]
      exact trodAll_mk1 (shut_bool htb true)
    have hok : ∀ (j : Nat) (t : TypeId) (r : Value), fn.resultTypes[j]? = some t → ((Value.bool true).resultList fn.resultTypes.size)[j]? = some r → Value.okWide P W' .any 0 t r := ok_one hrt rfl (okWide_bool_mk htb true)
    have hold : ∀ x ∈ p, (fun b => decide (b < W.heap.size)) x.block = true := fun x hx => by simpa using hlt x (by simpa using hx)
    refine ⟨ds, [], p ++ [], [], p, [], hW', by rw [hpost]; exact hres _ _ _, by rw [hpost]; exact hstay _ hold, by rw [hvars, hpost]; rfl, World.keptBut_mono (fun x hx => ⟨by simpa using hx, Or.inr (by simpa using hx)⟩) (hb.frame (· ∈ p)), fun _ => ?_⟩
    refine ⟨hok, _, [], ([] ++ p) ++ [], ⟨[] ++ p, [], trodAll_append (hstay _ (fun _ _ => rfl)) (hres _ _ _), by rw [hvars]; rfl, rfl, ?_, ?_⟩, ?_⟩
    · intro b off hp
      have hx : MemPlace.cell b off ∈ p := by simpa using hp
      rw [hb.frozen (p := ⟨b, off, none⟩) (by have := hlt _ (by simpa using hx : MemPlace.cell b off ∈ p ++ []); exact this)]
      exact hz b off (by simpa using hx)
    · intro ha; cases ha
    · intro x hx _
      simpa using hx
theorem calls_row {f : Nat} {fn : Func} {ts : List Nat} {tb k : Nat} {s : ChangeSpec} (hparams : fn.params.toList = ts) (hrt : fn.resultTypes = #[tb]) (htb : P.underlying tb = some .bool) (hgood : ts.all (good k) = true) (hrec : ∀ t ∈ ts, P.readableRec t = true ∧ t < P.types.size) (hlaid : laidOutB P = true)
    (hvars : s.vars = []) (hs : ∀ ds : List (DataW H), ds.length = ts.length → s.fn H ds = { results := [.lit (.bool true)], args := ds })
    (hf : ∀ xs : List V, xs.length = ts.length → (∀ i (h : i < xs.length) (h' : i < ts.length), TyV k (ts[i]'h') (xs[i]'h)) → RowR P f xs)
    {W : World} {r : Reach} {base : Nat} {args : Array Value} {ds gs : List (DataW H)} {before : List MemPlace}
    (hval : ∀ (j : Nat) t v, fn.params[j]? = some t → args[j]? = some v → Value.okWide P W r base t v) (hW : DataW.Whole enc P fn.params.toList s.vars false W args.toList ds gs before)
    (hwt : (DataW.weightsEach P (fn.params.toList ++ s.plain.varTypes P) (ds ++ gs)).all (· ≤ reachBytes) = true) :
    Calls P f args W fun e W' => ∃ v, e = .returned v ∧ s.post enc P fn false true false false W args v W' :=
  calls_rowM hT hparams hrt htb hgood hrec hlaid hvars hs hf hval hW fun n hn => by simpa using List.all_eq_true.1 hwt n hn
end
end Go.Proofs.Ytinckcpmkocakaa.AM
