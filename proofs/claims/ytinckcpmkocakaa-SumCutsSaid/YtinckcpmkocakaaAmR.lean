/-
  The abstract machine, part 25: what an input's reading gives: pure data.
-/
import Derived.Test.YtinckcpmkocakaaAmL
import Derived.ProofKit
import Derived.SizedLaws
set_option linter.unusedVariables false
set_option linter.unusedSimpArgs false
set_option linter.unusedSectionVars false
namespace Go.Proofs.Ytinckcpmkocakaa.AM
open Go Go.RowKit

def laidF : Nat → List (Nat × Nat) → Nat → Bool
  | off, [], size => off == size
  | off, (o, ft) :: r, size => o == off && laidF (off + (tyOf ft).size) r size
/-- Types whose values a reading knows whole. -/
def good : Nat → Nat → Bool
  | 0, _ => false
  | k + 1, t => match (tyOf t).k with
    | .bool => (tyOf t).size == 1
    | .int _ => (tyOf t).size == 1
    | .str => (tyOf t).size == 1
    | .slice e => (tyOf t).size == 1 && good k e && Nat.ble 1 (tyOf e).size
    | .struct fs => fs.all (fun p => good k p.2) && laidF 0 fs (tyOf t).size
    | _ => false
/-- A datum of a type. -/
def TyV : Nat → Nat → V → Prop
  | 0, _, _ => False
  | k + 1, t, x => match (tyOf t).k with
    | .bool => ∃ b, x = .bool b
    | .int kd => ∃ n, x = .int kd n ∧ kd.min ≤ n ∧ n ≤ kd.max
    | .str => ∃ s, x = .str s ∧ s.length ≤ reachBytes
    | .slice e => ∃ l, x = .slice l ∧ l.length * (tyOf e).bytes ≤ reachBytes ∧ ∀ y ∈ l, TyV k e y
    | .struct fs => ∃ ys : List V, x = .agg (ys.flatMap V.flat) ∧ ys.length = fs.length ∧ ∀ i (h : i < ys.length) (h' : i < fs.length), TyV k (fs[i]'h').2 (ys[i]'h)
    | _ => False

def okW (w : World) : Oks := fun b _ => b < w.heap.size
/-- Cells that tell a datum. -/
def CR (w : World) (x : V) (cs : List Value) : Prop :=
  x.flat.length = cs.length ∧ ∀ j (h : j < x.flat.length), (x.flat[j]'h).cell = true ∧ ∃ u, cs[j]? = some u ∧ Rep (okW w) w (x.flat[j]'h) u

theorem CR.one {w : World} {x : V} {u : Value} (hx : x.cell = true) (h : Rep (okW w) w x u) : CR w x [u] := by
  have hf := cell_flat hx
  refine ⟨by rw [hf]; rfl, fun j hj => ?_⟩
  have hj0 : j = 0 := by rw [hf] at hj; simpa using hj
  subst hj0
  exact ⟨by simpa [hf] using hx, u, rfl, by simpa [hf] using h⟩

section
variable {P : Program} (hT : tableOf P = T) {H : Type} {enc : TypeId × Value → H}
include hT
theorem cellsOf_ty {t : Nat} (h : known (tyOf t).k = true) : P.cellsOf t = (tyOf t).size := by
  obtain ⟨i, z, hi, hz, hs, _⟩ := ty_info hT (known_ne' h)
  simp [Program.cellsOf, hi, hs]
theorem bytesOf_ty {t : Nat} (h : known (tyOf t).k = true) : P.bytesOf t = (tyOf t).bytes := by
  obtain ⟨i, z, hi, hz, hs, hb, _⟩ := ty_info hT (known_ne' h)
  simp [Program.bytesOf, hi, hb]
theorem good_known {k t : Nat} (h : good k t = true) : known (tyOf t).k = true := by
  cases k with
  | zero => simp [good] at h
  | succ k =>
    unfold good at h
    split at h <;> simp_all [known]

theorem mem_weightsAll {e : Nat} : ∀ {l : List (DataW H)} {d : DataW H} {n : Nat}, d ∈ l → n ∈ d.weights P e → n ∈ DataW.weightsAll P e l
  | x :: r, d, n, hd, hn => by
    unfold DataW.weightsAll
    rcases List.mem_cons.1 hd with rfl | hd
    · exact List.mem_append_left _ hn
    · exact List.mem_append_right _ (mem_weightsAll hd hn)
theorem mem_weightsEach : ∀ {ts : List Nat} {l : List (DataW H)} (i : Nat) {t : Nat} {d : DataW H} {n : Nat}, ts[i]? = some t → l[i]? = some d → n ∈ d.weights P t → n ∈ DataW.weightsEach P ts l
  | [], _, i, t, d, n, h, _, _ => by simp at h
  | _ :: _, [], i, t, d, n, _, h, _ => by simp at h
  | t0 :: ts, x :: r, i, t, d, n, h, h2, hn => by
    unfold DataW.weightsEach
    cases i with
    | zero =>
      simp at h h2; subst h; subst h2
      exact List.mem_append_left _ hn
    | succ i => exact List.mem_append_right _ (mem_weightsEach i (by simpa using h) (by simpa using h2) hn)

theorem struct_cells {w : World} {k : Nat} : ∀ (fs : List (Nat × Nat)) (off size : Nat) (cs : List Value), laidF off fs size = true → cs.length = size → (∀ p ∈ fs, ∃ y, TyV k p.2 y ∧ CR w y ((cs.drop p.1).take (tyOf p.2).size) ∧ y.flat.length = (tyOf p.2).size) →
    ∃ ys : List V, ys.length = fs.length ∧ (∀ i (h : i < ys.length) (h' : i < fs.length), TyV k (fs[i]'h').2 (ys[i]'h)) ∧ off + (ys.flatMap V.flat).length = size ∧ ∀ j (h : j < (ys.flatMap V.flat).length), ((ys.flatMap V.flat)[j]'h).cell = true ∧ ∃ u, cs[off + j]? = some u ∧ Rep (okW w) w ((ys.flatMap V.flat)[j]'h) u
  | [], off, size, cs, hl, hs, hf => ⟨[], rfl, by simp, by simpa [laidF] using hl, by simp⟩
  | (o, ft) :: r, off, size, cs, hl, hs, hf => by
    simp only [laidF, Bool.and_eq_true, beq_iff_eq] at hl
    obtain ⟨rfl, hl⟩ := hl
    obtain ⟨y, h1, h2, h3⟩ := hf (o, ft) (by simp)
    replace h3 : y.flat.length = (tyOf ft).size := h3
    obtain ⟨ys, k1, k2, k3, k4⟩ := struct_cells r _ size cs hl hs (fun p hp => hf p (List.mem_cons_of_mem _ hp))
    refine ⟨y :: ys, by simp [k1], fun i hi hi' => ?_, by rw [List.flatMap_cons, List.length_append, h3]; omega, fun j hj => ?_⟩
    · cases i with
      | zero => exact h1
      | succ i => exact k2 i (by simpa using hi) (by simpa using hi')
    · have hj2 : j < y.flat.length + (ys.flatMap V.flat).length := by rw [List.flatMap_cons, List.length_append] at hj; exact hj
      simp only [List.flatMap_cons] at hj ⊢
      by_cases hlt : j < y.flat.length
      · rw [List.getElem_append_left hlt]
        obtain ⟨q1, u, q2, q3⟩ := h2.2 j hlt
        refine ⟨q1, u, ?_, q3⟩
        rw [List.getElem?_take, List.getElem?_drop] at q2
        split at q2
        · exact q2
        · cases q2
      · rw [List.getElem_append_right (by omega)]
        obtain ⟨q1, u, q2, q3⟩ := k4 (j - y.flat.length) (by omega)
        refine ⟨q1, u, ?_, q3⟩
        rw [← q2]; congr 1; omega

/-- **What a reading gives.** -/
theorem read {w : World} {sp : Nat → Bool} : ∀ (k t : Nat) (cs : List Value) (d : DataW H) (ps : List MemPlace) (fuel : Nat), good k t = true → DataW.trod enc P w 0 sp true fuel t cs = some (d, ps) → (∀ n ∈ d.weights P t, n ≤ reachBytes) →
    ∃ x, TyV k t x ∧ CR w x cs ∧ x.flat.length = (tyOf t).size ∧ (isAggT (tyOf t).k = true → ∃ l, x = .agg l) ∧ (isAggT (tyOf t).k = false → x.cell = true)
  | 0, t, cs, d, ps, fuel, hg, h, hw => by simp [good] at hg
  | k + 1, t, cs, d, ps, fuel, hg, h, hw => by
    unfold TyV
    unfold good at hg
    split at hg
    · rename_i hk
      rw [hk]
      obtain ⟨b, rfl, _⟩ := DataW.trod_bool (ty_bool hT hk) h
      exact ⟨.bool b, ⟨b, rfl⟩, CR.one rfl (.bool b), by have := eq_of_beq hg; simp [V.flat]; omega, fun h => by simp [isAggT] at h, fun _ => rfl⟩
    · rename_i kd hk
      rw [hk]
      obtain ⟨n, rfl, _, hwf⟩ := DataW.trod_int (ty_int hT hk) h
      simp only [Lit.wf, Bool.and_eq_true, decide_eq_true_eq] at hwf
      exact ⟨.int kd n, ⟨n, rfl, hwf⟩, CR.one rfl (.int kd n), by have := eq_of_beq hg; simp [V.flat]; omega, fun h => by simp [isAggT] at h, fun _ => rfl⟩
    · rename_i hk
      rw [hk]
      obtain ⟨s, rfl, hd, _⟩ := DataW.trod_string (ty_str hT hk) h
      cases hd
      refine ⟨.str s.data.toList, ⟨_, rfl, hw _ (by simp [DataW.weights])⟩, CR.one rfl (.str _), by have := eq_of_beq hg; simp [V.flat]; omega, fun h => by simp [isAggT] at h, fun _ => rfl⟩
    · rename_i e hk
      rw [hk]
      simp only [Bool.and_eq_true, beq_iff_eq] at hg
      obtain ⟨⟨hsz, hge⟩, hz1⟩ := hg
      have hz1 : 1 ≤ (tyOf e).size := Nat.le_of_ble_eq_true hz1
      have hke := good_known hT hge
      have hu := ty_slice hT hk
      rcases DataW.trod_slice hu h with ⟨rfl, hd⟩ | ⟨a, len, cap, elems, rest, n, _, rfl, hd, _, hlc, hcm, hel, helem, _⟩
      · exact ⟨.slice [], ⟨[], rfl, by simp, by simp⟩, CR.one rfl (rep_nil_slice _ _), by simpa [V.flat] using hsz.symm, fun h => by simp [isAggT] at h, fun _ => rfl⟩
      · cases hd
        have hcells := cellsOf_ty hT hke
        have hw1 : (elems.length + rest.length) * (tyOf e).bytes ≤ reachBytes := by
          have := hw ((elems.length + rest.length) * P.bytesOf e) (by unfold DataW.weights; rw [hu]; simp)
          rwa [bytesOf_ty hT hke] at this
        have hwe : ∀ i (hi : i < elems.length), ∀ m ∈ (elems[i]'hi).1.weights P e, m ≤ reachBytes := fun i hi m hm => hw m (by
          unfold DataW.weights; rw [hu]
          simp only [List.mem_cons, List.mem_append]
          exact .inr (.inl (mem_weightsAll hT (List.mem_map_of_mem (List.getElem_mem hi)) hm)))
        have each : ∀ i (hi : i < len), ∃ x us, TyV k e x ∧ CR w x us ∧ x.flat.length = (tyOf e).size ∧ w.cells? 0 (a.add (i * (tyOf e).size)) (tyOf e).size = some us := by
          intro i hi
          have h1 := helem i hi
          have hi' : i < elems.length := by omega
          rw [List.getElem?_eq_getElem hi', hcells] at h1
          cases hc : w.cells? 0 (a.add (i * (tyOf e).size)) (tyOf e).size with
          | none => rw [hc] at h1; cases h1
          | some us =>
            rw [hc] at h1
            obtain ⟨x, q1, q2, q3, _⟩ := read k e us _ _ _ hge h1 (hwe i hi')
            exact ⟨x, us, q1, q2, q3, rfl⟩
        have hx : ∃ l : List V, l.length = len ∧ ∀ i (hi : i < l.length), ∃ us, TyV k e (l[i]'hi) ∧ CR w (l[i]'hi) us ∧ (l[i]'hi).flat.length = (tyOf e).size ∧ w.cells? 0 (a.add (i * (tyOf e).size)) (tyOf e).size = some us := by
          refine ⟨List.ofFn fun i : Fin len => (each i.1 i.2).choose, by simp, fun i hi => ?_⟩
          simp only [List.getElem_ofFn]
          exact (each i (by simpa using hi)).choose_spec
        obtain ⟨l, hl, hall⟩ := hx
        refine ⟨.slice l, ⟨l, rfl, ?_, fun y hy => ?_⟩, CR.one rfl ?_, by simpa [V.flat] using hsz.symm, fun h => by simp [isAggT] at h, fun _ => rfl⟩
        · refine Nat.le_trans (Nat.mul_le_mul_right _ ?_) hw1
          omega
        · obtain ⟨i, hi, rfl⟩ := List.getElem_of_mem hy
          exact (hall i hi).choose_spec.1
        · subst hl
          obtain ⟨b, off, spot⟩ := a
          have hspot : 0 < l.length → spot = none := fun hp => by
            obtain ⟨us, _, ⟨q1, q2⟩, q3, q4⟩ := hall 0 hp
            obtain ⟨_, u, q6, _⟩ := q2 0 (by omega)
            obtain ⟨_, _, q9⟩ := World.cells?_some q4
            have h9 := q9 0 (by omega)
            rw [q6] at h9
            have := World.cell?_spot h9
            simpa [Addr.add] using this
          have hcell : ∀ i (hi : i < l.length) j, j < (tyOf e).size → ∃ u, spot = none ∧ w.cell? ⟨b, off + (i * (tyOf e).size + j), none⟩ = some u ∧ ∃ hj : j < (l[i]'hi).flat.length, ((l[i]'hi).flat[j]'hj).cell = true ∧ Rep (okW w) w ((l[i]'hi).flat[j]'hj) u := by
            intro i hi j hj
            obtain ⟨us, _, ⟨q1, q2⟩, q3, q4⟩ := hall i hi
            obtain ⟨q5, u, q6, q7⟩ := q2 j (by omega)
            obtain ⟨_, q8, q9⟩ := World.cells?_some q4
            have hs := hspot (by omega)
            subst hs
            have h9 := q9 j hj
            rw [q6, add_plain, add_plain, Nat.add_assoc] at h9
            exact ⟨u, rfl, h9, by omega, q5, q7⟩
          refine .slice l (some ⟨b, off, spot⟩) cap (tyOf e).size (fun i j => (w.cell? ⟨b, off + (i * (tyOf e).size + j), none⟩).getD undef) hlc hcm (fun hp => ?_) (fun i hi => (hall i hi).choose_spec.2.2.1) (fun i hi j hj => ?_) (fun i hi j hj => ?_)
          · obtain ⟨u, hsp, _⟩ := hcell 0 hp 0 hz1
            subst hsp
            refine ⟨b, off, rfl, fun i j hi hj => ?_⟩
            obtain ⟨u, _, hu, _⟩ := hcell i hi j hj
            exact ⟨cell_lt hu, by simp [hu]⟩
          · have h3 := (hall i hi).choose_spec.2.2.1
            obtain ⟨_, _, _, hj', h4, _⟩ := hcell i hi j (by omega)
            exact h4
          · have h3 := (hall i hi).choose_spec.2.2.1
            obtain ⟨u, _, hu, hj', _, h4⟩ := hcell i hi j (by omega)
            simp only [hu, Option.getD_some]
            exact h4
    · rename_i fs hk
      rw [hk]
      simp only [Bool.and_eq_true] at hg
      obtain ⟨hgf, hlf⟩ := hg
      obtain ⟨fields, hu, hfs⟩ := ty_struct hT hk
      obtain ⟨xs, n, _, hd, hcl, hxl, hf⟩ := DataW.trod_struct hu h
      cases hd
      have hkn : known (tyOf t).k = true := by rw [hk]; rfl
      rw [cellsOf_ty hT hkn] at hcl
      have hper : ∀ p ∈ fs, ∃ y, TyV k p.2 y ∧ CR w y ((cs.drop p.1).take (tyOf p.2).size) ∧ y.flat.length = (tyOf p.2).size := by
        intro p hp
        have hgp := List.all_eq_true.1 hgf p hp
        subst hfs
        obtain ⟨f, hfm, rfl⟩ := List.mem_map.1 hp
        obtain ⟨i, hi, rfl⟩ := List.getElem_of_mem hfm
        have hi' : i < fields.size := by simpa using hi
        have h1 := hf i fields[i] (Array.getElem?_eq_getElem hi')
        have hix : i < xs.length := by omega
        have hgp' : good k fields[i].type = true := hgp
        rw [List.getElem?_eq_getElem hix, cellsOf_ty hT (good_known hT hgp')] at h1
        obtain ⟨y, q1, q2, q3, _⟩ := read k _ _ _ _ _ hgp' h1 (fun m hm => hw m (by
          unfold DataW.weights; rw [hu]
          exact mem_weightsEach hT i (t := fields[i].type) (d := (xs[i]'hix).1) (by simp [hi']) (by simp [hix]) hm))
        exact ⟨y, q1, q2, q3⟩
      obtain ⟨ys, k1, k2, k3, k4⟩ := struct_cells hT fs 0 (tyOf t).size cs hlf hcl hper
      refine ⟨.agg (ys.flatMap V.flat), ⟨ys, rfl, k1, k2⟩, ⟨by simp only [V.flat]; omega, fun j hj => ?_⟩, by simp only [V.flat]; omega, fun _ => ⟨_, rfl⟩, fun h => by simp [isAggT] at h⟩
      obtain ⟨g1, u, g2, g3⟩ := k4 j hj
      rw [Nat.zero_add] at g2
      exact ⟨g1, u, g2, g3⟩
    · cases hg
end
end Go.Proofs.Ytinckcpmkocakaa.AM
