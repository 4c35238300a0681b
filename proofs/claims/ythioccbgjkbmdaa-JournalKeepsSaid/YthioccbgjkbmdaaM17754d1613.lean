/-
  Contracts: a record's check, part 1.
-/
import Derived.Test.YthioccbgjkbmdaaM16d635e0f8
set_option linter.unusedVariables false
set_option linter.unusedSimpArgs false
namespace Go.Proofs.Ythioccbgjkbmdaa.AM
open Go Go.RowKit
set_option maxRecDepth 100000
set_option maxHeartbeats 4000000

def inM (n a b : Int) : Bool := decide (a ≤ n) && decide (n ≤ b)
theorem cIn (n a b : Int) : CallR Try.prog 22 [.int .i64 n, .int .i64 a, .int .i64 b] fun rs => ∃ c, rs = [.v (.bool c)] ∧ c = inM n a b := by
  obtain ⟨c, hcv⟩ : ∃ c, c = inM n a b := ⟨_, rfl⟩
  refine .of _ ⟨c, rfl, hcv⟩ ?_
  refine FnR.of' T_ok M_ok (fn := Try.f22) (by kernel_rfl) rfl rfl rfl rfl (Nat.le_of_ble_eq_true rfl) fun A hA => ?_
  cbv
  refine condI hA (fun h1 => ?_) (fun h1 => ?_)
  · cbv
    refine retI hA ?_
    simp only [retOk, rsOk, retIds, idsD, idsDs, softOb, toV, Option.some.injEq, V.bool.injEq, and_true]
    rw [hcv, hA] at *
    have h1 : decide (a ≤ n) = true := h1
    simp only [std, inM, h1, Bool.true_and]
  · cbv
    refine retI hA ?_
    simp only [retOk, rsOk, retIds, idsD, idsDs, softOb, toV, Option.some.injEq, V.bool.injEq, and_true]
    rw [hcv, hA] at *
    have h1 : decide (a ≤ n) = false := h1
    simp only [inM, h1, Bool.false_and]
def badM (s : List UInt8) : Bool := !(inM s.length 1 48)
theorem cBad (s : List UInt8) : CallR Try.prog 23 [.str s, .ref [.clo 22 []]] fun rs => ∃ c, rs = [.v (.bool c)] ∧ c = badM s := by
  obtain ⟨c, hcv⟩ : ∃ c, c = badM s := ⟨_, rfl⟩
  refine .of _ ⟨c, rfl, hcv⟩ ?_
  refine FnR.of' T_ok M_ok (fn := Try.f23) (by kernel_rfl) rfl rfl rfl rfl (Nat.le_of_ble_eq_true rfl) fun A hA => ?_
  cbv
  refine callI hA (cIn (A.lenS s) 1 48) ?_
  intro rs_ h_
  obtain ⟨d, q_1, hd⟩ := h_
  subst q_1
  cbv
  refine retI hA ?_
  simp only [retOk, rsOk, retIds, idsD, idsDs, softOb, toV, Option.some.injEq, V.bool.injEq, and_true]
  rw [hcv, hA, hd, hA]; rfl
def idxM {α : Type} (p : α → Bool) (l : List α) : Int := match l.findIdx? p with
  | some i => i
  | none => -1
theorem idxM_some {α : Type} {p : α → Bool} {l : List α} {j : Nat} (hj : j < l.length) (h : p l[j] = true) (hb : ∀ m (hm : m < l.length), m < j → p l[m] = false) : idxM p l = j := by
  have : l.findIdx? p = some j := by
    rw [List.findIdx?_eq_some_iff_getElem]
    exact ⟨hj, h, fun m hm => by simp [hb m (by omega) hm]⟩
  simp [idxM, this]
theorem idxM_none {α : Type} {p : α → Bool} {l : List α} (hb : ∀ m (hm : m < l.length), p l[m] = false) : idxM p l = -1 := by
  have : l.findIdx? p = none := by
    rw [List.findIdx?_eq_none_iff]
    intro x hx
    obtain ⟨i, hi, rfl⟩ := List.getElem_of_mem hx
    exact hb i hi
  simp [idxM, this]
theorem idxM_any {α : Type} (p : α → Bool) (l : List α) : decide (0 ≤ idxM p l) = l.any p := by
  unfold idxM
  cases h : l.findIdx? p with
  | none =>
    rw [List.findIdx?_eq_none_iff] at h
    have : l.any p = false := by rw [List.any_eq_false]; intro x hx; simp [h x hx]
    rw [this]; rfl
  | some i =>
    rw [List.findIdx?_eq_some_iff_getElem] at h
    obtain ⟨h1, h2, _⟩ := h
    have : l.any p = true := List.any_eq_true.2 ⟨_, List.getElem_mem h1, h2⟩
    rw [this]; simp
theorem cIdxS (ss : List (List UInt8)) (l : List V) (hl : l = strsV ss) (hs : ss.length ≤ 140737488355328) : CallR Try.prog 59 [.slice l, .clo 23 [.ref [.clo 22 []]]] fun rs => ∃ r : Int, rs = [.v (.int .i64 r)] ∧ r = idxM badM ss := by
  obtain ⟨r, hr⟩ : ∃ r, r = idxM badM ss := ⟨_, rfl⟩
  refine .of _ ⟨r, rfl, hr⟩ ?_
  refine FnR.of' T_ok M_ok (fn := Try.f59) (by kernel_rfl) rfl rfl rfl rfl (Nat.le_of_ble_eq_true rfl) fun A hA => ?_
  cbv
  refine loopF hA (ι := Int) (fun i => { n := 19, sl := [(0, .v (.slice l)), (1, .v (.clo 23 [.ref [.clo 22 []]])), (7, .v (.int .i64 (A.lenL l))), (8, .v (.int .i64 i))], ob := [] })
    (fun i => ∃ j : Nat, i = j ∧ j ≤ ss.length ∧ ∀ m (hm : m < ss.length), m < j → badM ss[m] = false) (fun i => ss.length - i.toNat) 0 (weakI rfl ⟨rfl, rfl, rfl, rfl, trivial⟩ trivial) ⟨0, rfl, Nat.zero_le _, fun _ _ h => by omega⟩ ?_
  rintro i ⟨j, hi, hj, hb⟩
  cbv
  refine condI hA (fun hc => ?_) (fun hc => ?_)
  · have hjl := ltL hA (natEq hi) (lenS' hl) hc
    cbv
    refine getSN hA hl (natEq hi) hjl ?_
    rintro x hx
    cbv
    refine callI hA (cBad x) ?_
    intro rs_ h_
    obtain ⟨c, q_1, hcv⟩ := h_
    subst q_1
    cbv
    rw [hx] at hcv
    refine condI hA (fun h2 => ?_) (fun h2 => ?_)
    · cbv
      refine retI hA ?_
      simp only [retOk, rsOk, retIds, idsD, idsDs, softOb, toV, Option.some.injEq, V.int.injEq, true_and, and_true]
      rw [hr, natEq hi]
      exact (idxM_some hjl (hcv.symm.trans h2) hb).symm
    · refine ⟨_, weakI rfl ⟨rfl, rfl, rfl, rfl, trivial⟩ trivial, ⟨j + 1, upI hA (natEq hi) (by omega), hjl, fun m hm hmj => ?_⟩, upM hA (natEq hi) hjl hs⟩
      by_cases e : m = j
      · subst e; exact hcv.symm.trans h2
      · exact hb m hm (by omega)
  · have hjl := geL hA (natEq hi) (lenS' hl) hc hj
    cbv
    refine retI hA ?_
    simp only [retOk, rsOk, retIds, idsD, idsDs, softOb, toV, Option.some.injEq, V.int.injEq, true_and, and_true]
    rw [hr]
    exact (idxM_none fun m hm => hb m hm (by omega)).symm
theorem cContS (ss : List (List UInt8)) (l : List V) (hl : l = strsV ss) (hs : ss.length ≤ 140737488355328) : CallR Try.prog 24 [.slice l, .clo 23 [.ref [.clo 22 []]]] fun rs => ∃ c, rs = [.v (.bool c)] ∧ c = ss.any badM := by
  obtain ⟨c, hcv⟩ : ∃ c, c = ss.any badM := ⟨_, rfl⟩
  refine .of _ ⟨c, rfl, hcv⟩ ?_
  refine FnR.of' T_ok M_ok (fn := Try.f24) (by kernel_rfl) rfl rfl rfl rfl (Nat.le_of_ble_eq_true rfl) fun A hA => ?_
  cbv
  refine callI hA (cIdxS ss l hl hs) ?_
  intro rs_ h_
  obtain ⟨r, q_1, hr⟩ := h_
  subst q_1
  cbv
  refine retI hA ?_
  simp only [retOk, rsOk, retIds, idsD, idsDs, softOb, toV, Option.some.injEq, V.bool.injEq, and_true]
  rw [hcv, hA, hr]; exact idxM_any badM ss
end Go.Proofs.Ythioccbgjkbmdaa.AM

/-
  Contracts: a record's check, part 2.
-/
set_option linter.unusedVariables false
set_option linter.unusedSimpArgs false
namespace Go.Proofs.Ythioccbgjkbmdaa.AM
open Go Go.RowKit
set_option maxRecDepth 100000
set_option maxHeartbeats 4000000

def markZ (r : RecM) : Bool := r.mi == 0 && (r.mo == 0 && (r.si == 0 && r.so == 0))
def pathOk (p : List (List UInt8)) : Bool := inM p.length 1 8 && !(p.any badM)
/-- May it be a record? -/
def checkM (r : RecM) : Bool :=
  if r.k = 1 then pathOk r.path && (inM r.sz 0 8192 && markZ r)
  else if r.k = 2 then r.path == [] && (r.sz == 0 && (r.sm == 0 && (inM r.mi 1 24576 && inM r.mo 1 24576)))
  else if r.k = 3 then r.path == [] && (r.sz == 0 && (r.sm == 0 && markZ r))
  else false
def errM (c : Bool) (e : Int) : Int := if c then 0 else e
theorem notT {A : Prim} {P : Program} {R : List (Nat × AObj) → List D → Prop} (hA : A = std P R) {c : Bool} (h : A.not c = true) : c = false := by subst hA; simpa [std] using h
theorem notF {A : Prim} {P : Program} {R : List (Nat × AObj) → List D → Prop} (hA : A = std P R) {c : Bool} (h : A.not c = false) : c = true := by subst hA; simpa [std] using h
theorem checkSame (k sz sm mi mo si so : Int) (p : List (List UInt8)) : checkM ⟨k, p, sz, sm, mi, mo, si, so⟩ = if k = 1 then inM p.length 1 8 && (!(p.any badM) && (inM sz 0 8192 && sameM ⟨1, p, sz, sm, mi, mo, si, so⟩ ⟨1, p, sz, sm, 0, 0, 0, 0⟩)) else if k = 2 then inM mi 1 24576 && (inM mo 1 24576 && sameM ⟨2, p, sz, sm, mi, mo, si, so⟩ ⟨2, [], 0, 0, mi, mo, si, so⟩) else if k = 3 then sameM ⟨3, p, sz, sm, mi, mo, si, so⟩ ⟨3, [], 0, 0, 0, 0, 0, 0⟩ else false := by
  unfold checkM
  split
  · simp [sameM, pathOk, markZ, Bool.and_assoc]
  · split
    · simp only [sameM, beq_self_eq_true, Bool.true_and, Bool.and_true]
      cases p == [] <;> cases sz == 0 <;> cases sm == 0 <;> simp
    · split
      · simp [sameM, markZ]
      · rfl
theorem cCheck (a : RecM) (l : List V) (ha : l = strsV a.path) (hal : a.path.length ≤ 140737488355328) : CallR Try.prog 7 [.agg [.int .u8 a.k, .slice l, .int .i64 a.sz, .int .u32 a.sm, .int .i64 a.mi, .int .i64 a.mo, .int .u32 a.si, .int .u32 a.so]] fun rs => ∃ e : Int, rs = [.v (.int .i64 e)] ∧ e = errM (checkM a) 2 := by
  obtain ⟨e, he⟩ : ∃ e, e = errM (checkM a) 2 := ⟨_, rfl⟩
  refine .of _ ⟨e, rfl, he⟩ ?_
  obtain ⟨k, p, sz, sm, mi, mo, si, so⟩ := a
  dsimp only at *
  rw [checkSame] at he
  have hlen := lenS' ha
  refine FnR.of' T_ok M_ok (fn := Try.f7) (by kernel_rfl) rfl rfl rfl rfl (Nat.le_of_ble_eq_true rfl) fun A hA => ?_
  cbv
  refine condI hA (fun h1 => ?_) (fun h1 => ?_)
  · replace h1 := eqT hA h1
    subst h1
    rw [if_pos rfl] at he
    cbv
    refine callI hA (cIn (A.lenL l) 1 8) ?_
    intro rs_ h_
    obtain ⟨c1, q_1, hc1⟩ := h_
    subst q_1
    cbv
    have hc1 : c1 = inM p.length 1 8 := by rw [hc1, hA]; simp only [std]; rw [hlen]
    refine condI hA (fun h2 => ?_) (fun h2 => ?_)
    · replace h2 := notT hA h2
      cbv
      refine retI hA ?_
      simp only [retOk, rsOk, retIds, idsD, idsDs, softOb, toV, Option.some.injEq, V.int.injEq, true_and, and_true]
      rw [he]; simp [errM, ← hc1, h2]
    · replace h2 := notF hA h2
      cbv
      refine callI hA (cContS p l ha hal) ?_
      intro rs_ h_
      obtain ⟨c2, q_1, hc2⟩ := h_
      subst q_1
      cbv
      refine condI hA (fun h3 => ?_) (fun h3 => ?_)
      · cbv
        refine retI hA ?_
        simp only [retOk, rsOk, retIds, idsD, idsDs, softOb, toV, Option.some.injEq, V.int.injEq, true_and, and_true]
        rw [he]; simp [errM, ← hc2, h3]
      · cbv
        refine callI hA (cIn sz 0 8192) ?_
        intro rs_ h_
        obtain ⟨c3, q_1, hc3⟩ := h_
        subst q_1
        cbv
        refine condI hA (fun h4 => ?_) (fun h4 => ?_)
        · replace h4 := notT hA h4
          cbv
          refine retI hA ?_
          simp only [retOk, rsOk, retIds, idsD, idsDs, softOb, toV, Option.some.injEq, V.int.injEq, true_and, and_true]
          rw [he]; simp [errM, ← hc3, h4]
        · replace h4 := notF hA h4
          cbv
          refine chkI hA (by kernel_rfl) ?_
          cbv
          refine callI hA (cSameR ⟨1, p, sz, sm, mi, mo, si, so⟩ ⟨1, p, sz, sm, 0, 0, 0, 0⟩ l l ha ha hal) ?_
          intro rs_ h_
          obtain ⟨c4, q_1, hc4⟩ := h_
          subst q_1
          cbv
          refine condI hA (fun h5 => ?_) (fun h5 => ?_)
          · replace h5 := notT hA h5
            cbv
            refine retI hA ?_
            simp only [retOk, rsOk, retIds, idsD, idsDs, softOb, toV, Option.some.injEq, V.int.injEq, true_and, and_true]
            rw [he]; simp [errM, ← hc4, h5]
          · replace h5 := notF hA h5
            cbv
            refine retI hA ?_
            simp only [retOk, rsOk, retIds, idsD, idsDs, softOb, toV, Option.some.injEq, V.int.injEq, true_and, and_true]
            rw [he]; simp [errM, ← hc1, ← hc2, ← hc3, ← hc4, h2, h3, h4, h5]
  · replace h1 := eqF hA h1
    rw [if_neg h1] at he
    cbv
    refine condI hA (fun g1 => ?_) (fun g1 => ?_)
    · replace g1 := eqT hA g1
      subst g1
      rw [if_pos rfl] at he
      cbv
      refine callI hA (cIn mi 1 24576) ?_
      intro rs_ h_
      obtain ⟨c1, q_1, hc1⟩ := h_
      subst q_1
      cbv
      refine condI hA (fun h2 => ?_) (fun h2 => ?_)
      · replace h2 := notT hA h2
        cbv
        refine retI hA ?_
        simp only [retOk, rsOk, retIds, idsD, idsDs, softOb, toV, Option.some.injEq, V.int.injEq, true_and, and_true]
        rw [he]; simp [errM, ← hc1, h2]
      · replace h2 := notF hA h2
        cbv
        refine callI hA (cIn mo 1 24576) ?_
        intro rs_ h_
        obtain ⟨c2, q_1, hc2⟩ := h_
        subst q_1
        cbv
        refine condI hA (fun h3 => ?_) (fun h3 => ?_)
        · replace h3 := notT hA h3
          cbv
          refine retI hA ?_
          simp only [retOk, rsOk, retIds, idsD, idsDs, softOb, toV, Option.some.injEq, V.int.injEq, true_and, and_true]
          rw [he]; simp [errM, ← hc2, h3]
        · replace h3 := notF hA h3
          cbv
          refine callI hA (cSameR ⟨2, p, sz, sm, mi, mo, si, so⟩ ⟨2, [], 0, 0, mi, mo, si, so⟩ l [] ha rfl hal) ?_
          intro rs_ h_
          obtain ⟨c4, q_1, hc4⟩ := h_
          subst q_1
          cbv
          refine condI hA (fun h5 => ?_) (fun h5 => ?_)
          · replace h5 := notT hA h5
            cbv
            refine retI hA ?_
            simp only [retOk, rsOk, retIds, idsD, idsDs, softOb, toV, Option.some.injEq, V.int.injEq, true_and, and_true]
            rw [he]; simp [errM, ← hc4, h5]
          · replace h5 := notF hA h5
            cbv
            refine retI hA ?_
            simp only [retOk, rsOk, retIds, idsD, idsDs, softOb, toV, Option.some.injEq, V.int.injEq, true_and, and_true]
            rw [he]; simp [errM, ← hc1, ← hc2, ← hc4, h2, h3, h5]
    · replace g1 := eqF hA g1
      rw [if_neg g1] at he
      cbv
      refine condI hA (fun f1 => ?_) (fun f1 => ?_)
      · replace f1 := eqT hA f1
        subst f1
        rw [if_pos rfl] at he
        cbv
        refine callI hA (cSameR ⟨3, p, sz, sm, mi, mo, si, so⟩ ⟨3, [], 0, 0, 0, 0, 0, 0⟩ l [] ha rfl hal) ?_
        intro rs_ h_
        obtain ⟨c4, q_1, hc4⟩ := h_
        subst q_1
        cbv
        refine condI hA (fun h5 => ?_) (fun h5 => ?_)
        · replace h5 := notT hA h5
          cbv
          refine retI hA ?_
          simp only [retOk, rsOk, retIds, idsD, idsDs, softOb, toV, Option.some.injEq, V.int.injEq, true_and, and_true]
          rw [he]; simp [errM, ← hc4, h5]
        · replace h5 := notF hA h5
          cbv
          refine retI hA ?_
          simp only [retOk, rsOk, retIds, idsD, idsDs, softOb, toV, Option.some.injEq, V.int.injEq, true_and, and_true]
          rw [he]; simp [errM, ← hc4, h5]
      · replace f1 := eqF hA f1
        rw [if_neg f1] at he
        cbv
        refine retI hA ?_
        simp only [retOk, rsOk, retIds, idsD, idsDs, softOb, toV, Option.some.injEq, V.int.injEq, true_and, and_true]
        rw [he]; simp [errM, f1]
end Go.Proofs.Ythioccbgjkbmdaa.AM

/-
  Contracts: pack, part 3: fields packed.
-/
set_option linter.unusedVariables false
set_option linter.unusedSimpArgs false
namespace Go.Proofs.Ythioccbgjkbmdaa.AM
open Go Go.RowKit
set_option maxRecDepth 100000
set_option maxHeartbeats 4000000

/-- A row of the call's own under another number. -/
def Env.ren (E : Env) (i j : Nat) : Env :=
  { blk := fun k => if k = j then E.blk i else E.blk k, ha := fun k => if k = j then E.ha i else E.ha k, hl := fun k => if k = j then E.hl i else E.hl k, hc := fun k => if k = j then E.hc i else E.hc k }
theorem weak_ren (S : St) (t i j z : Nat) (l : List V) (ex : Bool) (ht : S.get t = .own i) (ho : look S.ob i = some (.row z l ex)) : Weak S ((({ S with ob := remOb i S.ob } : St).new j (.row z l ex)).put (some t) (.own j)) := fun G E ok a w c => by
  have c1 := c.rem i
  have h1 := c.slot t
  rw [ht] at h1
  have h0 := c.obj _ _ ho
  have c2 := c1.add (E' := E.ren i j) j (.row z l ex) (fun k hk => by simp [Env.ren, Env.hdr, hk]) (by
      simp only [unOb, ObjRep] at *
      simpa [RowRep, Env.ren, Env.hdr] using h0) (fun b hb => by
      have hb : E.blk i = some b := by simpa [Env.ren] using hb
      refine ⟨fun k p hk hp hq => ?_, c.regL ho (by simp [AObj.isHeap]) hb⟩
      rw [look_remOb] at hp
      split at hp
      · cases hp
      · rename_i hki
        exact c.apart k i _ _ b hp ho hki hq hb)
  refine ⟨_, ok, c2.refine (t := t) ?_⟩
  have inv : ∀ u, RepD E ok w (.own i) u → u = E.hdr i := fun u h => by cases h; rfl
  rw [inv _ h1]
  have h2 := RepD.own (E := E.ren i j) (ok := ok) (w := w) j
  have e : (E.ren i j).hdr j = E.hdr i := by simp [Env.ren, Env.hdr]
  rw [e] at h2
  exact h2
def bigM (f : List UInt8) : Bool := decide ((1024 : Int) < f.length)
def packL (fs : List (List UInt8)) : List UInt8 := fs.flatMap fun f => UInt8.ofNat (f.length / 256 % 256) :: UInt8.ofNat (f.length % 256) :: f
def packB (fs : List (List UInt8)) : List UInt8 := if fs.any bigM then [] else packL fs
def packE (fs : List (List UInt8)) : Int := if fs.any bigM then 5 else 0
theorem packL_take {fs : List (List UInt8)} {j : Nat} (h : j < fs.length) : packL (fs.take (j + 1)) = packL (fs.take j) ++ (UInt8.ofNat (fs[j].length / 256 % 256) :: UInt8.ofNat (fs[j].length % 256) :: fs[j]) := by
  unfold packL
  rw [List.take_succ_eq_append_getElem h, List.flatMap_append]; simp
theorem packL_len {fs : List (List UInt8)} (h : ∀ f ∈ fs, bigM f = false) : (packL fs).length ≤ fs.length * 1026 := by
  induction fs with
  | nil => simp [packL]
  | cons f r ih =>
    have h1 := ih fun g hg => h g (List.mem_cons_of_mem _ hg)
    have h2 := h f (by simp)
    unfold bigM at h2
    have h3 := of_decide_eq_false h2
    unfold packL at *
    rw [List.flatMap_cons, List.length_append]
    simp only [List.length_cons]
    omega
theorem cBig (f : List UInt8) (l : List V) (hl : l = bytesV f) : CallR Try.prog 87 [.slice l] fun rs => ∃ c, rs = [.v (.bool c)] ∧ c = bigM f := by
  obtain ⟨c, hcv⟩ : ∃ c, c = bigM f := ⟨_, rfl⟩
  refine .of _ ⟨c, rfl, hcv⟩ ?_
  refine FnR.of' T_ok M_ok (fn := Try.f87) (by kernel_rfl) rfl rfl rfl rfl (Nat.le_of_ble_eq_true rfl) fun A hA => ?_
  cbv
  refine retI hA ?_
  simp only [retOk, rsOk, retIds, idsD, idsDs, softOb, toV, Option.some.injEq, V.bool.injEq, and_true]
  rw [hcv, hA, hl]; simp only [std, bigM, bytesV_len]
theorem cIdxB (ss : List (List UInt8)) (l : List V) (hl : l = listsV ss) (hs : ss.length ≤ 140737488355328) : CallR Try.prog 94 [.slice l, .clo 87 []] fun rs => ∃ r : Int, rs = [.v (.int .i64 r)] ∧ r = idxM bigM ss := by
  obtain ⟨r, hr⟩ : ∃ r, r = idxM bigM ss := ⟨_, rfl⟩
  refine .of _ ⟨r, rfl, hr⟩ ?_
  refine FnR.of' T_ok M_ok (fn := Try.f94) (by kernel_rfl) rfl rfl rfl rfl (Nat.le_of_ble_eq_true rfl) fun A hA => ?_
  cbv
  refine loopF hA (ι := Int) (fun i => { n := 19, sl := [(0, .v (.slice l)), (1, .v (.clo 87 [])), (7, .v (.int .i64 (A.lenL l))), (8, .v (.int .i64 i))], ob := [] })
    (fun i => ∃ j : Nat, i = j ∧ j ≤ ss.length ∧ ∀ m (hm : m < ss.length), m < j → bigM ss[m] = false) (fun i => ss.length - i.toNat) 0 (weakI rfl ⟨rfl, rfl, rfl, rfl, trivial⟩ trivial) ⟨0, rfl, Nat.zero_le _, fun _ _ h => by omega⟩ ?_
  rintro i ⟨j, hi, hj, hb⟩
  cbv
  refine condI hA (fun hc => ?_) (fun hc => ?_)
  · have hjl := ltL hA (natEq hi) (lenLs hl) hc
    cbv
    refine getLN hA hl (natEq hi) hjl ?_
    rintro x hx
    cbv
    refine callI hA (cBig _ x hx) ?_
    intro rs_ h_
    obtain ⟨c, q_1, hcv⟩ := h_
    subst q_1
    cbv
    refine condI hA (fun h2 => ?_) (fun h2 => ?_)
    · cbv
      refine retI hA ?_
      simp only [retOk, rsOk, retIds, idsD, idsDs, softOb, toV, Option.some.injEq, V.int.injEq, true_and, and_true]
      rw [hr, natEq hi]
      exact (idxM_some hjl (hcv.symm.trans h2) hb).symm
    · refine ⟨_, weakI rfl ⟨rfl, rfl, rfl, rfl, trivial⟩ trivial, ⟨j + 1, upI hA (natEq hi) (by omega), hjl, fun m hm hmj => ?_⟩, upM hA (natEq hi) hjl hs⟩
      by_cases e : m = j
      · subst e; exact hcv.symm.trans h2
      · exact hb m hm (by omega)
  · have hjl := geL hA (natEq hi) (lenLs hl) hc hj
    cbv
    refine retI hA ?_
    simp only [retOk, rsOk, retIds, idsD, idsDs, softOb, toV, Option.some.injEq, V.int.injEq, true_and, and_true]
    rw [hr]
    exact (idxM_none fun m hm => hb m hm (by omega)).symm
theorem cContB (ss : List (List UInt8)) (l : List V) (hl : l = listsV ss) (hs : ss.length ≤ 140737488355328) : CallR Try.prog 86 [.slice l, .clo 87 []] fun rs => ∃ c, rs = [.v (.bool c)] ∧ c = ss.any bigM := by
  obtain ⟨c, hcv⟩ : ∃ c, c = ss.any bigM := ⟨_, rfl⟩
  refine .of _ ⟨c, rfl, hcv⟩ ?_
  refine FnR.of' T_ok M_ok (fn := Try.f86) (by kernel_rfl) rfl rfl rfl rfl (Nat.le_of_ble_eq_true rfl) fun A hA => ?_
  cbv
  refine callI hA (cIdxB ss l hl hs) ?_
  intro rs_ h_
  obtain ⟨r, q_1, hr⟩ := h_
  subst q_1
  cbv
  refine retI hA ?_
  simp only [retOk, rsOk, retIds, idsD, idsDs, softOb, toV, Option.some.injEq, V.bool.injEq, and_true]
  rw [hcv, hA, hr]; exact idxM_any bigM ss
theorem any_take {α : Type} {p : α → Bool} {l : List α} (h : l.any p = false) : ∀ x ∈ l, p x = false := fun x hx => by
  rw [List.any_eq_false] at h; simpa using h x hx
theorem shr_u16_8 (a : Nat) : Int.fdiv (a : Int) (2 ^ (min (Int.toNat 8) IntKind.u16.bits)) = ((a / 256 : Nat) : Int) := by
  have : (2 : Int) ^ (min (Int.toNat 8) IntKind.u16.bits) = ((256 : Nat) : Int) := by decide
  rw [this, Int.fdiv_eq_ediv_of_nonneg _ (by omega)]
  rfl
theorem wrap_u16 {n : Nat} (h : n < 65536) : IntKind.u16.wrap (n : Int) = (n : Int) := by
  simp only [IntKind.wrap, IntKind.bits, IntKind.signed, Bool.false_and, Bool.false_eq_true, if_false]
  omega
theorem room_of {x y : List V} {a b : List UInt8} (hx : x = bytesV a) (hy : y = bytesV b) (h : a.length + b.length ≤ 140737488355328) : (x.length + y.length) * 1 ≤ 140737488355328 ∧ 0 < 1 := by
  rw [hx, hy, bytesV_len, bytesV_len]; omega
theorem app_of {A : Prim} {P : Program} {R : List (Nat × AObj) → List D → Prop} (hA : A = std P R) {x y : List V} {a b : List UInt8} (hx : x = bytesV a) (hy : y = bytesV b) : A.app x y = bytesV (a ++ b) := by
  rw [hA]; simp only [std]; rw [hx, hy, bytesV_app]
theorem cPack (fs : List (List UInt8)) (l : List V) (hl : l = listsV fs) (hfs : fs.length ≤ 1000000) : CallR Try.prog 69 [.slice l] fun rs => ∃ (r : List V) (e : Int), rs = [.v (.slice r), .v (.int .i64 e)] ∧ r = bytesV (packB fs) ∧ e = packE fs := by
  obtain ⟨r, hr⟩ : ∃ r, r = bytesV (packB fs) := ⟨_, rfl⟩
  obtain ⟨e, he⟩ : ∃ e, e = packE fs := ⟨_, rfl⟩
  refine .of [.v (.slice r), .v (.int .i64 e)] ⟨r, e, rfl, hr, he⟩ ?_
  refine FnR.of' T_ok M_ok (fn := Try.f69) (by kernel_rfl) rfl rfl rfl rfl (Nat.le_of_ble_eq_true rfl) fun A hA => ?_
  cbv
  refine callI hA (cContB fs l hl (by omega)) ?_
  intro rs_ h_
  obtain ⟨c, q_1, hc⟩ := h_
  subst q_1
  cbv
  refine condI hA (fun h1 => ?_) (fun h1 => ?_)
  · have h1 := hc.symm.trans h1
    cbv
    refine retI hA ?_
    simp only [retOk, rsOk, retIds, idsD, idsDs, softOb, toV, Option.some.injEq, V.int.injEq, V.slice.injEq, true_and, and_true]
    rw [hr, he]; simp [packB, packE, h1, bytesV]
  · have h1 := hc.symm.trans h1
    have hb := any_take h1
    cbv
    refine loopF hA (ι := Int × List V) (fun p => { n := 31, sl := [(4, .own 28), (10, .v (.slice l)), (11, .v (.int .i64 (A.lenL l))), (12, .v (.int .i64 p.1))], ob := [(28, .row 1 p.2 true)] })
      (fun p => ∃ j : Nat, p.1 = j ∧ j ≤ fs.length ∧ p.2 = bytesV (packL (fs.take j))) (fun p => fs.length - p.1.toNat) (_, _) ((weak_nils _ 4 28 1 true rfl).trans (weakI rfl ⟨rfl, rfl, rfl, rfl, trivial⟩ ⟨rfl, trivial⟩)) ⟨0, rfl, Nat.zero_le _, rfl⟩ ?_
    rintro ⟨i, x⟩ ⟨j, hi, hj, hx⟩
    dsimp only at hi hx
    cbv
    refine condI hA (fun hc => ?_) (fun hc => ?_)
    · have hjl := ltL hA (natEq hi) (lenLs hl) hc
      have hbj := hb _ (List.getElem_mem hjl)
      have hf1 : fs[j].length ≤ 1024 := by
        unfold bigM at hbj; have := of_decide_eq_false hbj; omega
      have hal : (packL (fs.take j)).length ≤ j * 1026 := by
        have := packL_len (fs := fs.take j) fun f hf => hb f (List.mem_of_mem_take hf)
        rw [List.length_take, Nat.min_eq_left (by omega)] at this; exact this
      cbv
      refine getLN hA hl (natEq hi) hjl ?_
      rintro f hf
      cbv
      refine nnegI hA (by decide) ?_
      cbv
      have hfl : A.lenL f = (fs[j].length : Nat) := by rw [hA]; simp only [std]; rw [hf, bytesV_len]
      have k1 : [V.int .u8 (A.wrap .u8 (A.shr .u16 (A.wrap .u16 (A.lenL f)) 8)), .int .u8 (A.wrap .u8 (A.wrap .u16 (A.lenL f)))] = bytesV [UInt8.ofNat (fs[j].length / 256 % 256), UInt8.ofNat (fs[j].length % 256)] := by
        rw [hfl, hA]
        simp only [std]
        rw [wrap_u16 (by omega), shr_u16_8, wrap_u8, wrap_u8, byteV (n := fs[j].length / 256) rfl, byteV (n := fs[j].length) rfl]
        rfl
      refine roomI hA (room_of hx k1 (by simp; omega)) ?_
      cbv
      have k2 : A.app x [V.int .u8 (A.wrap .u8 (A.shr .u16 (A.wrap .u16 (A.lenL f)) 8)), .int .u8 (A.wrap .u8 (A.wrap .u16 (A.lenL f)))] = bytesV (packL (fs.take j) ++ [UInt8.ofNat (fs[j].length / 256 % 256), UInt8.ofNat (fs[j].length % 256)]) := app_of hA hx k1
      refine sizedI hA (bytesV_flat hf) ?_
      cbv
      refine roomI hA (room_of k2 hf (by simp; omega)) ?_
      cbv
      refine ⟨(_, _), weakI rfl ⟨rfl, rfl, rfl, rfl, trivial⟩ ⟨rfl, trivial⟩, ⟨j + 1, upI hA (natEq hi) (by omega), hjl, ?_⟩, upM hA (natEq hi) hjl (by omega)⟩
      refine (app_of hA k2 hf).trans ?_
      rw [packL_take hjl]; simp
    · have hjl := geL hA (natEq hi) (lenLs hl) hc hj
      cbv
      refine retI hA ?_
      subst hjl
      rw [List.take_length] at hx
      refine ⟨congrArg (fun q => some (V.slice q)) ?_, congrArg (fun q => some (V.int .i64 q)) ?_, trivial⟩
      · rw [hx, hr]; simp [packB, h1]
      · rw [he]; simp [packE, h1]
end Go.Proofs.Ythioccbgjkbmdaa.AM

/-
  Contracts: a record put.
-/
set_option linter.unusedVariables false
set_option linter.unusedSimpArgs false
namespace Go.Proofs.Ythioccbgjkbmdaa.AM
open Go Go.RowKit
set_option maxRecDepth 100000
set_option maxHeartbeats 4000000

theorem mkL_of {A : Prim} {P : Program} {R : List (Nat × AObj) → List D → Prop} (hA : A = std P R) {l : List V} {n b : Nat} (hl : l.length = n) (hn : n ≤ 1000000) (hb : b ≤ 1000) : 0 ≤ A.lenL l ∧ A.lenL l ≤ A.lenL l ∧ A.lenL l ≤ 140737488355328 ∧ A.lenL l * b ≤ 140737488355328 := by
  have e : A.lenL l = (n : Int) := by rw [hA]; simp only [std]; rw [hl]
  rw [e]
  refine ⟨by omega, Int.le_refl _, by omega, ?_⟩
  have : n * b ≤ 1000000 * 1000 := Nat.mul_le_mul hn hb
  have h2 : (n : Int) * (b : Int) = ((n * b : Nat) : Int) := by simp
  rw [h2]; omega
theorem cTexts (ps : List (List UInt8)) (l : List V) (hl : l = strsV ps) (hps : ps.length ≤ 1000000) (hp : ∀ p ∈ ps, p.length ≤ 140737488355328) : CallR Try.prog 66 [.slice l] fun rs => ∃ (r : List V) (e : Int), rs = [.v (.slice r), .v (.int .i64 e)] ∧ r = bytesV (packB ps) ∧ e = packE ps := by
  obtain ⟨r, hr⟩ : ∃ r, r = bytesV (packB ps) := ⟨_, rfl⟩
  obtain ⟨e, he⟩ : ∃ e, e = packE ps := ⟨_, rfl⟩
  refine .of [.v (.slice r), .v (.int .i64 e)] ⟨r, e, rfl, hr, he⟩ ?_
  refine FnR.of' T_ok M_ok (fn := Try.f66) (by kernel_rfl) rfl rfl rfl rfl (Nat.le_of_ble_eq_true rfl) fun A hA => ?_
  cbv
  have hlen := lenS' hl
  refine mkSI hA (mkL_of hA hlen hps (by decide)) ?_
  cbv
  have hrep : A.repl (A.lenL l) (.slice []) = List.replicate ps.length (.slice []) := by rw [hA]; simp only [std]; rw [hlen]; simp
  refine loopF hA (ι := Int × List V) (fun p => { n := 27, sl := [(4, .own 9), (10, .v (.slice l)), (11, .v (.int .i64 (A.lenL l))), (12, .v (.int .i64 p.1))], ob := [(9, .row 1 p.2 true)] })
    (fun p => ∃ j : Nat, p.1 = j ∧ j ≤ ps.length ∧ p.2 = listsV (ps.take j) ++ List.replicate (ps.length - j) (.slice [])) (fun p => ps.length - p.1.toNat) (_, _) (weakI rfl ⟨rfl, rfl, rfl, rfl, trivial⟩ ⟨rfl, trivial⟩) ⟨0, rfl, Nat.zero_le _, by simpa [listsV] using hrep⟩ ?_
  rintro ⟨i, x⟩ ⟨j, hi, hj, hx⟩
  dsimp only at hi hx
  cbv
  refine condI hA (fun hc => ?_) (fun hc => ?_)
  · have hjl := ltL hA (natEq hi) hlen hc
    cbv
    refine getSN hA hl (natEq hi) hjl ?_
    rintro s hs
    cbv
    refine catOkI hA (by rw [hs]; have := hp _ (List.getElem_mem hjl); simp; omega) ?_
    cbv
    have hxl : x.length = ps.length := by rw [hx]; simp [listsV]; omega
    refine inRI hA (by rw [natEq hi, hxl]; omega) ?_
    cbv
    refine inRI hA (by rw [natEq hi, hxl]; omega) ?_
    cbv
    refine ⟨(_, _), weakI rfl ⟨rfl, rfl, rfl, rfl, trivial⟩ ⟨rfl, trivial⟩, ⟨j + 1, upI hA (natEq hi) (by omega), hjl, ?_⟩, upM hA (natEq hi) hjl (by omega)⟩
    change A.setL x i (.slice (A.s2b s)) = _
    rw [hA, natEq hi, hx, hs]
    simp only [std, Int.toNat_natCast]
    have e1 : ps.length - j = ps.length - (j + 1) + 1 := by omega
    have e2 : (listsV (ps.take j)).length = j := by rw [listsV_len, List.length_take]; omega
    rw [List.set_append_right _ _ (by omega), e2, Nat.sub_self, e1, List.replicate_succ, List.set_cons_zero, List.take_succ_eq_append_getElem hjl]
    simp only [listsV, List.map_append, List.map_cons, List.map_nil, List.append_assoc, List.cons_append, List.nil_append]
  · have hjl := geL hA (natEq hi) hlen hc hj
    cbv
    subst hjl
    rw [List.take_length, Nat.sub_self, List.replicate_zero, List.append_nil] at hx
    refine callI hA (cPack ps x hx hps) ?_
    intro rs_ h_
    obtain ⟨r2, e2, q_1, hr2, he2⟩ := h_
    subst q_1
    cbv
    refine retI hA ?_
    exact ⟨congrArg (fun q => some (V.slice q)) (hr2.trans hr.symm), congrArg (fun q => some (V.int .i64 q)) (he2.trans he.symm), trivial⟩
def numsV (ns : List Nat) : List V := ns.map fun (n : Nat) => V.int .u64 (n : Int)
/-- A record's parts are those of its type. -/
structure RecOk (a : RecM) : Prop where
  k0 : 0 ≤ a.k
  k1 : a.k ≤ 255
  sm0 : 0 ≤ a.sm
  sm1 : a.sm ≤ 4294967295
  si0 : 0 ≤ a.si
  si1 : a.si ≤ 4294967295
  so0 : 0 ≤ a.so
  so1 : a.so ≤ 4294967295
  pl : a.path.length ≤ 140737488355328
  ps : ∀ p ∈ a.path, p.length ≤ 140737488355328
def numsOf (a : RecM) : List Nat := [a.sz.toNat, a.sm.toNat, a.mi.toNat, a.mo.toNat, a.si.toNat, a.so.toNat]
theorem path_rng {p : List (List UInt8)} (h : pathOk p = true) : p.length ≤ 8 ∧ ∀ q ∈ p, q.length ≤ 48 := by
  unfold pathOk at h
  simp only [Bool.and_eq_true, Bool.not_eq_true', inM, decide_eq_true_eq] at h
  refine ⟨by omega, fun q hq => ?_⟩
  have := any_take h.2 q hq
  simp only [badM, inM, Bool.not_eq_false', Bool.and_eq_true, decide_eq_true_eq] at this
  omega
theorem check_rng {a : RecM} (h : checkM a = true) : (0 ≤ a.sz ∧ a.sz ≤ 24576) ∧ (0 ≤ a.mi ∧ a.mi ≤ 24576) ∧ (0 ≤ a.mo ∧ a.mo ≤ 24576) ∧ (1 ≤ a.k ∧ a.k ≤ 3) ∧ a.path.length ≤ 8 ∧ ∀ q ∈ a.path, q.length ≤ 48 := by
  unfold checkM at h
  split at h
  · rename_i hk
    simp only [Bool.and_eq_true, markZ, inM, beq_iff_eq, decide_eq_true_eq] at h
    obtain ⟨h1, ⟨h2, h3⟩, h4, h5, h6, h7⟩ := h
    exact ⟨⟨by omega, by omega⟩, ⟨by omega, by omega⟩, ⟨by omega, by omega⟩, ⟨by omega, by omega⟩, path_rng h1⟩
  · split at h
    · rename_i hk
      simp only [Bool.and_eq_true, inM, beq_iff_eq, decide_eq_true_eq] at h
      obtain ⟨h1, h2, h3, ⟨h4, h5⟩, h6, h7⟩ := h
      exact ⟨⟨by omega, by omega⟩, ⟨by omega, by omega⟩, ⟨by omega, by omega⟩, ⟨by omega, by omega⟩, by simp [h1], by simp [h1]⟩
    · split at h
      · rename_i hk
        simp only [Bool.and_eq_true, markZ, beq_iff_eq] at h
        obtain ⟨h1, h2, h3, h4, h5, h6, h7⟩ := h
        exact ⟨⟨by omega, by omega⟩, ⟨by omega, by omega⟩, ⟨by omega, by omega⟩, ⟨by omega, by omega⟩, by simp [h1], by simp [h1]⟩
      · cases h
theorem wrap_u64 {n : Int} (h0 : 0 ≤ n) (h1 : n ≤ 18446744073709551615) : IntKind.u64.wrap n = ((n.toNat : Nat) : Int) := by
  simp only [IntKind.wrap, IntKind.bits, IntKind.signed, Bool.false_and, Bool.false_eq_true, if_false]
  omega
theorem cNumbers (a : RecM) (l : List V) (hr : RecOk a) (h1 : 0 ≤ a.sz ∧ a.sz ≤ 24576) (h2 : 0 ≤ a.mi ∧ a.mi ≤ 24576) (h3 : 0 ≤ a.mo ∧ a.mo ≤ 24576) : CallR Try.prog 68 [.agg [.int .u8 a.k, .slice l, .int .i64 a.sz, .int .u32 a.sm, .int .i64 a.mi, .int .i64 a.mo, .int .u32 a.si, .int .u32 a.so]] fun rs => ∃ r : List V, rs = [.v (.slice r)] ∧ r = numsV (numsOf a) := by
  obtain ⟨r, hrr⟩ : ∃ r, r = numsV (numsOf a) := ⟨_, rfl⟩
  refine .of [.v (.slice r)] ⟨r, rfl, hrr⟩ ?_
  obtain ⟨k, p, sz, sm, mi, mo, si, so⟩ := a
  obtain ⟨k0, k1, sm0, sm1, si0, si1, so0, so1, pl, ps⟩ := hr
  dsimp only at *
  refine FnR.of' T_ok M_ok (fn := Try.f68) (by kernel_rfl) rfl rfl rfl rfl (Nat.le_of_ble_eq_true rfl) fun A hA => ?_
  cbv
  refine retI hA ?_
  refine ⟨congrArg (fun q => some (V.slice q)) ?_, trivial⟩
  rw [hrr, hA]
  simp only [std]
  rw [wrap_u64 h1.1 (by omega), wrap_u64 sm0 (by omega), wrap_u64 h2.1 (by omega), wrap_u64 h3.1 (by omega), wrap_u64 si0 (by omega), wrap_u64 so0 (by omega)]
  rfl
end Go.Proofs.Ythioccbgjkbmdaa.AM

/-
  Contracts: a record put, part 2.
-/
set_option linter.unusedVariables false
set_option linter.unusedSimpArgs false
namespace Go.Proofs.Ythioccbgjkbmdaa.AM
open Go Go.RowKit
set_option maxRecDepth 100000
set_option maxHeartbeats 4000000

def fieldsM (a : RecM) : List (List UInt8) := numB a.k.toNat :: packL a.path :: (numsOf a).map numB
def putB (a : RecM) : List UInt8 := if checkM a then packL (fieldsM a) else []
def putE (a : RecM) : Int := if checkM a then 0 else 2
theorem big_of {f : List UInt8} (h : f.length ≤ 1024) : bigM f = false := by unfold bigM; exact decide_eq_false (by omega)
theorem any_of {α : Type} {p : α → Bool} {l : List α} (h : ∀ x ∈ l, p x = false) : l.any p = false := by
  rw [List.any_eq_false]; exact fun x hx => by simp [h x hx]
theorem path_small {p : List (List UInt8)} (h : p.length ≤ 8 ∧ ∀ q ∈ p, q.length ≤ 48) : (packL p).length ≤ 400 := by
  have : ∀ p : List (List UInt8), (∀ q ∈ p, q.length ≤ 48) → (packL p).length ≤ p.length * 50 := by
    intro p
    induction p with
    | nil => intro _; simp [packL]
    | cons f r ih =>
      intro h
      have h1 := ih fun g hg => h g (List.mem_cons_of_mem _ hg)
      have h2 := h f (by simp)
      unfold packL at *
      rw [List.flatMap_cons, List.length_append]
      simp only [List.length_cons]
      omega
  have := this p h.2
  omega
theorem nums_lt {a : RecM} (hr : RecOk a) (h1 : 0 ≤ a.sz ∧ a.sz ≤ 24576) (h2 : 0 ≤ a.mi ∧ a.mi ≤ 24576) (h3 : 0 ≤ a.mo ∧ a.mo ≤ 24576) : ∀ n ∈ numsOf a, n < 18446744073709551616 := by
  obtain ⟨k0, k1, sm0, sm1, si0, si1, so0, so1, pl, ps⟩ := hr
  intro n hn
  simp only [numsOf, List.mem_cons, List.not_mem_nil, or_false] at hn
  rcases hn with rfl | rfl | rfl | rfl | rfl | rfl <;> omega
theorem fields_small {a : RecM} (hr : RecOk a) (h : checkM a = true) : ∀ f ∈ fieldsM a, bigM f = false := by
  obtain ⟨h1, h2, h3, h4, h5⟩ := check_rng h
  intro f hf
  simp only [fieldsM, List.mem_cons, List.mem_map] at hf
  rcases hf with rfl | rfl | ⟨n, hn, rfl⟩
  · exact big_of (Nat.le_trans (numB_len (by have := hr.k1; omega)) (by decide))
  · exact big_of (Nat.le_trans (path_small h5) (by decide))
  · exact big_of (Nat.le_trans (numB_len (nums_lt hr h1 h2 h3 n hn)) (by decide))
theorem pack_fields {a : RecM} (hr : RecOk a) (h : checkM a = true) : packB (fieldsM a) = putB a ∧ packE (fieldsM a) = putE a := by
  have := any_of (fields_small hr h)
  simp [packB, packE, putB, putE, this, h]
theorem pack_path {a : RecM} (h : checkM a = true) : packB a.path = packL a.path ∧ packE a.path = 0 := by
  obtain ⟨_, _, _, _, _, h5⟩ := check_rng h
  have : a.path.any bigM = false := any_of fun q hq => big_of (Nat.le_trans (h5 q hq) (by decide))
  simp [packB, packE, this]
theorem numsV_at {b : List Nat} {l : List V} (hl : l = numsV b) {j : Nat} {i : Int} (hi : i = j) (hj : j < b.length) : 0 ≤ i ∧ l[i.toNat]? = some (.int .u64 ((b[j]'hj : Nat) : Int)) := by
  subst hl hi
  simp [numsV, hj]
theorem ine_err {A : Prim} {P : Program} {R : List (Nat × AObj) → List D → Prop} (hA : A = std P R) {e : Int} (h : A.ine e 0 = true) : e ≠ 0 := by subst hA; simpa [std] using h
theorem ine_ok {A : Prim} {P : Program} {R : List (Nat × AObj) → List D → Prop} (hA : A = std P R) {e : Int} (h : A.ine e 0 = false) : e = 0 := by subst hA; simpa [std] using h
theorem ine_no {A : Prim} {P : Program} {R : List (Nat × AObj) → List D → Prop} (hA : A = std P R) {e : Int} (h : e = 0) : A.ine e 0 = false := by subst hA; subst h; rfl
theorem wrapK {A : Prim} {P : Program} {R : List (Nat × AObj) → List D → Prop} (hA : A = std P R) {n : Int} (h0 : 0 ≤ n) (h1 : n ≤ 18446744073709551615) : A.wrap .u64 n = ((n.toNat : Nat) : Int) := by subst hA; exact wrap_u64 h0 h1
theorem app_ls {A : Prim} {P : Program} {R : List (Nat × AObj) → List D → Prop} (hA : A = std P R) {x y : List V} {a b : List (List UInt8)} (hx : x = listsV a) (hy : y = listsV b) : A.app x y = listsV (a ++ b) := by
  rw [hA]; simp only [std]; rw [hx, hy]; simp [listsV]
theorem cPut (a : RecM) (l : List V) (ha : l = strsV a.path) (hr : RecOk a) : CallR Try.prog 36 [.agg [.int .u8 a.k, .slice l, .int .i64 a.sz, .int .u32 a.sm, .int .i64 a.mi, .int .i64 a.mo, .int .u32 a.si, .int .u32 a.so]] fun rs => ∃ (r : List V) (e : Int), rs = [.v (.slice r), .v (.int .i64 e)] ∧ r = bytesV (putB a) ∧ e = putE a := by
  obtain ⟨r, hrr⟩ : ∃ r, r = bytesV (putB a) := ⟨_, rfl⟩
  obtain ⟨e, he⟩ : ∃ e, e = putE a := ⟨_, rfl⟩
  refine .of [.v (.slice r), .v (.int .i64 e)] ⟨r, e, rfl, hrr, he⟩ ?_
  obtain ⟨a0, hae⟩ : ∃ a0, a0 = a := ⟨_, rfl⟩
  obtain ⟨k, p, sz, sm, mi, mo, si, so⟩ := a
  dsimp only at ha
  refine FnR.of' T_ok M_ok (fn := Try.f36) (by kernel_rfl) rfl rfl rfl rfl (Nat.le_of_ble_eq_true rfl) fun A hA => ?_
  cbv
  refine callI hA (cCheck ⟨k, p, sz, sm, mi, mo, si, so⟩ l ha hr.pl) ?_
  intro rs_ h_
  obtain ⟨e1, q_1, he1⟩ := h_
  subst q_1
  cbv
  rw [← hae] at he1 hr hrr he
  refine condI hA (fun h1 => ?_) (fun h1 => ?_)
  · have h1 := ine_err hA h1
    have hck : checkM a0 = false := by
      cases hq : checkM a0 with
      | false => rfl
      | true => rw [hq] at he1; exact absurd he1 h1
    cbv
    refine retI hA ?_
    refine ⟨congrArg (fun q => some (V.slice q)) ?_, congrArg (fun q => some (V.int .i64 q)) ?_, trivial⟩
    · rw [hrr]; simp [putB, hck, bytesV]
    · rw [he, he1]; simp [putE, errM, hck]
  · have h1 := ine_ok hA h1
    have hck : checkM a0 = true := by
      cases hq : checkM a0 with
      | true => rfl
      | false => rw [hq, h1] at he1; cases he1
    obtain ⟨g1, g2, g3, g4, g5⟩ := check_rng hck
    have hpp := pack_path hck
    have hap : a0.path = p := by rw [hae]
    cbv
    refine callI hA (cTexts p l ha (by rw [← hap]; omega) (by rw [← hap]; exact hr.ps)) ?_
    intro rs_ h_
    obtain ⟨t, e2, q_1, ht, he2⟩ := h_
    subst q_1
    cbv
    rw [← hap] at ht he2
    rw [hpp.1] at ht
    rw [hpp.2] at he2
    refine condF hA (ine_no hA he2) ?_
    cbv
    have hak : a0.k = k := by rw [hae]
    refine callI hA (cNum (A.wrap .u64 k) k.toNat (wrapK hA (by rw [← hak]; exact hr.k0) (by rw [← hak]; have := hr.k1; omega)) (by rw [← hak]; have := hr.k1; omega)) ?_
    intro rs_ h_
    obtain ⟨kb, q_1, hkb⟩ := h_
    subst q_1
    cbv
    refine callI hA (cNumbers ⟨k, p, sz, sm, mi, mo, si, so⟩ l (hae ▸ hr) (by rw [← hae]; exact g1) (by rw [← hae]; exact g2) (by rw [← hae]; exact g3)) ?_
    intro rs_ h_
    obtain ⟨ns, q_1, hns⟩ := h_
    subst q_1
    cbv
    rw [← hae] at hns
    have hnl : ns.length = (numsOf a0).length := by rw [hns]; simp [numsV]
    have hx0 : [V.slice kb, V.slice t] = listsV [numB a0.k.toNat, packL a0.path] := by rw [hkb, ht, hak]; rfl
    refine loopF hA (ι := Int × List V) (fun p => { n := 47, sl := [(7, .own 41), (31, .v (.slice ns)), (32, .v (.int .i64 (A.lenL ns))), (33, .v (.int .i64 p.1))], ob := [(41, .row 1 p.2 true)] })
      (fun p => ∃ j : Nat, p.1 = j ∧ j ≤ (numsOf a0).length ∧ p.2 = listsV ([numB a0.k.toNat, packL a0.path] ++ ((numsOf a0).take j).map numB)) (fun p => (numsOf a0).length - p.1.toNat) (_, _) ((weak_ren _ 7 29 41 1 _ true rfl rfl).trans (weakI rfl ⟨rfl, rfl, rfl, rfl, trivial⟩ ⟨rfl, trivial⟩)) ⟨0, rfl, Nat.zero_le _, by simpa using hx0⟩ ?_
    rintro ⟨i, x⟩ ⟨j, hi, hj, hx⟩
    dsimp only at hi hx
    cbv
    refine condI hA (fun hc => ?_) (fun hc => ?_)
    · have hjl := ltL hA (natEq hi) hnl hc
      cbv
      refine getIN hA (numsV_at hns (natEq hi) hjl) ?_
      rintro v hv
      cbv
      refine callI hA (cNum v _ hv (nums_lt hr g1 g2 g3 _ (List.getElem_mem hjl))) ?_
      intro rs_ h_
      obtain ⟨b, q_1, hb⟩ := h_
      subst q_1
      cbv
      have hb1 : [V.slice b] = listsV [numB ((numsOf a0)[j]'hjl)] := by rw [hb]; rfl
      refine roomI hA (by rw [hx, listsV_len]; have : (numsOf a0).length = 6 := rfl; simp; omega) ?_
      cbv
      refine ⟨(_, _), weakI rfl ⟨rfl, rfl, rfl, rfl, trivial⟩ ⟨rfl, trivial⟩, ⟨j + 1, upI hA (natEq hi) (by have : (numsOf a0).length = 6 := rfl; omega), hjl, ?_⟩, upM hA (natEq hi) hjl (by have : (numsOf a0).length = 6 := rfl; omega)⟩
      refine (app_ls hA hx hb1).trans ?_
      rw [List.take_succ_eq_append_getElem hjl, List.map_append, List.append_assoc]; rfl
    · have hjl := geL hA (natEq hi) hnl hc hj
      cbv
      subst hjl
      rw [List.take_length] at hx
      refine callI hA (cPack (fieldsM a0) x hx (by simp [fieldsM, numsOf])) ?_
      intro rs_ h_
      obtain ⟨r2, e3, q_1, hr2, he3⟩ := h_
      subst q_1
      cbv
      have hpf := pack_fields hr hck
      rw [hpf.1] at hr2
      rw [hpf.2] at he3
      refine retI hA ?_
      exact ⟨congrArg (fun q => some (V.slice q)) (hr2.trans hrr.symm), congrArg (fun q => some (V.int .i64 q)) (he3.trans he.symm), trivial⟩
end Go.Proofs.Ythioccbgjkbmdaa.AM

/-
  Contracts: the reference's check.
-/
set_option linter.unusedVariables false
set_option linter.unusedSimpArgs false
namespace Go.Proofs.Ythioccbgjkbmdaa.AM
open Go Go.RowKit
set_option maxRecDepth 100000
set_option maxHeartbeats 4000000

section
variable {A : Prim} {P : Program} {R : List (Nat × AObj) → List D → Prop} (hA : A = std P R)
include hA
theorem leT {a b : Int} (h : A.ile a b = true) : a ≤ b := by subst hA; simpa [std] using h
theorem leF {a b : Int} (h : A.ile a b = false) : ¬ a ≤ b := by subst hA; simpa [std] using h
theorem ltT {a b : Int} (h : A.ilt a b = true) : a < b := by subst hA; simpa [std] using h
theorem ltF {a b : Int} (h : A.ilt a b = false) : ¬ a < b := by subst hA; simpa [std] using h
end
end Go.Proofs.Ythioccbgjkbmdaa.AM

/-
  Contracts: the reference's check, part 2.
-/
set_option linter.unusedVariables false
set_option linter.unusedSimpArgs false
namespace Go.Proofs.Ythioccbgjkbmdaa.AM
open Go Go.RowKit
set_option maxRecDepth 100000
set_option maxHeartbeats 4000000

end Go.Proofs.Ythioccbgjkbmdaa.AM

/-
  Contracts: the reference's pack.
-/
set_option linter.unusedVariables false
set_option linter.unusedSimpArgs false
namespace Go.Proofs.Ythioccbgjkbmdaa.AM
open Go Go.RowKit
set_option maxRecDepth 100000
set_option maxHeartbeats 4000000

theorem numB_pos {n : Nat} (h : 0 < n) : numB n = numB (n / 256) ++ [UInt8.ofNat (n % 256)] := by
  unfold numB; rw [leB_pos h, List.reverse_cons]
theorem numB_zero : numB 0 = [] := by unfold numB; rw [leB_zero]; rfl
theorem wrap_u64n {n : Nat} (h : n < 18446744073709551616) : IntKind.u64.wrap (n : Int) = (n : Int) := by
  rw [wrap_u64 (by omega) (by omega)]; simp
end Go.Proofs.Ythioccbgjkbmdaa.AM

/-
  Contracts: the reference's put.
-/
set_option linter.unusedVariables false
set_option linter.unusedSimpArgs false
namespace Go.Proofs.Ythioccbgjkbmdaa.AM
open Go Go.RowKit
set_option maxRecDepth 100000
set_option maxHeartbeats 4000000

end Go.Proofs.Ythioccbgjkbmdaa.AM

/-
  Contracts: unpacking.
-/
set_option linter.unusedVariables false
set_option linter.unusedSimpArgs false
namespace Go.Proofs.Ythioccbgjkbmdaa.AM
open Go Go.RowKit
set_option maxRecDepth 100000
set_option maxHeartbeats 4000000

theorem bits_or_i64_nat (a b : Nat) (ha : a < 4294967296) (hb : b < 4294967296) : bits .or .i64 (a : Int) (b : Int) = ((a ||| b : Nat) : Int) := by
  have hx : a ||| b < 2 ^ 32 := Nat.or_lt_two_pow (by omega) (by omega)
  have h1 : (BitVec.ofInt 64 (a : Int)).toNat = a := by
    rw [BitVec.ofInt_natCast, BitVec.toNat_ofNat]; exact Nat.mod_eq_of_lt (by omega)
  have h2 : (BitVec.ofInt 64 (b : Int)).toNat = b := by
    rw [BitVec.ofInt_natCast, BitVec.toNat_ofNat]; exact Nat.mod_eq_of_lt (by omega)
  show IntKind.i64.wrap ((BitVec.ofInt 64 (a : Int) ||| BitVec.ofInt 64 (b : Int)).toNat : Int) = _
  rw [BitVec.toNat_or, h1, h2]
  exact wrap_i64 (by omega) (by omega)
theorem or_256 (a b : Nat) (hb : b < 256) : a * 256 ||| b = a * 256 + b := by
  have := Nat.shiftLeft_add_eq_or_of_lt (i := 8) (b := b) (by simpa using hb) a
  rw [Nat.shiftLeft_eq] at this
  exact this.symm
def unpackM : List UInt8 → Option (List (List UInt8))
  | [] => some []
  | [_] => none
  | x :: y :: r => if 1024 < x.toNat * 256 + y.toNat ∨ r.length < x.toNat * 256 + y.toNat then none else match unpackM (r.drop (x.toNat * 256 + y.toNat)) with
    | some fs => some (r.take (x.toNat * 256 + y.toNat) :: fs)
    | none => none
termination_by b => b.length
decreasing_by simp only [List.length_drop, List.length_cons]; omega
def unpackL (b : List UInt8) : List (List UInt8) := match unpackM b with
  | some fs => fs
  | none => []
def unpackE (b : List UInt8) : Int := match unpackM b with
  | some _ => 0
  | none => 4
def upTo (a : List (List UInt8)) : Option (List (List UInt8)) → Option (List (List UInt8))
  | some fs => some (a ++ fs)
  | none => none
theorem cClone (l : List V) (hs : ∀ x ∈ l, x.flat.length = 1) (hl : l.length ≤ 140737488355328) : CallR Try.prog 45 [.slice l] fun rs => rs = [.v (.slice l)] := by
  refine .of _ rfl ?_
  refine FnR.of' T_ok M_ok (fn := Try.f45) (by kernel_rfl) rfl rfl rfl rfl (Nat.le_of_ble_eq_true rfl) fun A hA => ?_
  cbv
  by_cases h : l = []
  · subst h
    refine nilqU hA ?_
    cbv
    constructor
    · refine retI hA ?_
      exact ⟨rfl, trivial⟩
    · refine sizedI hA (by simp) ?_
      cbv
      refine roomI hA (by simp) ?_
      cbv
      refine retI hA ?_
      exact ⟨congrArg (fun q => some (V.slice q)) (by rw [hA]; rfl), trivial⟩
  · refine nilqI hA h ?_
    cbv
    refine sizedI hA hs ?_
    cbv
    refine roomI hA (by simpa using hl) ?_
    cbv
    refine retI hA ?_
    exact ⟨congrArg (fun q => some (V.slice q)) (by rw [hA]; rfl), trivial⟩
theorem unpackM_cons (x y : UInt8) (r : List UInt8) : unpackM (x :: y :: r) = if 1024 < x.toNat * 256 + y.toNat ∨ r.length < x.toNat * 256 + y.toNat then none else match unpackM (r.drop (x.toNat * 256 + y.toNat)) with
    | some fs => some (r.take (x.toNat * 256 + y.toNat) :: fs)
    | none => none := by rw [unpackM]
theorem unpackM_short {b : List UInt8} (h0 : 0 < b.length) (h : b.length < 2) : unpackM b = none := by
  match b, h0, h with
  | [_], _, _ => rw [unpackM]
theorem bGtT {A : Prim} {P : Program} {R : List (Nat × AObj) → List D → Prop} (hA : A = std P R) {f : List V} {b : List UInt8} {n : Int} {m : Nat} (hf : f = bytesV b) (hn : n = m) (h : A.ilt n (A.lenL f) = true) : m < b.length := by
  have := ltT hA h; rw [hA, hn] at this; simp only [std] at this; rw [hf, bytesV_len] at this; omega
theorem bGtF {A : Prim} {P : Program} {R : List (Nat × AObj) → List D → Prop} (hA : A = std P R) {f : List V} {b : List UInt8} {n : Int} {m : Nat} (hf : f = bytesV b) (hn : n = m) (h : A.ilt n (A.lenL f) = false) : ¬ m < b.length := by
  have := ltF hA h; rw [hA, hn] at this; simp only [std] at this; rw [hf, bytesV_len] at this; omega
theorem bLtT {A : Prim} {P : Program} {R : List (Nat × AObj) → List D → Prop} (hA : A = std P R) {f : List V} {b : List UInt8} {n : Int} {m : Nat} (hf : f = bytesV b) (hn : n = m) (h : A.ilt (A.lenL f) n = true) : b.length < m := by
  have := ltT hA h; rw [hA, hn] at this; simp only [std] at this; rw [hf, bytesV_len] at this; omega
theorem bLtF {A : Prim} {P : Program} {R : List (Nat × AObj) → List D → Prop} (hA : A = std P R) {f : List V} {b : List UInt8} {n : Int} {m : Nat} (hf : f = bytesV b) (hn : n = m) (h : A.ilt (A.lenL f) n = false) : ¬ b.length < m := by
  have := ltF hA h; rw [hA, hn] at this; simp only [std] at this; rw [hf, bytesV_len] at this; omega
theorem bLeT {A : Prim} {P : Program} {R : List (Nat × AObj) → List D → Prop} (hA : A = std P R) {f : List V} {b : List UInt8} {n : Int} {m : Nat} (hf : f = bytesV b) (hn : n = m) (h : A.ile n (A.lenL f) = true) : m ≤ b.length := by
  have := leT hA h; rw [hA, hn] at this; simp only [std] at this; rw [hf, bytesV_len] at this; omega
theorem bLeF {A : Prim} {P : Program} {R : List (Nat × AObj) → List D → Prop} (hA : A = std P R) {f : List V} {b : List UInt8} {n : Int} {m : Nat} (hf : f = bytesV b) (hn : n = m) (h : A.ile n (A.lenL f) = false) : ¬ m ≤ b.length := by
  have := leF hA h; rw [hA, hn] at this; simp only [std] at this; rw [hf, bytesV_len] at this; omega
theorem nGtT {A : Prim} {P : Program} {R : List (Nat × AObj) → List D → Prop} (hA : A = std P R) {k n : Int} {c m : Nat} (hk : k = c) (hn : n = m) (h : A.ilt k n = true) : c < m := by
  have := ltT hA h; rw [hk, hn] at this; omega
theorem nGtF {A : Prim} {P : Program} {R : List (Nat × AObj) → List D → Prop} (hA : A = std P R) {k n : Int} {c m : Nat} (hk : k = c) (hn : n = m) (h : A.ilt k n = false) : ¬ c < m := by
  have := ltF hA h; rw [hk, hn] at this; omega
theorem sub_of {lo hi : Int} {a c : Nat} {l : List V} {b : List UInt8} (hlo : lo = a) (hhi : hi = c) (hl : l = bytesV b) (h1 : a ≤ c) (h2 : c ≤ b.length) : 0 ≤ lo ∧ lo ≤ hi ∧ hi ≤ l.length := by
  subst hlo hhi hl; rw [bytesV_len]; omega
theorem lenI {A : Prim} {P : Program} {R : List (Nat × AObj) → List D → Prop} (hA : A = std P R) {f : List V} {b : List UInt8} (hf : f = bytesV b) : A.lenL f = (b.length : Nat) := by
  rw [hA]; simp only [std]; rw [hf, bytesV_len]
theorem shl8 {A : Prim} {P : Program} {R : List (Nat × AObj) → List D → Prop} (hA : A = std P R) {n : Int} {m : Nat} (hn : n = m) (hm : m < 256) : A.shl .i64 (A.wrap .i64 n) 8 = ((m * 256 : Nat) : Int) := by
  rw [hA, hn]; simp only [std]
  have e1 : IntKind.i64.wrap (m : Int) = (m : Int) := wrap_i64 (by omega) (by omega)
  have e2 : (2 : Int) ^ (min (Int.toNat 8) IntKind.i64.bits) = 256 := by decide
  rw [e1, e2, show (m : Int) * 256 = ((m * 256 : Nat) : Int) from by simp]
  exact wrap_i64 (by omega) (by omega)
theorem len16 {A : Prim} {P : Program} {R : List (Nat × AObj) → List D → Prop} (hA : A = std P R) {n m : Int} {x y : Nat} (hn : n = x) (hm : m = y) (hx : x < 256) (hy : y < 256) : A.bits .or .i64 (A.shl .i64 (A.wrap .i64 n) 8) (A.wrap .i64 m) = ((x * 256 + y : Nat) : Int) := by
  rw [shl8 hA hn hx, hA, hm]; simp only [std]
  rw [wrap_i64 (by omega) (by omega), bits_or_i64_nat _ _ (by omega) (by omega), or_256 _ _ hy]
theorem cUnpack (b : List UInt8) (l : List V) (hl : l = bytesV b) (hb : b.length ≤ 4000000000) : CallR Try.prog 82 [.slice l] fun rs => ∃ (r : List V) (e : Int), rs = [.v (.slice r), .v (.int .i64 e)] ∧ r = listsV (unpackL b) ∧ e = unpackE b := by
  obtain ⟨r, hr⟩ : ∃ r, r = listsV (unpackL b) := ⟨_, rfl⟩
  obtain ⟨e, he⟩ : ∃ e, e = unpackE b := ⟨_, rfl⟩
  refine .of [.v (.slice r), .v (.int .i64 e)] ⟨r, e, rfl, hr, he⟩ ?_
  refine FnR.of' T_ok M_ok (fn := Try.f82) (by kernel_rfl) rfl rfl rfl rfl (Nat.le_of_ble_eq_true rfl) fun A hA => ?_
  cbv
  refine loopF hA (ι := List V × List V) (fun p => { n := 43, sl := [(0, .v (.slice p.1)), (4, .own 35)], ob := [(35, .row 1 p.2 true)] })
    (fun p => ∃ (b' : List UInt8) (a : List (List UInt8)), p.1 = bytesV b' ∧ p.2 = listsV a ∧ a.length + b'.length ≤ 4000000000 ∧ unpackM b = upTo a (unpackM b')) (fun p => p.1.length) (_, _) ((weak_nils _ 4 35 1 true rfl).trans (weakI rfl ⟨rfl, rfl, trivial⟩ ⟨rfl, trivial⟩)) ⟨b, [], hl, rfl, by simpa using hb, by unfold upTo; cases unpackM b <;> simp⟩ ?_
  rintro ⟨y, x⟩ ⟨b', a, hy, hx, hab, hu⟩
  dsimp only at hy hx
  have bad : unpackM b' = none → ([] : List V) = r ∧ (4 : Int) = e := fun h => by
    rw [h] at hu
    rw [hr, he]
    simp [unpackL, unpackE, hu, upTo, listsV]
  cbv
  refine condI hA (fun hc => ?_) (fun hc => ?_)
  · have h2 := bLeT hA (m := 2) hy rfl hc
    match b', h2, hy, hab, hu, bad with
    | c :: d :: t, _, hy, hab, hu, bad =>
    rw [unpackM_cons] at hu bad
    obtain ⟨n, hn⟩ : ∃ n : Nat, n = c.toNat * 256 + d.toNat := ⟨_, rfl⟩
    rw [← hn] at hu bad
    have hc8 : c.toNat < 256 := c.toNat_lt
    have hd8 : d.toNat < 256 := d.toNat_lt
    cbv
    refine chkI hA (by kernel_rfl) ?_
    cbv
    refine getBN hA hy (j := 0) rfl (by simp) ?_
    rintro v0 hv0
    cbv
    refine nnegI hA (by decide) ?_
    cbv
    refine getBN hA hy (j := 1) rfl (by simp) ?_
    rintro v1 hv1
    cbv
    have hn16 : A.bits .or .i64 (A.shl .i64 (A.wrap .i64 v0) 8) (A.wrap .i64 v1) = ((n : Nat) : Int) := by
      rw [hn]; exact len16 hA hv0 hv1 hc8 hd8
    obtain ⟨m, hm⟩ : ∃ m : Int, m = A.bits .or .i64 (A.shl .i64 (A.wrap .i64 v0) 8) (A.wrap .i64 v1) := ⟨_, rfl⟩
    have hmn : m = (n : Int) := hm.trans hn16
    refine sizedI hA (bytesV_flat hy) ?_
    cbv
    refine subLN hA (sub_of (a := 2) rfl (lenI hA hy) hy (by simp) (by simp)) ?_
    rintro y2 hy2
    have hy2 : y2 = bytesV t := cutFrom (k := 2) rfl hy (lenI hA hy) hy2
    cbv
    refine condI hA (fun g1 => ?_) (fun g1 => ?_)
    · have g1 : 1024 < n := nGtT hA (c := 1024) rfl hn16 g1
      have q := bad (if_pos (.inl g1))
      cbv
      refine retI hA ?_
      exact ⟨congrArg (fun q => some (V.slice q)) q.1, congrArg (fun q => some (V.int .i64 q)) q.2, trivial⟩
    · have g1 : ¬ 1024 < n := nGtF hA (c := 1024) rfl hn16 g1
      cbv
      refine condI hA (fun g2 => ?_) (fun g2 => ?_)
      · have g2 := bLtT hA hy2 hn16 g2
        have q := bad (if_pos (.inr g2))
        cbv
        refine retI hA ?_
        exact ⟨congrArg (fun q => some (V.slice q)) q.1, congrArg (fun q => some (V.int .i64 q)) q.2, trivial⟩
      · have g2 := bLtF hA hy2 hn16 g2
        cbv
        refine sizedI hA (bytesV_flat hy2) ?_
        cbv
        refine subLN hA (sub_of (a := 0) rfl hn16 hy2 (by omega) (by omega)) ?_
        rintro z hz
        have hz : z = bytesV (t.take n) := cutTo hn16 hy2 hz
        cbv
        refine callI hA (cClone z (bytesV_flat hz) (by rw [hz, bytesV_len, List.length_take]; simp at hab; omega)) ?_
        intro rs_ h_
        subst h_
        cbv
        have hz1 : [V.slice z] = listsV [t.take n] := by rw [hz]; rfl
        refine roomI hA (by rw [hx, listsV_len]; simp; simp at hab; omega) ?_
        cbv
        refine sizedI hA (bytesV_flat hy2) ?_
        cbv
        refine subLN hA (sub_of hn16 (lenI hA hy2) hy2 (by omega) (Nat.le_refl _)) ?_
        rintro y3 hy3
        have hy3 : y3 = bytesV (t.drop n) := cutFrom hn16 hy2 (lenI hA hy2) hy3
        rw [if_neg (by omega)] at hu
        refine ⟨(_, _), weakI rfl ⟨rfl, rfl, trivial⟩ ⟨rfl, trivial⟩, ⟨t.drop n, a ++ [t.take n], hy3, app_ls hA hx hz1, ?_, ?_⟩, ?_⟩
        · simp at hab ⊢; omega
        · rw [hu]
          cases unpackM (t.drop n) <;> simp [upTo]
        · change y3.length < y.length
          rw [hy3, hy, bytesV_len, bytesV_len]; simp; omega
  · have h2 := bLeF hA (m := 2) hy rfl hc
    cbv
    refine condI hA (fun g1 => ?_) (fun g1 => ?_)
    · have g1 := bGtT hA (m := 0) hy rfl g1
      have q := bad (unpackM_short g1 (by omega))
      cbv
      refine retI hA ?_
      exact ⟨congrArg (fun q => some (V.slice q)) q.1, congrArg (fun q => some (V.int .i64 q)) q.2, trivial⟩
    · have g1 := bGtF hA (m := 0) hy rfl g1
      have hb0 : b' = [] := List.length_eq_zero_iff.1 (by omega)
      rw [hb0, show unpackM [] = some [] from by rw [unpackM]] at hu
      cbv
      refine retI hA ?_
      refine ⟨congrArg (fun q => some (V.slice q)) ?_, congrArg (fun q => some (V.int .i64 q)) ?_, trivial⟩
      · rw [hx, hr]; simp [unpackL, hu, upTo]
      · rw [he]; simp [unpackE, hu, upTo]
end Go.Proofs.Ythioccbgjkbmdaa.AM
