/-
 Contracts: a record read.
-/
import Derived.Test.YthioccbgjkbmdaaGreatM24470ffae7
import Derived.Shelf.Spec.SlicesGrow
import Derived.Test.YthioccbgjkbmdaaGreatM1626ebd03b
set_option linter.unusedVariables false
set_option linter.unusedSimpArgs false
set_option maxRecDepth 100000
set_option maxHeartbeats 4000000
namespace Go.Proofs.YthioccbgjkbmdaaGreat.AM
open Go Go.RowKit
def zeroR : RecM := ⟨0, [], 0, 0, 0, 0, 0, 0⟩
def okNum (f : List UInt8) : Bool := numberE f == 0 && decide (numberN f < 4294967296)
def numF (fs : List (List UInt8)) (i : Nat) : Nat := numberN (fs.getD i [])
def recOf (fs : List (List UInt8)) : RecM := ⟨(numF fs 0 % 256 : Nat), unpackL (fs.getD 1 []), numF fs 2, numF fs 3, numF fs 4, numF fs 5, numF fs 6, numF fs 7⟩
def okNums (fs : List (List UInt8)) : Prop := ∀ m, m < 8 → m ≠ 1 → okNum (fs.getD m []) = true
instance (fs : List (List UInt8)) : Decidable (okNums fs) := by unfold okNums; infer_instance
def getOk (b : List UInt8) : Prop := unpackE b = 0 ∧ (unpackL b).length = 8 ∧ okNums (unpackL b) ∧ unpackE ((unpackL b).getD 1 []) = 0 ∧ putE (recOf (unpackL b)) = 0 ∧ putB (recOf (unpackL b)) = b
instance (b : List UInt8) : Decidable (getOk b) := by unfold getOk; infer_instance
def getR (b : List UInt8) : RecM := if getOk b then recOf (unpackL b) else zeroR
def getE (b : List UInt8) : Int := if getOk b then 0 else 4
def numsTo (fs : List (List UInt8)) (j : Nat) : List Nat := (List.range 8).map fun m => if m < j ∧ m ≠ 1 then numF fs m else 0
theorem numsTo_len (fs : List (List UInt8)) (j : Nat) : (numsTo fs j).length = 8 := by simp [numsTo]
theorem numsTo_zero (fs : List (List UInt8)) : numsTo fs 0 = List.replicate 8 0 := by simp [numsTo, List.range_succ]
theorem numsTo_one (fs : List (List UInt8)) : numsTo fs 2 = numsTo fs 1 := by simp [numsTo, List.range_succ]
theorem numsTo_set {fs : List (List UInt8)} {j : Nat} (h : j ≠ 1) : (numsTo fs j).set j (numF fs j) = numsTo fs (j + 1) := by
 apply List.ext_getElem
 ·simp [numsTo]
 ·intro m h1 h2
  rw [List.getElem_set]
  simp only [numsTo, List.getElem_map, List.getElem_range]
  split
  ·rename_i e; subst e; rw [if_pos ⟨by omega, h⟩]
  ·rename_i e
   by_cases q : m < j ∧ m ≠ 1
   ·rw [if_pos q, if_pos ⟨by omega, q.2⟩]
   ·rw [if_neg q, if_neg (by omega)]
theorem numsTo_at {fs : List (List UInt8)} {j m : Nat} (hm : m < j) (h1 : m ≠ 1) (h : m < (numsTo fs j).length) : (numsTo fs j)[m] = numF fs m := by
 simp only [numsTo, List.getElem_map, List.getElem_range]; rw [if_pos ⟨hm, h1⟩]
theorem numsTo_at1 {fs : List (List UInt8)} {j : Nat} (h : 1 < (numsTo fs j).length) : (numsTo fs j)[1] = 0 := by
 simp only [numsTo, List.getElem_map, List.getElem_range]; rw [if_neg (by simp)]
theorem numsV_len (ns : List Nat) : (numsV ns).length = ns.length := by simp [numsV]
theorem numsV_set (ns : List Nat) (j n : Nat) : (numsV ns).set j (.int .u64 (n : Int)) = numsV (ns.set j n) := by
 simp only [numsV, List.map_set]
theorem get_bad {b : List UInt8} (h : ¬ getOk b) : getR b = zeroR ∧ getE b = 4 := by simp [getR, getE, h]
theorem get_good {b : List UInt8} (h : getOk b) : getR b = recOf (unpackL b) ∧ getE b = 0 := by simp [getR, getE, h]
theorem ok_at {fs : List (List UInt8)} {j : Nat} (hj : j < fs.length) : fs.getD j [] = fs[j] := by simp [List.getD_eq_getElem?_getD, hj]
theorem okTo_succ {fs : List (List UInt8)} {j : Nat} (h : ∀ m, m < j → m ≠ 1 → okNum (fs.getD m []) = true) (hk : j ≠ 1 → okNum (fs.getD j []) = true) : ∀ m, m < j + 1 → m ≠ 1 → okNum (fs.getD m []) = true := fun m hm h1 => by
 by_cases e : m = j
 ·subst e; exact hk h1
 ·exact h m (by omega) h1
theorem okNum_of {f : List UInt8} (h1 : numberE f = 0) (h2 : numberN f < 4294967296) : okNum f = true := by simp [okNum, h1, h2]
theorem okNum_lt {f : List UInt8} (h : okNum f = true) : numberE f = 0 ∧ numberN f < 4294967296 := by
 simpa [okNum] using h
theorem unpackM_small : ∀ (b : List UInt8) fs, unpackM b = some fs → ∀ f ∈ fs, f.length ≤ b.length
 | [], fs, h, f, hf => by rw [unpackM] at h; cases h; simp at hf
 | [_], fs, h, f, hf => by rw [unpackM] at h; cases h
 | x :: y :: r, fs, h, f, hf => by
  rw [unpackM_cons] at h
  split at h
  ·cases h
  ·split at h
   ·rename_i gs hg
    cases h
    rcases List.mem_cons.1 hf with rfl | hf
    ·simp; omega
    ·have := unpackM_small _ _ hg f hf
     simp at this ⊢; omega
   ·cases h
termination_by b => b.length
decreasing_by simp only [List.length_drop, List.length_cons]; omega
theorem unpackL_small (b : List UInt8) : ∀ f ∈ unpackL b, f.length ≤ b.length := by
 unfold unpackL
 split
 ·rename_i fs h; exact unpackM_small b fs h
 ·simp
theorem getD_small (b : List UInt8) (i : Nat) : ((unpackL b).getD i []).length ≤ b.length := by
 rw [List.getD_eq_getElem?_getD]
 cases h : (unpackL b)[i]? with
 | none => simp
 | some f => exact unpackL_small b f (List.mem_of_getElem? h)
theorem recOf_ok {b : List UInt8} (hb : b.length ≤ 4000000000) (h : okNums (unpackL b)) : RecOk (recOf (unpackL b)) := by
 have l : ∀ m, m < 8 → m ≠ 1 → numF (unpackL b) m < 4294967296 := fun m hm h1 => (okNum_lt (h m hm h1)).2
 have l3 := l 3 (by omega) (by omega)
 have l6 := l 6 (by omega) (by omega)
 have l7 := l 7 (by omega) (by omega)
 have p1 := unpackL_len ((unpackL b).getD 1 [])
 have p2 := getD_small b 1
 exact ⟨by simp only [recOf]; omega, by simp only [recOf]; omega, by simp only [recOf]; omega, by simp only [recOf]; omega, by simp only [recOf]; omega, by simp only [recOf]; omega, by simp only [recOf]; omega, by simp only [recOf]; omega, by simp only [recOf]; omega,
  fun p hp => by have := unpackL_small _ p hp; simp only [recOf] at *; omega⟩
theorem inR_of {y : List V} {ns : List Nat} {i : Int} {j : Nat} (hy : y = numsV ns) (hi : i = j) (h : j < ns.length) : 0 ≤ i ∧ i < y.length := by
 rw [hy, hi, numsV_len]; omega
section
variable {A : Prim} {P : Program} {R : List (Nat × AObj) → List D → Prop} (hA : A = std P R)
include hA
theorem shr32T {n : Int} {x : Nat} (hn : n = x) (h : A.ine (A.shr .u64 n 32) 0 = true) : 4294967296 ≤ x := by
 rw [hA, hn] at h; simp only [std] at h
 have e2 : (2 : Int) ^ (min (Int.toNat 32) IntKind.u64.bits) = ((4294967296 : Nat) : Int) := by decide
 rw [e2, Int.fdiv_eq_ediv_of_nonneg _ (by omega)] at h
 have h2 : ((x : Int) / ((4294967296 : Nat) : Int)) ≠ 0 := by simpa using h
 omega
theorem shr32F {n : Int} {x : Nat} (hn : n = x) (h : A.ine (A.shr .u64 n 32) 0 = false) : x < 4294967296 := by
 rw [hA, hn] at h; simp only [std] at h
 have e2 : (2 : Int) ^ (min (Int.toNat 32) IntKind.u64.bits) = ((4294967296 : Nat) : Int) := by decide
 rw [e2, Int.fdiv_eq_ediv_of_nonneg _ (by omega)] at h
 have h2 : ((x : Int) / ((4294967296 : Nat) : Int)) = 0 := by simpa using h
 omega
theorem setN {x : List V} {i v : Int} {ns : List Nat} {j n : Nat} (hx : x = numsV ns) (hi : i = j) (hv : v = n) : A.setL x i (.int .u64 v) = numsV (ns.set j n) := by
 rw [hA, hx, hi, hv]; simp only [std, Int.toNat_natCast]; exact numsV_set ns j n
theorem wI {n : Int} {m : Nat} (hn : n = m) (hm : m < 4294967296) : A.wrap .i64 n = ((m : Nat) : Int) := by
 rw [hA, hn]; exact wrap_i64 (by omega) (by omega)
theorem wU {n : Int} {m : Nat} (hn : n = m) (hm : m < 4294967296) : A.wrap .u32 n = ((m : Nat) : Int) := by
 rw [hA, hn]
 simp only [std, IntKind.wrap, IntKind.bits, IntKind.signed, Bool.false_and, Bool.false_eq_true, if_false]
 omega
theorem wB {n : Int} {m : Nat} (hn : n = m) : A.wrap .u8 n = ((m % 256 : Nat) : Int) := by
 rw [hA, hn]; exact wrap_u8 m
theorem ineT {a : Int} {x y : Nat} (ha : a = x) {b : Int} (hb : b = y) (h : A.ine a b = true) : x ≠ y := by
 rw [hA, ha, hb] at h; simp only [std] at h
 intro e; subst e; simp at h
theorem ineF {a : Int} {x y : Nat} (ha : a = x) {b : Int} (hb : b = y) (h : A.ine a b = false) : x = y := by
 rw [hA, ha, hb] at h; simp only [std] at h
 have : (x : Int) = y := by simpa using h
 omega
theorem lenLs' {l : List V} {fs : List (List UInt8)} (h : l = listsV fs) : A.lenL l = (fs.length : Nat) := by rw [hA]; simp only [std]; rw [lenLs h]
end
theorem putB_len {a : RecM} (hr : RecOk a) : (putB a).length ≤ 140737488355328 := by
 unfold putB
 split
 ·rename_i h
  have := packL_len (fields_small hr h)
  have e : (fieldsM a).length = 8 := rfl
  omega
 ·simp
theorem cGet (b : List UInt8) (l : List V) (hl : l = bytesV b) (hb : b.length ≤ 4000000000) : CallR Tryz.prog 86 [.slice l] fun rs => ∃ (g : RecM) (lp : List V) (e : Int), rs = [.v (.agg [.int .u8 g.k, .slice lp, .int .i64 g.sz, .int .u32 g.sm, .int .i64 g.mi, .int .i64 g.mo, .int .u32 g.si, .int .u32 g.so]), .v (.int .i64 e)] ∧ g = getR b ∧ lp = strsV g.path ∧ e = getE b := by
 obtain ⟨g, hg⟩ : ∃ g, g = getR b := ⟨_, rfl⟩
 obtain ⟨lp, hlp⟩ : ∃ lp, lp = strsV g.path := ⟨_, rfl⟩
 obtain ⟨e, he⟩ : ∃ e, e = getE b := ⟨_, rfl⟩
 refine .of _ ⟨g, lp, e, rfl, hg, hlp, he⟩ ?_
 obtain ⟨fs0, hfs0⟩ : ∃ fs0, fs0 = unpackL b := ⟨_, rfl⟩
 have bad : ¬ (unpackE b = 0 ∧ fs0.length = 8 ∧ okNums fs0 ∧ unpackE (fs0.getD 1 []) = 0 ∧ putE (recOf fs0) = 0 ∧ putB (recOf fs0) = b) → g = zeroR ∧ lp = [] ∧ e = 4 := fun h => by
  rw [hfs0] at h
  have q := get_bad (b := b) h
  have h1 : g = zeroR := hg.trans q.1
  exact ⟨h1, by rw [hlp, h1]; rfl, he.trans q.2⟩
 have good : (unpackE b = 0 ∧ fs0.length = 8 ∧ okNums fs0 ∧ unpackE (fs0.getD 1 []) = 0 ∧ putE (recOf fs0) = 0 ∧ putB (recOf fs0) = b) → g = recOf fs0 ∧ e = 0 := fun h => by
  rw [hfs0] at h ⊢
  have q := get_good (b := b) h
  exact ⟨hg.trans q.1, he.trans q.2⟩
 refine FnR.of' T_ok M_ok (fn := Tryz.f86) (by kernel_rfl) rfl rfl rfl rfl (Nat.le_of_ble_eq_true rfl) fun A hA => ?_
 cbv
 refine callI hA (cUnpack b l hl hb) ?_
 intro rs_ h_
 obtain ⟨fs, e1, q_1, hfs, he1⟩ := h_
 subst q_1
 cbv
 rw [← hfs0] at hfs
 refine condI hA (fun h1 => ?_) (fun h1 => ?_)
 ·have h1 := ine_err hA h1
  have q := bad fun h => h1 (he1.trans h.1)
  cbv
  refine retI hA ?_
  refine ⟨?_, ?_, trivial⟩
  ·rw [q.2.1, q.1]; rfl
  ·rw [q.2.2]; rfl
 ·have h1 := ine_ok hA h1
  have hE : unpackE b = 0 := he1.symm.trans h1
  cbv
  refine condI hA (fun h2 => ?_) (fun h2 => ?_)
  ·have h2 := ineT hA (y := 8) (lenLs' hA hfs) rfl h2
   have q := bad fun h => h2 h.2.1
   cbv
   refine retI hA ?_
   refine ⟨?_, ?_, trivial⟩
   ·rw [q.2.1, q.1]; rfl
   ·rw [q.2.2]; rfl
  ·have hL : fs0.length = 8 := ineF hA (y := 8) (lenLs' hA hfs) rfl h2
   cbv
   refine loopF hA (ι := Int × List V) (fun p => { n := 103, sl := [(0, .v (.slice l)), (2, .ptr 2 0), (4, .v (.slice fs)), (6, .ptr 6 0), (26, .v (.slice fs)), (27, .v (.int .i64 (A.lenL fs))), (28, .v (.int .i64 p.1))], ob := [(2, .box (tyOf 44).zero), (6, .row 1 p.2 true)] })
    (fun p => ∃ j : Nat, p.1 = j ∧ j ≤ 8 ∧ p.2 = numsV (numsTo fs0 j) ∧ ∀ m, m < j → m ≠ 1 → okNum (fs0.getD m []) = true) (fun p => 8 - p.1.toNat) (_, _) (weakI rfl ⟨rfl, rfl, rfl, rfl, rfl, rfl, rfl, trivial⟩ ⟨rfl, rfl, trivial⟩) ⟨0, rfl, Nat.zero_le _, by rw [numsTo_zero]; rfl, fun m h => by omega⟩ ?_
   rintro ⟨i, x⟩ ⟨j, hi, hj, hx, ho⟩
   dsimp only at hi hx
   have hx8 : x.length = 8 := by rw [hx, numsV_len, numsTo_len]
   cbv
   refine condI hA (fun hc => ?_) (fun hc => ?_)
   ·have hjl : j < fs0.length := ltL hA (natEq hi) (lenLs hfs) hc
    cbv
    refine getLN hA hfs (natEq hi) hjl ?_
    rintro f hf
    have hf' : f = bytesV (fs0.getD j []) := by rw [hf, ok_at]
    cbv
    refine condI hA (fun k1 => ?_) (fun k1 => ?_)
    ·have k1 : j = 1 := by have := eqT hA k1; rw [natEq hi] at this; omega
     exact ⟨(_, _), weakI rfl ⟨rfl, rfl, rfl, rfl, rfl, rfl, rfl, trivial⟩ ⟨rfl, rfl, trivial⟩, ⟨j + 1, upI hA (natEq hi) (by omega), by omega, by subst k1; rw [numsTo_one]; exact hx, okTo_succ ho fun h => absurd k1 h⟩, by rw [← hL]; exact upM hA (natEq hi) hjl (by omega)⟩
    ·have k1 : j ≠ 1 := fun h => by have := eqF hA k1; rw [natEq hi, h] at this; exact this rfl
     cbv
     refine callI hA (cNumber _ f hf' (by have := getD_small b j; rw [← hfs0] at this; omega)) ?_
     intro rs_ h_
     obtain ⟨v, e2, q_1, hv, he2⟩ := h_
     subst q_1
     cbv
     refine inRI hA (by rw [natEq hi, hx8]; omega) ?_
     cbv
     refine inRI hA (by rw [natEq hi]; simp; omega) ?_
     cbv
     refine inRI hA (by rw [natEq hi, hx8]; omega) ?_
     cbv
     have hset := setN hA hx (natEq hi) (natEq hv)
     have hset2 := hset.trans (congrArg numsV (numsTo_set k1))
     refine condI hA (fun k2 => ?_) (fun k2 => ?_)
     ·have k2 := ine_err hA k2
      have q := bad fun h => k2 (he2.trans (okNum_lt (h.2.2.1 j (by omega) k1)).1)
      cbv
      refine retI hA ?_
      refine ⟨?_, ?_, trivial⟩
      ·rw [q.2.1, q.1]; rfl
      ·rw [q.2.2]; rfl
     ·have k2 := ine_ok hA k2
      cbv
      refine inRI hA (inR_of hset2 (natEq hi) (by rw [numsTo_len]; omega)) ?_
      cbv
      refine inRI hA (by rw [natEq hi]; simp; omega) ?_
      cbv
      refine getIN hA (numsV_at hset2 (natEq hi) (by rw [numsTo_len]; omega)) ?_
      rintro v2 hv2
      have hv2 : v2 = ((numberN (fs0.getD j []) : Nat) : Int) := by rw [natEq hv2, numsTo_at (by omega) k1]; rfl
      cbv
      refine nnegI hA (by decide) ?_
      cbv
      refine condI hA (fun k3 => ?_) (fun k3 => ?_)
      ·have k3 := shr32T hA hv2 k3
       have q := bad fun h => by have := (okNum_lt (h.2.2.1 j (by omega) k1)).2; omega
       cbv
       refine retI hA ?_
       refine ⟨?_, ?_, trivial⟩
       ·rw [q.2.1, q.1]; rfl
       ·rw [q.2.2]; rfl
      ·have k3 := shr32F hA hv2 k3
       exact ⟨(_, _), weakI rfl ⟨rfl, rfl, rfl, rfl, rfl, rfl, rfl, trivial⟩ ⟨rfl, rfl, trivial⟩, ⟨j + 1, upI hA (natEq hi) (by omega), by omega, hset2, okTo_succ ho fun _ => okNum_of (he2.symm.trans k2) k3⟩, by rw [← hL]; exact upM hA (natEq hi) hjl (by omega)⟩
   ·have hjl : j = fs0.length := geL hA (natEq hi) (lenLs hfs) hc (by omega)
    have hj8 : j = 8 := hjl.trans hL
    subst hj8
    cbv
    have hF : okNums fs0 := ho
    have w : ∀ m, m < 8 → m ≠ 1 → numF fs0 m < 4294967296 := fun m hm h1 => (okNum_lt (hF m hm h1)).2
    refine getLN hA hfs (j := 1) rfl (by omega) ?_
    rintro p1 hp1
    have hp1' : p1 = bytesV (fs0.getD 1 []) := by rw [hp1, ok_at]
    cbv
    refine callI hA (cStrings _ p1 hp1' (by have := getD_small b 1; rw [← hfs0] at this; omega)) ?_
    intro rs_ h_
    obtain ⟨pl, e3, q_1, hpl, he3⟩ := h_
    subst q_1
    cbv
    refine inRI hA (by rw [hx8]; decide) ?_
    cbv
    refine inRI hA (by decide) ?_
    cbv
    refine getIN hA (numsV_at hx (j := 0) rfl (by rw [numsTo_len]; omega)) ?_
    rintro v0 hv0
    cbv
    refine inRI hA (by rw [hx8]; decide) ?_
    cbv
    refine inRI hA (by decide) ?_
    cbv
    refine getIN hA (numsV_at hx (j := 2) rfl (by rw [numsTo_len]; omega)) ?_
    rintro v2 hv2
    cbv
    refine inRI hA (by rw [hx8]; decide) ?_
    cbv
    refine inRI hA (by decide) ?_
    cbv
    refine getIN hA (numsV_at hx (j := 3) rfl (by rw [numsTo_len]; omega)) ?_
    rintro v3 hv3
    cbv
    refine inRI hA (by rw [hx8]; decide) ?_
    cbv
    refine inRI hA (by decide) ?_
    cbv
    refine getIN hA (numsV_at hx (j := 4) rfl (by rw [numsTo_len]; omega)) ?_
    rintro v4 hv4
    cbv
    refine inRI hA (by rw [hx8]; decide) ?_
    cbv
    refine inRI hA (by decide) ?_
    cbv
    refine getIN hA (numsV_at hx (j := 5) rfl (by rw [numsTo_len]; omega)) ?_
    rintro v5 hv5
    cbv
    refine inRI hA (by rw [hx8]; decide) ?_
    cbv
    refine inRI hA (by decide) ?_
    cbv
    refine getIN hA (numsV_at hx (j := 6) rfl (by rw [numsTo_len]; omega)) ?_
    rintro v6 hv6
    cbv
    refine inRI hA (by rw [hx8]; decide) ?_
    cbv
    refine inRI hA (by decide) ?_
    cbv
    refine getIN hA (numsV_at hx (j := 7) rfl (by rw [numsTo_len]; omega)) ?_
    rintro v7 hv7
    cbv
    have hrec : RecOk (recOf fs0) := by rw [hfs0]; exact recOf_ok hb (hfs0 ▸ hF)
    have ek : A.wrap .u8 v0 = (recOf fs0).k := (wB hA hv0).trans (by rw [numsTo_at (by omega) (by omega)]; rfl)
    have es : A.wrap .i64 v2 = (recOf fs0).sz := by rw [wI hA hv2 (by rw [numsTo_at (by omega) (by omega)]; exact w 2 (by omega) (by omega)), numsTo_at (by omega) (by omega)]; rfl
    have em : A.wrap .u32 v3 = (recOf fs0).sm := by rw [wU hA hv3 (by rw [numsTo_at (by omega) (by omega)]; exact w 3 (by omega) (by omega)), numsTo_at (by omega) (by omega)]; rfl
    have ei : A.wrap .i64 v4 = (recOf fs0).mi := by rw [wI hA hv4 (by rw [numsTo_at (by omega) (by omega)]; exact w 4 (by omega) (by omega)), numsTo_at (by omega) (by omega)]; rfl
    have eo : A.wrap .i64 v5 = (recOf fs0).mo := by rw [wI hA hv5 (by rw [numsTo_at (by omega) (by omega)]; exact w 5 (by omega) (by omega)), numsTo_at (by omega) (by omega)]; rfl
    have ea : A.wrap .u32 v6 = (recOf fs0).si := by rw [wU hA hv6 (by rw [numsTo_at (by omega) (by omega)]; exact w 6 (by omega) (by omega)), numsTo_at (by omega) (by omega)]; rfl
    have eb : A.wrap .u32 v7 = (recOf fs0).so := by rw [wU hA hv7 (by rw [numsTo_at (by omega) (by omega)]; exact w 7 (by omega) (by omega)), numsTo_at (by omega) (by omega)]; rfl
    have er : (⟨A.wrap .u8 v0, unpackL (fs0.getD 1 []), A.wrap .i64 v2, A.wrap .u32 v3, A.wrap .i64 v4, A.wrap .i64 v5, A.wrap .u32 v6, A.wrap .u32 v7⟩ : RecM) = recOf fs0 := by rw [ek, es, em, ei, eo, ea, eb]; rfl
    refine callI hA (cPut ⟨A.wrap .u8 v0, unpackL (fs0.getD 1 []), A.wrap .i64 v2, A.wrap .u32 v3, A.wrap .i64 v4, A.wrap .i64 v5, A.wrap .u32 v6, A.wrap .u32 v7⟩ pl hpl (er ▸ hrec)) ?_
    intro rs_ h_
    obtain ⟨pb, e4, q_1, hpb, he4⟩ := h_
    subst q_1
    cbv
    rw [er] at hpb he4
    refine condI hA (fun z1 => ?_) (fun z1 => ?_)
    ·have z1 := ine_err hA z1
     have q := bad fun h => z1 (he3.trans h.2.2.2.1)
     cbv
     refine retI hA ?_
     refine ⟨?_, ?_, trivial⟩
     ·rw [q.2.1, q.1]; rfl
     ·rw [q.2.2]; rfl
    ·have z1 := ine_ok hA z1
     cbv
     refine condI hA (fun z2 => ?_) (fun z2 => ?_)
     ·have z2 := ine_err hA z2
      have q := bad fun h => z2 (he4.trans h.2.2.2.2.1)
      cbv
      refine retI hA ?_
      refine ⟨?_, ?_, trivial⟩
      ·rw [q.2.1, q.1]; rfl
      ·rw [q.2.2]; rfl
     ·have z2 := ine_ok hA z2
      cbv
      refine callI hA (cEqualB _ b pb l hpb hl (putB_len hrec)) ?_
      intro rs_ h_
      obtain ⟨c5, q_1, hc5⟩ := h_
      subst q_1
      cbv
      refine condI hA (fun z3 => ?_) (fun z3 => ?_)
      ·have z3 : ¬ putB (recOf fs0) = b := fun h => by have := notT hA z3; rw [hc5, h] at this; simp at this
       have q := bad fun h => z3 h.2.2.2.2.2
       cbv
       refine retI hA ?_
       refine ⟨?_, ?_, trivial⟩
       ·rw [q.2.1, q.1]; rfl
       ·rw [q.2.2]; rfl
      ·have z3 : putB (recOf fs0) = b := by have := notF hA z3; rw [hc5] at this; simpa using this
       have q := good ⟨hE, hL, hF, he3.symm.trans z1, he4.symm.trans z2, z3⟩
       cbv
       refine retI hA ?_
       refine ⟨?_, ?_, trivial⟩
       ·change some (V.agg [.int .u8 (A.wrap .u8 v0), .slice pl, .int .i64 (A.wrap .i64 v2), .int .u32 (A.wrap .u32 v3), .int .i64 (A.wrap .i64 v4), .int .i64 (A.wrap .i64 v5), .int .u32 (A.wrap .u32 v6), .int .u32 (A.wrap .u32 v7)]) = some (V.agg [.int .u8 g.k, .slice lp, .int .i64 g.sz, .int .u32 g.sm, .int .i64 g.mi, .int .i64 g.mo, .int .u32 g.si, .int .u32 g.so])
        rw [ek, es, em, ei, eo, ea, eb, hlp, q.1, hpl]; rfl
       ·rw [q.2]; rfl
open Go Go.RowKit
theorem sneT {A : Prim} {P : Program} {R : List (Nat × AObj) → List D → Prop} (hA : A = std P R) {s t a b : List UInt8} (hs : s = a) (ht : t = b) (h : A.sne s t = true) : ¬ a = b := by
 subst hs ht hA; intro e; subst e; simp [std] at h
theorem sneF {A : Prim} {P : Program} {R : List (Nat × AObj) → List D → Prop} (hA : A = std P R) {s t a b : List UInt8} (hs : s = a) (ht : t = b) (h : A.sne s t = false) : a = b := by
 subst hs ht hA; simpa [std] using h
theorem cGet12 (b : List UInt8) (l : List V) (hl : l = bytesV b) (hb : b.length ≤ 4000000000) : CallR Tryz.prog 104 [.slice l] fun rs => ∃ (g : RecM) (lp : List V) (e : Int), rs = [.v (.agg [.int .u8 g.k, .slice lp, .int .i64 g.sz, .int .u32 g.sm, .int .i64 g.mi, .int .i64 g.mo, .int .u32 g.si, .int .u32 g.so]), .v (.int .i64 e)] ∧ g = getR b ∧ lp = strsV g.path ∧ e = getE b := by
 obtain ⟨g, hg⟩ : ∃ g, g = getR b := ⟨_, rfl⟩
 obtain ⟨lp, hlp⟩ : ∃ lp, lp = strsV g.path := ⟨_, rfl⟩
 obtain ⟨e, he⟩ : ∃ e, e = getE b := ⟨_, rfl⟩
 refine .of _ ⟨g, lp, e, rfl, hg, hlp, he⟩ ?_
 obtain ⟨fs0, hfs0⟩ : ∃ fs0, fs0 = unpackL b := ⟨_, rfl⟩
 have bad : ¬ (unpackE b = 0 ∧ fs0.length = 8 ∧ okNums fs0 ∧ unpackE (fs0.getD 1 []) = 0 ∧ putE (recOf fs0) = 0 ∧ putB (recOf fs0) = b) → g = zeroR ∧ lp = [] ∧ e = 4 := fun h => by
  rw [hfs0] at h
  have q := get_bad (b := b) h
  have h1 : g = zeroR := hg.trans q.1
  exact ⟨h1, by rw [hlp, h1]; rfl, he.trans q.2⟩
 have good : (unpackE b = 0 ∧ fs0.length = 8 ∧ okNums fs0 ∧ unpackE (fs0.getD 1 []) = 0 ∧ putE (recOf fs0) = 0 ∧ putB (recOf fs0) = b) → g = recOf fs0 ∧ e = 0 := fun h => by
  rw [hfs0] at h ⊢
  have q := get_good (b := b) h
  exact ⟨hg.trans q.1, he.trans q.2⟩
 refine FnR.of' T_ok M_ok (fn := Tryz.f104) (by kernel_rfl) rfl rfl rfl rfl (Nat.le_of_ble_eq_true rfl) fun A hA => ?_
 cbv
 refine callI hA (cUnpack12 b l hl hb) ?_
 intro rs_ h_
 obtain ⟨fs, e1, q_1, hfs, he1⟩ := h_
 subst q_1
 cbv
 rw [← hfs0] at hfs
 refine condI hA (fun h1 => ?_) (fun h1 => ?_)
 ·have h1 := ine_err hA h1
  have q := bad fun h => h1 (he1.trans h.1)
  cbv
  refine retI hA ?_
  refine ⟨?_, ?_, trivial⟩
  ·rw [q.2.1, q.1]; rfl
  ·rw [q.2.2]; rfl
 ·have h1 := ine_ok hA h1
  have hE : unpackE b = 0 := he1.symm.trans h1
  cbv
  refine condI hA (fun h2 => ?_) (fun h2 => ?_)
  ·have h2 := ineT hA (y := 8) (lenLs' hA hfs) rfl h2
   have q := bad fun h => h2 h.2.1
   cbv
   refine retI hA ?_
   refine ⟨?_, ?_, trivial⟩
   ·rw [q.2.1, q.1]; rfl
   ·rw [q.2.2]; rfl
  ·have hL : fs0.length = 8 := ineF hA (y := 8) (lenLs' hA hfs) rfl h2
   cbv
   refine loopF hA (ι := Int × List V × Int) (fun p => { n := 101, sl := [(0, .v (.slice l)), (2, .ptr 2 0), (4, .v (.slice fs)), (5, .v (.int .i64 p.2.2)), (6, .ptr 6 0), (7, .v (.int .i64 p.1))], ob := [(2, .box (tyOf 70).zero), (6, .row 1 p.2.1 true)] })
    (fun p => ∃ j : Nat, p.1 = j ∧ j ≤ 8 ∧ p.2.2 = 0 ∧ p.2.1 = numsV (numsTo fs0 j) ∧ ∀ m, m < j → m ≠ 1 → okNum (fs0.getD m []) = true) (fun p => 8 - p.1.toNat) (_, _, _) (weakI rfl ⟨rfl, rfl, rfl, rfl, rfl, rfl, trivial⟩ ⟨rfl, rfl, trivial⟩) ⟨0, rfl, by omega, h1, by rw [numsTo_zero]; rfl, fun m h => by omega⟩ ?_
   rintro ⟨i, x, ee⟩ ⟨j, hi, hj, hee, hx, ho⟩
   dsimp only at hi hx hee
   have hx8 : x.length = 8 := by rw [hx, numsV_len, numsTo_len]
   cbv
   refine condI hA (fun hc => ?_) (fun hc => ?_)
   ·have hjl : j < fs0.length := by have := ltT hA hc; rw [natEq hi] at this; omega
    cbv
    refine condI hA (fun k1 => ?_) (fun k1 => ?_)
    ·have k1 : j ≠ 1 := fun h => by rw [natEq hi, h, hA] at k1; simp [std] at k1
     cbv
     refine getLN hA hfs (natEq hi) hjl ?_
     rintro f hf
     have hf' : f = bytesV (fs0.getD j []) := by rw [hf, ok_at]
     cbv
     refine callI hA (cNumber12 _ f hf' (by have := getD_small b j; rw [← hfs0] at this; omega)) ?_
     intro rs_ h_
     obtain ⟨v, e2, q_1, hv, he2⟩ := h_
     subst q_1
     cbv
     refine inRI hA (by rw [natEq hi, hx8]; omega) ?_
     cbv
     refine inRI hA (by rw [natEq hi]; simp; omega) ?_
     cbv
     refine inRI hA (by rw [natEq hi, hx8]; omega) ?_
     cbv
     have hset := setN hA hx (natEq hi) (natEq hv)
     have hset2 := hset.trans (congrArg numsV (numsTo_set k1))
     refine condI hA (fun k2 => ?_) (fun k2 => ?_)
     ·have k2 := ine_err hA k2
      have q := bad fun h => k2 (he2.trans (okNum_lt (h.2.2.1 j (by omega) k1)).1)
      cbv
      refine retI hA ?_
      refine ⟨?_, ?_, trivial⟩
      ·rw [q.2.1, q.1]; rfl
      ·rw [q.2.2]; rfl
     ·have k2 := ine_ok hA k2
      cbv
      refine inRI hA (inR_of hset2 (natEq hi) (by rw [numsTo_len]; omega)) ?_
      cbv
      refine inRI hA (by rw [natEq hi]; simp; omega) ?_
      cbv
      refine getIN hA (numsV_at hset2 (natEq hi) (by rw [numsTo_len]; omega)) ?_
      rintro v2 hv2
      have hv2 : v2 = ((numberN (fs0.getD j []) : Nat) : Int) := by rw [natEq hv2, numsTo_at (by omega) k1]; rfl
      cbv
      refine condI hA (fun k3 => ?_) (fun k3 => ?_)
      ·have k3 := nGtT hA (c := 4294967295) rfl hv2 k3
       have q := bad fun h => by have := (okNum_lt (h.2.2.1 j (by omega) k1)).2; omega
       cbv
       refine retI hA ?_
       refine ⟨?_, ?_, trivial⟩
       ·rw [q.2.1, q.1]; rfl
       ·rw [q.2.2]; rfl
      ·have k3 := nGtF hA (c := 4294967295) rfl hv2 k3
       exact ⟨(_, _, _), weakI rfl ⟨rfl, rfl, rfl, rfl, rfl, rfl, trivial⟩ ⟨rfl, rfl, trivial⟩, ⟨j + 1, upI hA (natEq hi) (by omega), by omega, k2, hset2, okTo_succ ho fun _ => okNum_of (he2.symm.trans k2) (by omega)⟩, by rw [← hL]; exact upM hA (natEq hi) hjl (by omega)⟩
    ·have k1 : j = 1 := by rw [natEq hi, hA] at k1; simp [std] at k1; omega
     have hx' := hx
     subst k1
     rw [← numsTo_one] at hx'
     cbv
     refine condF hA (ine_no hA hee) ?_
     cbv
     refine inRI hA (by rw [natEq hi, hx8]; omega) ?_
     cbv
     refine inRI hA (by rw [natEq hi]; simp) ?_
     cbv
     refine getIN hA (numsV_at hx (natEq hi) (by rw [numsTo_len]; omega)) ?_
     rintro v2 hv2
     have hv2 : v2 = ((0 : Nat) : Int) := by rw [natEq hv2, numsTo_at1]
     cbv
     have k3 : A.ilt 4294967295 v2 = false := by rw [hA, hv2]; rfl
     refine condF hA k3 ?_
     cbv
     exact ⟨(_, _, _), weakI rfl ⟨rfl, rfl, rfl, rfl, rfl, rfl, trivial⟩ ⟨rfl, rfl, trivial⟩, ⟨2, upI hA (natEq hi) (by omega), by omega, hee, hx', okTo_succ ho fun h => absurd rfl h⟩, by rw [← hL]; exact upM hA (natEq hi) hjl (by omega)⟩
   ·have hj8 : j = 8 := by have := ltF hA hc; rw [natEq hi] at this; omega
    subst hj8
    cbv
    have hF : okNums fs0 := ho
    have w : ∀ m, m < 8 → m ≠ 1 → numF fs0 m < 4294967296 := fun m hm h1 => (okNum_lt (hF m hm h1)).2
    refine getLN hA hfs (j := 1) rfl (by omega) ?_
    rintro p1 hp1
    have hp1' : p1 = bytesV (fs0.getD 1 []) := by rw [hp1, ok_at]
    cbv
    refine callI hA (cStrings12 _ p1 hp1' (by have := getD_small b 1; rw [← hfs0] at this; omega)) ?_
    intro rs_ h_
    obtain ⟨pl, e3, q_1, hpl, he3⟩ := h_
    subst q_1
    cbv
    refine inRI hA (by rw [hx8]; decide) ?_
    cbv
    refine inRI hA (by decide) ?_
    cbv
    refine getIN hA (numsV_at hx (j := 0) rfl (by rw [numsTo_len]; omega)) ?_
    rintro v0 hv0
    cbv
    refine inRI hA (by rw [hx8]; decide) ?_
    cbv
    refine inRI hA (by decide) ?_
    cbv
    refine getIN hA (numsV_at hx (j := 2) rfl (by rw [numsTo_len]; omega)) ?_
    rintro v2 hv2
    cbv
    refine inRI hA (by rw [hx8]; decide) ?_
    cbv
    refine inRI hA (by decide) ?_
    cbv
    refine getIN hA (numsV_at hx (j := 3) rfl (by rw [numsTo_len]; omega)) ?_
    rintro v3 hv3
    cbv
    refine inRI hA (by rw [hx8]; decide) ?_
    cbv
    refine inRI hA (by decide) ?_
    cbv
    refine getIN hA (numsV_at hx (j := 4) rfl (by rw [numsTo_len]; omega)) ?_
    rintro v4 hv4
    cbv
    refine inRI hA (by rw [hx8]; decide) ?_
    cbv
    refine inRI hA (by decide) ?_
    cbv
    refine getIN hA (numsV_at hx (j := 5) rfl (by rw [numsTo_len]; omega)) ?_
    rintro v5 hv5
    cbv
    refine inRI hA (by rw [hx8]; decide) ?_
    cbv
    refine inRI hA (by decide) ?_
    cbv
    refine getIN hA (numsV_at hx (j := 6) rfl (by rw [numsTo_len]; omega)) ?_
    rintro v6 hv6
    cbv
    refine inRI hA (by rw [hx8]; decide) ?_
    cbv
    refine inRI hA (by decide) ?_
    cbv
    refine getIN hA (numsV_at hx (j := 7) rfl (by rw [numsTo_len]; omega)) ?_
    rintro v7 hv7
    cbv
    have hrec : RecOk (recOf fs0) := by rw [hfs0]; exact recOf_ok hb (hfs0 ▸ hF)
    have ek : A.wrap .u8 v0 = (recOf fs0).k := (wB hA hv0).trans (by rw [numsTo_at (by omega) (by omega)]; rfl)
    have es : A.wrap .i64 v2 = (recOf fs0).sz := by rw [wI hA hv2 (by rw [numsTo_at (by omega) (by omega)]; exact w 2 (by omega) (by omega)), numsTo_at (by omega) (by omega)]; rfl
    have em : A.wrap .u32 v3 = (recOf fs0).sm := by rw [wU hA hv3 (by rw [numsTo_at (by omega) (by omega)]; exact w 3 (by omega) (by omega)), numsTo_at (by omega) (by omega)]; rfl
    have ei : A.wrap .i64 v4 = (recOf fs0).mi := by rw [wI hA hv4 (by rw [numsTo_at (by omega) (by omega)]; exact w 4 (by omega) (by omega)), numsTo_at (by omega) (by omega)]; rfl
    have eo : A.wrap .i64 v5 = (recOf fs0).mo := by rw [wI hA hv5 (by rw [numsTo_at (by omega) (by omega)]; exact w 5 (by omega) (by omega)), numsTo_at (by omega) (by omega)]; rfl
    have ea : A.wrap .u32 v6 = (recOf fs0).si := by rw [wU hA hv6 (by rw [numsTo_at (by omega) (by omega)]; exact w 6 (by omega) (by omega)), numsTo_at (by omega) (by omega)]; rfl
    have eb : A.wrap .u32 v7 = (recOf fs0).so := by rw [wU hA hv7 (by rw [numsTo_at (by omega) (by omega)]; exact w 7 (by omega) (by omega)), numsTo_at (by omega) (by omega)]; rfl
    have er : (⟨A.wrap .u8 v0, unpackL (fs0.getD 1 []), A.wrap .i64 v2, A.wrap .u32 v3, A.wrap .i64 v4, A.wrap .i64 v5, A.wrap .u32 v6, A.wrap .u32 v7⟩ : RecM) = recOf fs0 := by rw [ek, es, em, ei, eo, ea, eb]; rfl
    refine callI hA (cPut12 ⟨A.wrap .u8 v0, unpackL (fs0.getD 1 []), A.wrap .i64 v2, A.wrap .u32 v3, A.wrap .i64 v4, A.wrap .i64 v5, A.wrap .u32 v6, A.wrap .u32 v7⟩ pl hpl (er ▸ hrec)) ?_
    intro rs_ h_
    obtain ⟨pb, e4, q_1, hpb, he4⟩ := h_
    subst q_1
    cbv
    rw [er] at hpb he4
    refine condI hA (fun z1 => ?_) (fun z1 => ?_)
    ·have z1 := ine_err hA z1
     have q := bad fun h => z1 (he3.trans h.2.2.2.1)
     cbv
     refine retI hA ?_
     refine ⟨?_, ?_, trivial⟩
     ·rw [q.2.1, q.1]; rfl
     ·rw [q.2.2]; rfl
    ·have z1 := ine_ok hA z1
     cbv
     refine condI hA (fun z2 => ?_) (fun z2 => ?_)
     ·have z2 := ine_err hA z2
      have q := bad fun h => z2 (he4.trans h.2.2.2.2.1)
      cbv
      refine retI hA ?_
      refine ⟨?_, ?_, trivial⟩
      ·rw [q.2.1, q.1]; rfl
      ·rw [q.2.2]; rfl
     ·have z2 := ine_ok hA z2
      cbv
      refine b2sN hA hpb ?_
      rintro s1 hs1
      cbv
      refine b2sN hA hl ?_
      rintro s2 hs2
      cbv
      refine condI hA (fun z3 => ?_) (fun z3 => ?_)
      ·have z3 : ¬ putB (recOf fs0) = b := sneT hA hs1 hs2 z3
       have q := bad fun h => z3 h.2.2.2.2.2
       cbv
       refine retI hA ?_
       refine ⟨?_, ?_, trivial⟩
       ·rw [q.2.1, q.1]; rfl
       ·rw [q.2.2]; rfl
      ·have z3 : putB (recOf fs0) = b := sneF hA hs1 hs2 z3
       have q := good ⟨hE, hL, hF, he3.symm.trans z1, he4.symm.trans z2, z3⟩
       cbv
       refine retI hA ?_
       refine ⟨?_, ?_, trivial⟩
       ·change some (V.agg [.int .u8 (A.wrap .u8 v0), .slice pl, .int .i64 (A.wrap .i64 v2), .int .u32 (A.wrap .u32 v3), .int .i64 (A.wrap .i64 v4), .int .i64 (A.wrap .i64 v5), .int .u32 (A.wrap .u32 v6), .int .u32 (A.wrap .u32 v7)]) = some (V.agg [.int .u8 g.k, .slice lp, .int .i64 g.sz, .int .u32 g.sm, .int .i64 g.mi, .int .i64 g.mo, .int .u32 g.si, .int .u32 g.so])
        rw [ek, es, em, ei, eo, ea, eb, hlp, q.1, hpl]; rfl
       ·rw [q.2]; rfl
open Go Go.RowKit
def growRen : Go.Shelf.Ren := ⟨fun | 4 => 127 | n => n, fun | 0 => 0 | 3 => 3 | 4 => 4 | 9 => 9 | 20 => 20 | 22 => 45 | 25 => 5 | n => n, fun n => n⟩
theorem growLays : Lays8.n4 Tryz.prog growRen where
 mixed := by kernel_rfl
 f4 := ⟨"slices.Grow[[]byte,byte]", rfl, (by kernel_rfl)⟩
 t0 := Tryz.underlying0
 a0 := Tryz.isAgg0
 z0 := Tryz.sizeOf0
 v0 := Tryz.zeroValue0
 t3 := Tryz.underlying3
 a3 := Tryz.isAgg3
 z3 := Tryz.sizeOf3
 v3 := Tryz.zeroValue3
 t4 := Tryz.underlying4
 a4 := Tryz.isAgg4
 z4 := Tryz.sizeOf4
 v4 := Tryz.zeroValue4
 t9 := Tryz.underlying9
 a9 := Tryz.isAgg9
 z9 := Tryz.sizeOf9
 v9 := Tryz.zeroValue9
 t20 := Tryz.underlying20
 a20 := Tryz.isAgg20
 z20 := Tryz.sizeOf20
 v20 := Tryz.zeroValue20
 t22 := Tryz.underlying45
 a22 := Tryz.isAgg45
 z22 := Tryz.sizeOf45
 v22 := Tryz.zeroValue45
theorem cGrow (v : Int) (n : Nat) (hv : v = n) (hn : n ≤ 1000000000) : CallR Tryz.prog 127 [.nils, .int .i64 v] fun rs => rs = [.o 1 []] := by
 refine ⟨_, ⟨⟨_, Tryz.func127, rfl, rfl⟩, fun w ok vs hok hl hr => ?_⟩, rfl⟩
 match vs, hl, hr with
 | [a, b], _, hr =>
  have h0 := hr 0 (by simp) (by simp)
  have h1 := hr 1 (by simp) (by simp)
  simp only [List.getElem_cons_zero, List.getElem_cons_succ] at h0 h1
  have ha : a = .slice none 0 0 := by cases h0; rfl
  have hb : b = .int .i64 v := rep_int h1
  subst ha hb hv
  rcases Nat.eq_zero_or_pos n with hz | hz
  ·subst hz
   refine (Any8.slices_Grow_room growLays none 0 0 0 w (by omega) (by omega) (by omega) (by omega)).mono fun e w' ⟨he, hw⟩ => ?_
   subst he hw
   exact ⟨[.slice none 0 0], [none], ok, rfl, Below.refl _ _, fun _ _ h => h, EnvEq.refl _, fun _ _ h => .inl h, rfl, rfl, fun i h _ _ => by
    match i, h with
    | 0, _ => exact .inl ⟨rfl, rfl, rfl⟩, fun i j b h1 _ => by
    match i, h1 with
    | 0, h1 => simp at h1⟩
  ·refine (Any8.slices_Grow_grow growLays Tryz.t5 (.int .u8 0) (by kernel_rfl) rfl (by decide) none 0 0 n [] w (by omega) (by omega) (by rw [show TypeInfo.bytes Tryz.t5 = 1 from rfl]; omega) (by omega) rfl (fun _ => rfl) (by simp)).mono fun e w' ⟨he, hw⟩ => ?_
   have hc := grownCap_ge w (0 + n) 0 (growRen.t 25)
   have hm := grownCap_le_maxLen w (0 + n) 0 (growRen.t 25) (by unfold maxLen; omega)
   obtain ⟨G, hG⟩ : ∃ G, G = grownCap w (0 + n) 0 (growRen.t 25) := ⟨_, rfl⟩
   rw [← hG] at he hw hc hm
   subst he
   refine ⟨[_], [some w.heap.size], ok, rfl, ?_, fun _ _ h => h, EnvEq.refl _, fun _ _ h => .inl h, rfl, rfl, fun i h _ _ => ?_, fun i j b h1 h2 => ?_⟩
   ·rw [hw]; exact ((Below.refl _ w).drew).alloc (Nat.le_refl _) _
   ·match i, h with
    | 0, _ =>
     refine .inr ⟨w.heap.size, G, _, _, rfl, Nat.le_refl _, rfl, by rw [hw]; exact heap_alloc_new w.drew _, ?_, Nat.zero_le _, hm, ⟨fun i h => by simp at h, fun i h => by simp at h, fun i h => by simp at h⟩, fun o ho => absurd (hok _ _ ho) (by omega)⟩
     simp [Builtin.zeroCells, Value.cells]
     omega
   ·match i, j, h1, h2 with
    | 0, 0, _, _ => rfl
    | 0, _ + 1, _, h2 => simp at h2
    | _ + 1, _, h1, _ => simp at h1
theorem flat_take {fs : List (List UInt8)} {j : Nat} (h : j < fs.length) : (fs.take (j + 1)).flatten = (fs.take j).flatten ++ fs[j] := by
 rw [List.take_succ_eq_append_getElem h, List.flatten_append]; simp
theorem flat_le {fs : List (List UInt8)} (j : Nat) : (fs.take j).flatten.length ≤ fs.flatten.length := by
 conv => rhs; rw [← List.take_append_drop j fs, List.flatten_append, List.length_append]
 omega
theorem addI {A : Prim} {P : Program} {R : List (Nat × AObj) → List D → Prop} (hA : A = std P R) {a b : Int} {m n : Nat} (ha : a = m) (hb : b = n) (hm : m + n ≤ 4000000000000000000) : A.wrap .i64 (A.add a b) = ((m + n : Nat) : Int) := by
 rw [hA, ha, hb]; simp only [std]
 rw [show (m : Int) + (n : Int) = ((m + n : Nat) : Int) from by simp]; exact wrap_i64 (by omega) (by omega)
theorem ltNat {A : Prim} {P : Program} {R : List (Nat × AObj) → List D → Prop} (hA : A = std P R) {a : Int} {m : Nat} (ha : a = m) : A.ilt a 0 = false := by
 rw [hA, ha]; simp only [std]; exact decide_eq_false (by omega)
theorem cConcat (fs : List (List UInt8)) (l : List V) (hl : l = listsV fs) (hfs : fs.length ≤ 1000000) (hb : fs.flatten.length ≤ 1000000000) : CallR Tryz.prog 99 [.slice l] fun rs => ∃ r, rs = [.v (.slice r)] ∧ r = bytesV fs.flatten := by
 obtain ⟨r, hr⟩ : ∃ r, r = bytesV fs.flatten := ⟨_, rfl⟩
 refine .of _ ⟨r, rfl, hr⟩ ?_
 refine FnR.of' T_ok M_ok (fn := Tryz.f99) (by kernel_rfl) rfl rfl rfl rfl (Nat.le_of_ble_eq_true rfl) fun A hA => ?_
 cbv
 refine loopF hA (ι := Int × Int) (fun p => { n := 36, sl := [(0, .v (.slice l)), (3, .v (.int .i64 p.2)), (9, .v (.slice l)), (10, .v (.int .i64 (A.lenL l))), (11, .v (.int .i64 p.1))], ob := [] })
  (fun p => ∃ j : Nat, p.1 = j ∧ j ≤ fs.length ∧ p.2 = ((fs.take j).flatten.length : Nat)) (fun p => fs.length - p.1.toNat) (_, _) (weakI rfl ⟨rfl, rfl, rfl, rfl, rfl, trivial⟩ trivial) ⟨0, rfl, Nat.zero_le _, rfl⟩ ?_
 rintro ⟨i, n⟩ ⟨j, hi, hj, hn⟩
 dsimp only at hi hn
 cbv
 refine condI hA (fun hc => ?_) (fun hc => ?_)
 ·have hjl := ltL hA (natEq hi) (lenLs hl) hc
  cbv
  refine getLN hA hl (natEq hi) hjl ?_
  rintro f hf
  cbv
  have hle := flat_le (fs := fs) (j + 1)
  rw [flat_take hjl, List.length_append] at hle
  have ha := addI hA (natEq hn) (lenI hA hf) (by omega)
  refine condF hA (ltNat hA ha) ?_
  cbv
  exact ⟨(_, _), weakI rfl ⟨rfl, rfl, rfl, rfl, rfl, trivial⟩ trivial, ⟨j + 1, upI hA (natEq hi) (by omega), hjl, ha.trans (by rw [flat_take hjl, List.length_append])⟩, upM hA (natEq hi) hjl (by omega)⟩
 ·have hjl := geL hA (natEq hi) (lenLs hl) hc hj
  cbv
  subst hjl
  rw [List.take_length] at hn
  refine callI hA (cGrow n _ (natEq hn) hb) ?_
  intro rs_ h_
  subst h_
  cbv
  clear hi hj hc hn
  refine loopF hA (ι := Int × List V) (fun p => { n := 36, sl := [(6, .own 33), (25, .v (.slice l)), (26, .v (.int .i64 (A.lenL l))), (27, .v (.int .i64 p.1))], ob := [(33, .row 1 p.2 true)] })
   (fun p => ∃ j : Nat, p.1 = j ∧ j ≤ fs.length ∧ p.2 = bytesV (fs.take j).flatten) (fun p => fs.length - p.1.toNat) (_, _) ((weak_ren _ 6 1192 33 1 _ true rfl rfl).trans (weakI rfl ⟨rfl, rfl, rfl, rfl, trivial⟩ ⟨rfl, trivial⟩)) ⟨0, rfl, Nat.zero_le _, rfl⟩ ?_
  rintro ⟨i, x⟩ ⟨j, hi, hj, hx⟩
  dsimp only at hi hx
  cbv
  refine condI hA (fun hc => ?_) (fun hc => ?_)
  ·have hjl := ltL hA (natEq hi) (lenLs hl) hc
   cbv
   refine getLN hA hl (natEq hi) hjl ?_
   rintro f hf
   cbv
   have hle := flat_le (fs := fs) (j + 1)
   rw [flat_take hjl, List.length_append] at hle
   refine sizedI hA (bytesV_flat hf) ?_
   cbv
   refine roomI hA (room_of hx hf (by omega)) ?_
   cbv
   exact ⟨(_, _), weakI rfl ⟨rfl, rfl, rfl, rfl, trivial⟩ ⟨rfl, trivial⟩, ⟨j + 1, upI hA (natEq hi) (by omega), hjl, (app_of hA hx hf).trans (by rw [flat_take hjl])⟩, upM hA (natEq hi) hjl (by omega)⟩
  ·have hjl := geL hA (natEq hi) (lenLs hl) hc hj
   cbv
   subst hjl
   rw [List.take_length] at hx
   refine retI hA ?_
   exact ⟨congrArg (fun q => some (V.slice q)) (hx.trans hr.symm), trivial⟩
open Go Go.RowKit
def tabV : List V := (List.range 256).map fun i => .int .u32 (eight i)
theorem c39 : CallR Tryz.prog 126 [] fun rs => ∃ l, rs = [.v (.agg l)] ∧ l = tabV := by
 refine ⟨[.v (.agg tabV)], ?_, _, rfl, rfl⟩
 generalize hl : tabV = l
 refine FnR.of' T_ok M_ok (fn := Tryz.f126) (by kernel_rfl) rfl rfl rfl rfl (Nat.le_of_ble_eq_true rfl) fun A hA => ?_
 cbv
 refine retI hA ?_
 simp only [retOk, rsOk, retIds, idsD, idsDs, softOb, toV, toVs, List.append_nil, List.nil_append, Option.some.injEq, V.int.injEq, V.bool.injEq, V.slice.injEq, V.agg.injEq, V.str.injEq, true_and, and_true, hA, std]
 subst hl
 kernel_rfl
theorem c20 (s : Int) (n : Nat) (hs : s = n) (hn : n < 4294967296) : CallR Tryz.prog 98 [.int .u32 s] fun rs => ∃ r : Int, rs = [.v (.int .u32 r)] ∧ r = (n ^^^ 4294967295 : Nat) := by
 obtain ⟨r, hr⟩ : ∃ r : Int, r = (n ^^^ 4294967295 : Nat) := ⟨_, rfl⟩
 refine ⟨[.v (.int .u32 r)], ?_, _, rfl, hr⟩
 refine FnR.of' T_ok M_ok (fn := Tryz.f98) (by kernel_rfl) rfl rfl rfl rfl (Nat.le_of_ble_eq_true rfl) fun A hA => ?_
 cbv
 refine retI hA ?_
 simp only [retOk, rsOk, retIds, idsD, idsDs, softOb, toV, toVs, List.append_nil, List.nil_append, Option.some.injEq, V.int.injEq, V.bool.injEq, V.slice.injEq, V.agg.injEq, V.str.injEq, true_and, and_true, hA, std]
 rw [hr, hs, inot_u32 n hn]
theorem c19 (s : Int) (n : Nat) (hs : s = n) (hn : n < 4294967296) : CallR Tryz.prog 125 [.int .u32 s] fun rs => ∃ r : Int, rs = [.v (.int .u32 r)] ∧ r = (n ^^^ 4294967295 : Nat) := by
 obtain ⟨r, hr⟩ : ∃ r : Int, r = (n ^^^ 4294967295 : Nat) := ⟨_, rfl⟩
 refine ⟨[.v (.int .u32 r)], ?_, _, rfl, hr⟩
 refine FnR.of' T_ok M_ok (fn := Tryz.f125) (by kernel_rfl) rfl rfl rfl rfl (Nat.le_of_ble_eq_true rfl) fun A hA => ?_
 cbv
 refine retI hA ?_
 simp only [retOk, rsOk, retIds, idsD, idsDs, softOb, toV, toVs, List.append_nil, List.nil_append, Option.some.injEq, V.int.injEq, V.bool.injEq, V.slice.injEq, V.agg.injEq, V.str.injEq, true_and, and_true, hA, std]
 rw [hr, hs, inot_u32 n hn]
theorem c21 : CallR Tryz.prog 95 [] fun rs => ∃ r : Int, rs = [.v (.int .u32 r)] ∧ r = (4294967295 : Nat) := by
 obtain ⟨r, hr⟩ : ∃ r : Int, r = (4294967295 : Nat) := ⟨_, rfl⟩
 refine ⟨[.v (.int .u32 r)], ?_, _, rfl, hr⟩
 refine FnR.of' T_ok M_ok (fn := Tryz.f95) (by kernel_rfl) rfl rfl rfl rfl (Nat.le_of_ble_eq_true rfl) fun A hA => ?_
 cbv
 refine callI hA (c19 0 0 rfl (by decide)) ?_
 rintro _ ⟨q, rfl, hq⟩
 cbv
 refine retI hA ?_
 simp only [retOk, rsOk, retIds, idsD, idsDs, softOb, toV, toVs, List.append_nil, List.nil_append, Option.some.injEq, V.int.injEq, V.bool.injEq, V.slice.injEq, V.agg.injEq, V.str.injEq, true_and, and_true, hA, std]
 rw [hq, hr]; rfl
theorem c22 (s : Int) (n : Nat) (b : List UInt8) (l : List V) (hs : s = n) (hn : n < 4294967296) (hl : l = bytesV b) (hb : b.length ≤ 140737488355328) : CallR Tryz.prog 96 [.int .u32 s, .slice l] fun rs => ∃ r : Int, rs = [.v (.int .u32 r)] ∧ r = (addN n b : Nat) := by
 obtain ⟨r, hr⟩ : ∃ r : Int, r = (addN n b : Nat) := ⟨_, rfl⟩
 refine ⟨[.v (.int .u32 r)], ?_, _, rfl, hr⟩
 have hlen : l.length = b.length := by rw [hl]; simp [bytesV]
 refine FnR.of' T_ok M_ok (fn := Tryz.f96) (by kernel_rfl) rfl rfl rfl rfl (Nat.le_of_ble_eq_true rfl) fun A hA => ?_
 cbv
 refine loopF hA (ι := Int × Int) (fun p => { n := 24, sl := [(0, .v (.int .u32 p.2)), (7, .v (.slice l)), (8, .v (.int .i64 (A.lenL l))), (9, .v (.int .i64 p.1))], ob := [] })
  (fun p => ∃ j : Nat, p.1 = j ∧ j ≤ b.length ∧ p.2 = (addN n (b.take j) : Nat)) (fun p => b.length - p.1.toNat) (_, _) (weakI rfl ⟨rfl, rfl, rfl, rfl, trivial⟩ trivial) ⟨0, rfl, Nat.zero_le _, by simpa [addN] using hs⟩ ?_
 rintro ⟨i, x⟩ ⟨j, hi, hj, hx⟩
 replace hi : i = (j : Int) := hi
 replace hx : x = ((addN n (b.take j) : Nat) : Int) := hx
 cbv
 refine condI hA (fun hc => ?_) (fun hc => ?_)
 ·have hjl : j < b.length := by
   rw [hA] at hc
   simp only [std, decide_eq_true_eq, hlen] at hc
   rw [hi] at hc
   exact_mod_cast hc
  cbv
  obtain ⟨c, hcv⟩ : ∃ c : Int, c = ((b[j]'hjl).toNat : Nat) := ⟨_, rfl⟩
  have hc256 := (b[j]'hjl).toNat_lt
  refine getII hA c (by rw [hcv]; exact bytesV_at hl hi hjl) ?_
  cbv
  refine callI hA c39 ?_
  rintro _ ⟨t, rfl, ht⟩
  cbv
  have hxlt := addN_lt hn (b.take j)
  have hidx : A.bits .xor .u8 (A.wrap .u8 x) c = ((addN n (b.take j) % 256 ^^^ (b[j]'hjl).toNat : Nat) : Int) := by
   rw [hA, hx, hcv]
   simp only [std]
   have : IntKind.u8.wrap ((addN n (b.take j) : Nat) : Int) = ((addN n (b.take j) % 256 : Nat) : Int) := by
    simp only [IntKind.wrap, IntKind.bits, IntKind.signed, Bool.false_and, Bool.false_eq_true, if_false]
    omega
   rw [this, bits_xor_u8_nat _ _ (by omega) (by omega)]
  have hilt : addN n (b.take j) % 256 ^^^ (b[j]'hjl).toNat < 256 := Nat.xor_lt_two_pow (n := 8) (by omega) (by omega)
  refine inRI hA (by
   change 0 ≤ A.bits .xor .u8 (A.wrap .u8 x) c ∧ A.bits .xor .u8 (A.wrap .u8 x) c < _
   rw [hidx]; simp; omega) ?_
  cbv
  obtain ⟨e, he⟩ : ∃ e : Int, e = (eight (addN n (b.take j) % 256 ^^^ (b[j]'hjl).toNat) : Nat) := ⟨_, rfl⟩
  refine getII hA e (by
   change 0 ≤ A.bits .xor .u8 (A.wrap .u8 x) c ∧ t[(A.bits .xor .u8 (A.wrap .u8 x) c).toNat]? = _
   rw [hidx, ht, he]
   simp [tabV, hilt]) ?_
  cbv
  refine nnegI hA (by decide) ?_
  cbv
  have hi2 : i = Int.ofNat j := hi
  rw [Int.ofNat_eq_natCast] at hi2
  refine ⟨(_, _), weakI rfl ⟨rfl, rfl, rfl, rfl, trivial⟩ trivial, ⟨j + 1, ?_, hjl, ?_⟩, ?_⟩
  ·change A.wrap .i64 (A.add i 1) = _
   rw [hA, hi2]; simp only [std]
   rw [wrap_i64 (by omega) (by omega)]; rfl
  ·change A.bits .xor .u32 e (A.shr .u32 x 8) = _
   rw [addN_take hjl, step_eq _ _ hc256, hA, he, hx]
   simp only [std]
   rw [shr_u32, bits_xor_u32_nat _ _ (show eight _ < _ from ones_lt 8 (by omega)) (by omega)]
   rfl
  ·change b.length - (A.wrap .i64 (A.add i 1)).toNat < b.length - i.toNat
   rw [hA, hi2]; simp only [std]
   rw [wrap_i64 (by omega) (by omega)]; omega
 ·have hjl : j = b.length := by
   rw [hA] at hc
   simp only [std, decide_eq_false_iff_not, hlen] at hc
   rw [hi] at hc
   have : ¬ j < b.length := fun h => hc (by exact_mod_cast h)
   omega
  cbv
  refine retI hA ?_
  simp only [retOk, rsOk, retIds, idsD, idsDs, softOb, toV, toVs, List.append_nil, List.nil_append, Option.some.injEq, V.int.injEq, V.bool.injEq, V.slice.injEq, V.agg.injEq, V.str.injEq, true_and, and_true, hA, std]
  rw [hr, hx, hjl, List.take_length]
end Go.Proofs.YthioccbgjkbmdaaGreat.AM
