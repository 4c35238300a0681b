/-
 Contracts: pack, part 3: fields packed.
-/
import Derived.Test.YthioccbgjkbmdaaGreatM176157ca52
set_option linter.unusedVariables false
set_option linter.unusedSimpArgs false
set_option maxRecDepth 100000
set_option maxHeartbeats 4000000
namespace Go.Proofs.YthioccbgjkbmdaaGreat.AM
open Go Go.RowKit
def Env.ren (E : Env) (i j : Nat) : Env :=
 { blk := fun k => if k = j then E.blk i else E.blk k, ha := fun k => if k = j then E.ha i else E.ha k, hl := fun k => if k = j then E.hl i else E.hl k, hc := fun k => if k = j then E.hc i else E.hc k }
theorem weak_ren (S : St) (t i j z : Nat) (l : List V) (ex : Bool) (ht : S.get t = .own i) (ho : look S.ob i = some (.row z l ex)) : Weak S ((({ S with ob := remOb i S.ob } : St).new j (.row z l ex)).put (some t) (.own j)) := fun G E ok a w c => by
 have c1 := c.rem i
 have h1 := c.slot t
 rw [ht] at h1
 have h0 := c.obj _ _ ho
 have c2 := c1.add (E' := E.ren i j) j (.row z l ex) (fun k hk => by simp [Env.ren, Env.hdr, hk]) (by
   simp only [unOb, ObjRep] at *
   simpa [RowRep, Env.ren, Env.hdr] using h0) (fun b hb => by
   have hb : E.blk i = some b := by simpa [Env.ren] using hb
   refine ⟨fun k p hk hp hq => ?_, c.regL ho (by simp [AObj.isHeap]) hb⟩
   rw [look_remOb] at hp
   split at hp
   ·cases hp
   ·rename_i hki
    exact c.apart k i _ _ b hp ho hki hq hb)
 refine ⟨_, ok, c2.refine (t := t) ?_⟩
 have inv : ∀ u, RepD E ok w (.own i) u → u = E.hdr i := fun u h => by cases h; rfl
 rw [inv _ h1]
 have h2 := RepD.own (E := E.ren i j) (ok := ok) (w := w) j
 have e : (E.ren i j).hdr j = E.hdr i := by simp [Env.ren, Env.hdr]
 rw [e] at h2
 exact h2
def bigM (f : List UInt8) : Bool := decide ((1024 : Int) < f.length)
def packL (fs : List (List UInt8)) : List UInt8 := fs.flatMap fun f => UInt8.ofNat (f.length / 256 % 256) :: UInt8.ofNat (f.length % 256) :: f
def packB (fs : List (List UInt8)) : List UInt8 := if fs.any bigM then [] else packL fs
def packE (fs : List (List UInt8)) : Int := if fs.any bigM then 5 else 0
theorem packL_take {fs : List (List UInt8)} {j : Nat} (h : j < fs.length) : packL (fs.take (j + 1)) = packL (fs.take j) ++ (UInt8.ofNat (fs[j].length / 256 % 256) :: UInt8.ofNat (fs[j].length % 256) :: fs[j]) := by
 unfold packL
 rw [List.take_succ_eq_append_getElem h, List.flatMap_append]; simp
theorem packL_len {fs : List (List UInt8)} (h : ∀ f ∈ fs, bigM f = false) : (packL fs).length ≤ fs.length * 1026 := by
 induction fs with
 | nil => simp [packL]
 | cons f r ih =>
  have h1 := ih fun g hg => h g (List.mem_cons_of_mem _ hg)
  have h2 := h f (by simp)
  unfold bigM at h2
  have h3 := of_decide_eq_false h2
  unfold packL at *
  rw [List.flatMap_cons, List.length_append]
  simp only [List.length_cons]
  omega
theorem cBig (f : List UInt8) (l : List V) (hl : l = bytesV f) : CallR Tryz.prog 124 [.slice l] fun rs => ∃ c, rs = [.v (.bool c)] ∧ c = bigM f := by
 obtain ⟨c, hcv⟩ : ∃ c, c = bigM f := ⟨_, rfl⟩
 refine .of _ ⟨c, rfl, hcv⟩ ?_
 refine FnR.of' T_ok M_ok (fn := Tryz.f124) (by kernel_rfl) rfl rfl rfl rfl (Nat.le_of_ble_eq_true rfl) fun A hA => ?_
 cbv
 refine retI hA ?_
 simp only [retOk, rsOk, retIds, idsD, idsDs, softOb, toV, Option.some.injEq, V.bool.injEq, and_true]
 rw [hcv, hA, hl]; simp only [std, bigM, bytesV_len]
theorem cIdxB (ss : List (List UInt8)) (l : List V) (hl : l = listsV ss) (hs : ss.length ≤ 140737488355328) : CallR Tryz.prog 137 [.slice l, .clo 124 []] fun rs => ∃ r : Int, rs = [.v (.int .i64 r)] ∧ r = idxM bigM ss := by
 obtain ⟨r, hr⟩ : ∃ r, r = idxM bigM ss := ⟨_, rfl⟩
 refine .of _ ⟨r, rfl, hr⟩ ?_
 refine FnR.of' T_ok M_ok (fn := Tryz.f137) (by kernel_rfl) rfl rfl rfl rfl (Nat.le_of_ble_eq_true rfl) fun A hA => ?_
 cbv
 refine loopF hA (ι := Int) (fun i => { n := 19, sl := [(0, .v (.slice l)), (1, .v (.clo 124 [])), (7, .v (.int .i64 (A.lenL l))), (8, .v (.int .i64 i))], ob := [] })
  (fun i => ∃ j : Nat, i = j ∧ j ≤ ss.length ∧ ∀ m (hm : m < ss.length), m < j → bigM ss[m] = false) (fun i => ss.length - i.toNat) 0 (weakI rfl ⟨rfl, rfl, rfl, rfl, trivial⟩ trivial) ⟨0, rfl, Nat.zero_le _, fun _ _ h => by omega⟩ ?_
 rintro i ⟨j, hi, hj, hb⟩
 cbv
 refine condI hA (fun hc => ?_) (fun hc => ?_)
 ·have hjl := ltL hA (natEq hi) (lenLs hl) hc
  cbv
  refine getLN hA hl (natEq hi) hjl ?_
  rintro x hx
  cbv
  refine callI hA (cBig _ x hx) ?_
  intro rs_ h_
  obtain ⟨c, q_1, hcv⟩ := h_
  subst q_1
  cbv
  refine condI hA (fun h2 => ?_) (fun h2 => ?_)
  ·cbv
   refine retI hA ?_
   simp only [retOk, rsOk, retIds, idsD, idsDs, softOb, toV, Option.some.injEq, V.int.injEq, true_and, and_true]
   rw [hr, natEq hi]
   exact (idxM_some hjl (hcv.symm.trans h2) hb).symm
  ·refine ⟨_, weakI rfl ⟨rfl, rfl, rfl, rfl, trivial⟩ trivial, ⟨j + 1, upI hA (natEq hi) (by omega), hjl, fun m hm hmj => ?_⟩, upM hA (natEq hi) hjl hs⟩
   by_cases e : m = j
   ·subst e; exact hcv.symm.trans h2
   ·exact hb m hm (by omega)
 ·have hjl := geL hA (natEq hi) (lenLs hl) hc hj
  cbv
  refine retI hA ?_
  simp only [retOk, rsOk, retIds, idsD, idsDs, softOb, toV, Option.some.injEq, V.int.injEq, true_and, and_true]
  rw [hr]
  exact (idxM_none fun m hm => hb m hm (by omega)).symm
theorem cContB (ss : List (List UInt8)) (l : List V) (hl : l = listsV ss) (hs : ss.length ≤ 140737488355328) : CallR Tryz.prog 123 [.slice l, .clo 124 []] fun rs => ∃ c, rs = [.v (.bool c)] ∧ c = ss.any bigM := by
 obtain ⟨c, hcv⟩ : ∃ c, c = ss.any bigM := ⟨_, rfl⟩
 refine .of _ ⟨c, rfl, hcv⟩ ?_
 refine FnR.of' T_ok M_ok (fn := Tryz.f123) (by kernel_rfl) rfl rfl rfl rfl (Nat.le_of_ble_eq_true rfl) fun A hA => ?_
 cbv
 refine callI hA (cIdxB ss l hl hs) ?_
 intro rs_ h_
 obtain ⟨r, q_1, hr⟩ := h_
 subst q_1
 cbv
 refine retI hA ?_
 simp only [retOk, rsOk, retIds, idsD, idsDs, softOb, toV, Option.some.injEq, V.bool.injEq, and_true]
 rw [hcv, hA, hr]; exact idxM_any bigM ss
theorem any_take {α : Type} {p : α → Bool} {l : List α} (h : l.any p = false) : ∀ x ∈ l, p x = false := fun x hx => by
 rw [List.any_eq_false] at h; simpa using h x hx
theorem shr_u16_8 (a : Nat) : Int.fdiv (a : Int) (2 ^ (min (Int.toNat 8) IntKind.u16.bits)) = ((a / 256 : Nat) : Int) := by
 have : (2 : Int) ^ (min (Int.toNat 8) IntKind.u16.bits) = ((256 : Nat) : Int) := by decide
 rw [this, Int.fdiv_eq_ediv_of_nonneg _ (by omega)]
 rfl
theorem wrap_u16 {n : Nat} (h : n < 65536) : IntKind.u16.wrap (n : Int) = (n : Int) := by
 simp only [IntKind.wrap, IntKind.bits, IntKind.signed, Bool.false_and, Bool.false_eq_true, if_false]
 omega
theorem room_of {x y : List V} {a b : List UInt8} (hx : x = bytesV a) (hy : y = bytesV b) (h : a.length + b.length ≤ 140737488355328) : (x.length + y.length) * 1 ≤ 140737488355328 ∧ 0 < 1 := by
 rw [hx, hy, bytesV_len, bytesV_len]; omega
theorem app_of {A : Prim} {P : Program} {R : List (Nat × AObj) → List D → Prop} (hA : A = std P R) {x y : List V} {a b : List UInt8} (hx : x = bytesV a) (hy : y = bytesV b) : A.app x y = bytesV (a ++ b) := by
 rw [hA]; simp only [std]; rw [hx, hy, bytesV_app]
theorem cPack (fs : List (List UInt8)) (l : List V) (hl : l = listsV fs) (hfs : fs.length ≤ 1000000) : CallR Tryz.prog 94 [.slice l] fun rs => ∃ (r : List V) (e : Int), rs = [.v (.slice r), .v (.int .i64 e)] ∧ r = bytesV (packB fs) ∧ e = packE fs := by
 obtain ⟨r, hr⟩ : ∃ r, r = bytesV (packB fs) := ⟨_, rfl⟩
 obtain ⟨e, he⟩ : ∃ e, e = packE fs := ⟨_, rfl⟩
 refine .of [.v (.slice r), .v (.int .i64 e)] ⟨r, e, rfl, hr, he⟩ ?_
 refine FnR.of' T_ok M_ok (fn := Tryz.f94) (by kernel_rfl) rfl rfl rfl rfl (Nat.le_of_ble_eq_true rfl) fun A hA => ?_
 cbv
 refine callI hA (cContB fs l hl (by omega)) ?_
 intro rs_ h_
 obtain ⟨c, q_1, hc⟩ := h_
 subst q_1
 cbv
 refine condI hA (fun h1 => ?_) (fun h1 => ?_)
 ·have h1 := hc.symm.trans h1
  cbv
  refine retI hA ?_
  simp only [retOk, rsOk, retIds, idsD, idsDs, softOb, toV, Option.some.injEq, V.int.injEq, V.slice.injEq, true_and, and_true]
  rw [hr, he]; simp [packB, packE, h1, bytesV]
 ·have h1 := hc.symm.trans h1
  have hb := any_take h1
  cbv
  refine loopF hA (ι := Int × List V) (fun p => { n := 31, sl := [(4, .own 28), (10, .v (.slice l)), (11, .v (.int .i64 (A.lenL l))), (12, .v (.int .i64 p.1))], ob := [(28, .row 1 p.2 true)] })
   (fun p => ∃ j : Nat, p.1 = j ∧ j ≤ fs.length ∧ p.2 = bytesV (packL (fs.take j))) (fun p => fs.length - p.1.toNat) (_, _) ((weak_nils _ 4 28 1 true rfl).trans (weakI rfl ⟨rfl, rfl, rfl, rfl, trivial⟩ ⟨rfl, trivial⟩)) ⟨0, rfl, Nat.zero_le _, rfl⟩ ?_
  rintro ⟨i, x⟩ ⟨j, hi, hj, hx⟩
  dsimp only at hi hx
  cbv
  refine condI hA (fun hc => ?_) (fun hc => ?_)
  ·have hjl := ltL hA (natEq hi) (lenLs hl) hc
   have hbj := hb _ (List.getElem_mem hjl)
   have hf1 : fs[j].length ≤ 1024 := by
    unfold bigM at hbj; have := of_decide_eq_false hbj; omega
   have hal : (packL (fs.take j)).length ≤ j * 1026 := by
    have := packL_len (fs := fs.take j) fun f hf => hb f (List.mem_of_mem_take hf)
    rw [List.length_take, Nat.min_eq_left (by omega)] at this; exact this
   cbv
   refine getLN hA hl (natEq hi) hjl ?_
   rintro f hf
   cbv
   refine nnegI hA (by decide) ?_
   cbv
   have hfl : A.lenL f = (fs[j].length : Nat) := by rw [hA]; simp only [std]; rw [hf, bytesV_len]
   have k1 : [V.int .u8 (A.wrap .u8 (A.shr .u16 (A.wrap .u16 (A.lenL f)) 8)), .int .u8 (A.wrap .u8 (A.wrap .u16 (A.lenL f)))] = bytesV [UInt8.ofNat (fs[j].length / 256 % 256), UInt8.ofNat (fs[j].length % 256)] := by
    rw [hfl, hA]
    simp only [std]
    rw [wrap_u16 (by omega), shr_u16_8, wrap_u8, wrap_u8, byteV (n := fs[j].length / 256) rfl, byteV (n := fs[j].length) rfl]
    rfl
   refine roomI hA (room_of hx k1 (by simp; omega)) ?_
   cbv
   have k2 : A.app x [V.int .u8 (A.wrap .u8 (A.shr .u16 (A.wrap .u16 (A.lenL f)) 8)), .int .u8 (A.wrap .u8 (A.wrap .u16 (A.lenL f)))] = bytesV (packL (fs.take j) ++ [UInt8.ofNat (fs[j].length / 256 % 256), UInt8.ofNat (fs[j].length % 256)]) := app_of hA hx k1
   refine sizedI hA (bytesV_flat hf) ?_
   cbv
   refine roomI hA (room_of k2 hf (by simp; omega)) ?_
   cbv
   refine ⟨(_, _), weakI rfl ⟨rfl, rfl, rfl, rfl, trivial⟩ ⟨rfl, trivial⟩, ⟨j + 1, upI hA (natEq hi) (by omega), hjl, ?_⟩, upM hA (natEq hi) hjl (by omega)⟩
   refine (app_of hA k2 hf).trans ?_
   rw [packL_take hjl]; simp
  ·have hjl := geL hA (natEq hi) (lenLs hl) hc hj
   cbv
   refine retI hA ?_
   subst hjl
   rw [List.take_length] at hx
   refine ⟨congrArg (fun q => some (V.slice q)) ?_, congrArg (fun q => some (V.int .i64 q)) ?_, trivial⟩
   ·rw [hx, hr]; simp [packB, h1]
   ·rw [he]; simp [packE, h1]
open Go Go.RowKit
theorem mkL_of {A : Prim} {P : Program} {R : List (Nat × AObj) → List D → Prop} (hA : A = std P R) {l : List V} {n b : Nat} (hl : l.length = n) (hn : n ≤ 1000000) (hb : b ≤ 1000) : 0 ≤ A.lenL l ∧ A.lenL l ≤ A.lenL l ∧ A.lenL l ≤ 140737488355328 ∧ A.lenL l * b ≤ 140737488355328 := by
 have e : A.lenL l = (n : Int) := by rw [hA]; simp only [std]; rw [hl]
 rw [e]
 refine ⟨by omega, Int.le_refl _, by omega, ?_⟩
 have : n * b ≤ 1000000 * 1000 := Nat.mul_le_mul hn hb
 have h2 : (n : Int) * (b : Int) = ((n * b : Nat) : Int) := by simp
 rw [h2]; omega
theorem cTexts (ps : List (List UInt8)) (l : List V) (hl : l = strsV ps) (hps : ps.length ≤ 1000000) (hp : ∀ p ∈ ps, p.length ≤ 140737488355328) : CallR Tryz.prog 91 [.slice l] fun rs => ∃ (r : List V) (e : Int), rs = [.v (.slice r), .v (.int .i64 e)] ∧ r = bytesV (packB ps) ∧ e = packE ps := by
 obtain ⟨r, hr⟩ : ∃ r, r = bytesV (packB ps) := ⟨_, rfl⟩
 obtain ⟨e, he⟩ : ∃ e, e = packE ps := ⟨_, rfl⟩
 refine .of [.v (.slice r), .v (.int .i64 e)] ⟨r, e, rfl, hr, he⟩ ?_
 refine FnR.of' T_ok M_ok (fn := Tryz.f91) (by kernel_rfl) rfl rfl rfl rfl (Nat.le_of_ble_eq_true rfl) fun A hA => ?_
 cbv
 have hlen := lenS' hl
 refine mkSI hA (mkL_of hA hlen hps (by decide)) ?_
 cbv
 have hrep : A.repl (A.lenL l) (.slice []) = List.replicate ps.length (.slice []) := by rw [hA]; simp only [std]; rw [hlen]; simp
 refine loopF hA (ι := Int × List V) (fun p => { n := 27, sl := [(4, .own 9), (10, .v (.slice l)), (11, .v (.int .i64 (A.lenL l))), (12, .v (.int .i64 p.1))], ob := [(9, .row 1 p.2 true)] })
  (fun p => ∃ j : Nat, p.1 = j ∧ j ≤ ps.length ∧ p.2 = listsV (ps.take j) ++ List.replicate (ps.length - j) (.slice [])) (fun p => ps.length - p.1.toNat) (_, _) (weakI rfl ⟨rfl, rfl, rfl, rfl, trivial⟩ ⟨rfl, trivial⟩) ⟨0, rfl, Nat.zero_le _, by simpa [listsV] using hrep⟩ ?_
 rintro ⟨i, x⟩ ⟨j, hi, hj, hx⟩
 dsimp only at hi hx
 cbv
 refine condI hA (fun hc => ?_) (fun hc => ?_)
 ·have hjl := ltL hA (natEq hi) hlen hc
  cbv
  refine getSN hA hl (natEq hi) hjl ?_
  rintro s hs
  cbv
  refine catOkI hA (by rw [hs]; have := hp _ (List.getElem_mem hjl); simp; omega) ?_
  cbv
  have hxl : x.length = ps.length := by rw [hx]; simp [listsV]; omega
  refine inRI hA (by rw [natEq hi, hxl]; omega) ?_
  cbv
  refine inRI hA (by rw [natEq hi, hxl]; omega) ?_
  cbv
  refine ⟨(_, _), weakI rfl ⟨rfl, rfl, rfl, rfl, trivial⟩ ⟨rfl, trivial⟩, ⟨j + 1, upI hA (natEq hi) (by omega), hjl, ?_⟩, upM hA (natEq hi) hjl (by omega)⟩
  change A.setL x i (.slice (A.s2b s)) = _
  rw [hA, natEq hi, hx, hs]
  simp only [std, Int.toNat_natCast]
  have e1 : ps.length - j = ps.length - (j + 1) + 1 := by omega
  have e2 : (listsV (ps.take j)).length = j := by rw [listsV_len, List.length_take]; omega
  rw [List.set_append_right _ _ (by omega), e2, Nat.sub_self, e1, List.replicate_succ, List.set_cons_zero, List.take_succ_eq_append_getElem hjl]
  simp only [listsV, List.map_append, List.map_cons, List.map_nil, List.append_assoc, List.cons_append, List.nil_append]
 ·have hjl := geL hA (natEq hi) hlen hc hj
  cbv
  subst hjl
  rw [List.take_length, Nat.sub_self, List.replicate_zero, List.append_nil] at hx
  refine callI hA (cPack ps x hx hps) ?_
  intro rs_ h_
  obtain ⟨r2, e2, q_1, hr2, he2⟩ := h_
  subst q_1
  cbv
  refine retI hA ?_
  exact ⟨congrArg (fun q => some (V.slice q)) (hr2.trans hr.symm), congrArg (fun q => some (V.int .i64 q)) (he2.trans he.symm), trivial⟩
def numsV (ns : List Nat) : List V := ns.map fun (n : Nat) => V.int .u64 (n : Int)
structure RecOk (a : RecM) : Prop where
 k0 : 0 ≤ a.k
 k1 : a.k ≤ 255
 sm0 : 0 ≤ a.sm
 sm1 : a.sm ≤ 4294967295
 si0 : 0 ≤ a.si
 si1 : a.si ≤ 4294967295
 so0 : 0 ≤ a.so
 so1 : a.so ≤ 4294967295
 pl : a.path.length ≤ 140737488355328
 ps : ∀ p ∈ a.path, p.length ≤ 140737488355328
def numsOf (a : RecM) : List Nat := [a.sz.toNat, a.sm.toNat, a.mi.toNat, a.mo.toNat, a.si.toNat, a.so.toNat]
theorem path_rng {p : List (List UInt8)} (h : pathOk p = true) : p.length ≤ 8 ∧ ∀ q ∈ p, q.length ≤ 48 := by
 unfold pathOk at h
 simp only [Bool.and_eq_true, Bool.not_eq_true', inM, decide_eq_true_eq] at h
 refine ⟨by omega, fun q hq => ?_⟩
 have := any_take h.2 q hq
 simp only [badM, inM, Bool.not_eq_false', Bool.and_eq_true, decide_eq_true_eq] at this
 omega
theorem check_rng {a : RecM} (h : checkM a = true) : (0 ≤ a.sz ∧ a.sz ≤ 24576) ∧ (0 ≤ a.mi ∧ a.mi ≤ 24576) ∧ (0 ≤ a.mo ∧ a.mo ≤ 24576) ∧ (1 ≤ a.k ∧ a.k ≤ 3) ∧ a.path.length ≤ 8 ∧ ∀ q ∈ a.path, q.length ≤ 48 := by
 unfold checkM at h
 split at h
 ·rename_i hk
  simp only [Bool.and_eq_true, markZ, inM, beq_iff_eq, decide_eq_true_eq] at h
  obtain ⟨h1, ⟨h2, h3⟩, h4, h5, h6, h7⟩ := h
  exact ⟨⟨by omega, by omega⟩, ⟨by omega, by omega⟩, ⟨by omega, by omega⟩, ⟨by omega, by omega⟩, path_rng h1⟩
 ·split at h
  ·rename_i hk
   simp only [Bool.and_eq_true, inM, beq_iff_eq, decide_eq_true_eq] at h
   obtain ⟨h1, h2, h3, ⟨h4, h5⟩, h6, h7⟩ := h
   exact ⟨⟨by omega, by omega⟩, ⟨by omega, by omega⟩, ⟨by omega, by omega⟩, ⟨by omega, by omega⟩, by simp [h1], by simp [h1]⟩
  ·split at h
   ·rename_i hk
    simp only [Bool.and_eq_true, markZ, beq_iff_eq] at h
    obtain ⟨h1, h2, h3, h4, h5, h6, h7⟩ := h
    exact ⟨⟨by omega, by omega⟩, ⟨by omega, by omega⟩, ⟨by omega, by omega⟩, ⟨by omega, by omega⟩, by simp [h1], by simp [h1]⟩
   ·cases h
theorem wrap_u64 {n : Int} (h0 : 0 ≤ n) (h1 : n ≤ 18446744073709551615) : IntKind.u64.wrap n = ((n.toNat : Nat) : Int) := by
 simp only [IntKind.wrap, IntKind.bits, IntKind.signed, Bool.false_and, Bool.false_eq_true, if_false]
 omega
theorem cNumbers (a : RecM) (l : List V) (hr : RecOk a) (h1 : 0 ≤ a.sz ∧ a.sz ≤ 24576) (h2 : 0 ≤ a.mi ∧ a.mi ≤ 24576) (h3 : 0 ≤ a.mo ∧ a.mo ≤ 24576) : CallR Tryz.prog 93 [.agg [.int .u8 a.k, .slice l, .int .i64 a.sz, .int .u32 a.sm, .int .i64 a.mi, .int .i64 a.mo, .int .u32 a.si, .int .u32 a.so]] fun rs => ∃ r : List V, rs = [.v (.slice r)] ∧ r = numsV (numsOf a) := by
 obtain ⟨r, hrr⟩ : ∃ r, r = numsV (numsOf a) := ⟨_, rfl⟩
 refine .of [.v (.slice r)] ⟨r, rfl, hrr⟩ ?_
 obtain ⟨k, p, sz, sm, mi, mo, si, so⟩ := a
 obtain ⟨k0, k1, sm0, sm1, si0, si1, so0, so1, pl, ps⟩ := hr
 dsimp only at *
 refine FnR.of' T_ok M_ok (fn := Tryz.f93) (by kernel_rfl) rfl rfl rfl rfl (Nat.le_of_ble_eq_true rfl) fun A hA => ?_
 cbv
 refine retI hA ?_
 refine ⟨congrArg (fun q => some (V.slice q)) ?_, trivial⟩
 rw [hrr, hA]
 simp only [std]
 rw [wrap_u64 h1.1 (by omega), wrap_u64 sm0 (by omega), wrap_u64 h2.1 (by omega), wrap_u64 h3.1 (by omega), wrap_u64 si0 (by omega), wrap_u64 so0 (by omega)]
 rfl
open Go Go.RowKit
def fieldsM (a : RecM) : List (List UInt8) := numB a.k.toNat :: packL a.path :: (numsOf a).map numB
def putB (a : RecM) : List UInt8 := if checkM a then packL (fieldsM a) else []
def putE (a : RecM) : Int := if checkM a then 0 else 2
theorem big_of {f : List UInt8} (h : f.length ≤ 1024) : bigM f = false := by unfold bigM; exact decide_eq_false (by omega)
theorem any_of {α : Type} {p : α → Bool} {l : List α} (h : ∀ x ∈ l, p x = false) : l.any p = false := by
 rw [List.any_eq_false]; exact fun x hx => by simp [h x hx]
theorem path_small {p : List (List UInt8)} (h : p.length ≤ 8 ∧ ∀ q ∈ p, q.length ≤ 48) : (packL p).length ≤ 400 := by
 have : ∀ p : List (List UInt8), (∀ q ∈ p, q.length ≤ 48) → (packL p).length ≤ p.length * 50 := by
  intro p
  induction p with
  | nil => intro _; simp [packL]
  | cons f r ih =>
   intro h
   have h1 := ih fun g hg => h g (List.mem_cons_of_mem _ hg)
   have h2 := h f (by simp)
   unfold packL at *
   rw [List.flatMap_cons, List.length_append]
   simp only [List.length_cons]
   omega
 have := this p h.2
 omega
theorem nums_lt {a : RecM} (hr : RecOk a) (h1 : 0 ≤ a.sz ∧ a.sz ≤ 24576) (h2 : 0 ≤ a.mi ∧ a.mi ≤ 24576) (h3 : 0 ≤ a.mo ∧ a.mo ≤ 24576) : ∀ n ∈ numsOf a, n < 18446744073709551616 := by
 obtain ⟨k0, k1, sm0, sm1, si0, si1, so0, so1, pl, ps⟩ := hr
 intro n hn
 simp only [numsOf, List.mem_cons, List.not_mem_nil, or_false] at hn
 rcases hn with rfl | rfl | rfl | rfl | rfl | rfl <;> omega
theorem fields_small {a : RecM} (hr : RecOk a) (h : checkM a = true) : ∀ f ∈ fieldsM a, bigM f = false := by
 obtain ⟨h1, h2, h3, h4, h5⟩ := check_rng h
 intro f hf
 simp only [fieldsM, List.mem_cons, List.mem_map] at hf
 rcases hf with rfl | rfl | ⟨n, hn, rfl⟩
 ·exact big_of (Nat.le_trans (numB_len (by have := hr.k1; omega)) (by decide))
 ·exact big_of (Nat.le_trans (path_small h5) (by decide))
 ·exact big_of (Nat.le_trans (numB_len (nums_lt hr h1 h2 h3 n hn)) (by decide))
theorem pack_fields {a : RecM} (hr : RecOk a) (h : checkM a = true) : packB (fieldsM a) = putB a ∧ packE (fieldsM a) = putE a := by
 have := any_of (fields_small hr h)
 simp [packB, packE, putB, putE, this, h]
theorem pack_path {a : RecM} (h : checkM a = true) : packB a.path = packL a.path ∧ packE a.path = 0 := by
 obtain ⟨_, _, _, _, _, h5⟩ := check_rng h
 have : a.path.any bigM = false := any_of fun q hq => big_of (Nat.le_trans (h5 q hq) (by decide))
 simp [packB, packE, this]
theorem numsV_at {b : List Nat} {l : List V} (hl : l = numsV b) {j : Nat} {i : Int} (hi : i = j) (hj : j < b.length) : 0 ≤ i ∧ l[i.toNat]? = some (.int .u64 ((b[j]'hj : Nat) : Int)) := by
 subst hl hi
 simp [numsV, hj]
theorem ine_err {A : Prim} {P : Program} {R : List (Nat × AObj) → List D → Prop} (hA : A = std P R) {e : Int} (h : A.ine e 0 = true) : e ≠ 0 := by subst hA; simpa [std] using h
theorem ine_ok {A : Prim} {P : Program} {R : List (Nat × AObj) → List D → Prop} (hA : A = std P R) {e : Int} (h : A.ine e 0 = false) : e = 0 := by subst hA; simpa [std] using h
theorem ine_no {A : Prim} {P : Program} {R : List (Nat × AObj) → List D → Prop} (hA : A = std P R) {e : Int} (h : e = 0) : A.ine e 0 = false := by subst hA; subst h; rfl
theorem wrapK {A : Prim} {P : Program} {R : List (Nat × AObj) → List D → Prop} (hA : A = std P R) {n : Int} (h0 : 0 ≤ n) (h1 : n ≤ 18446744073709551615) : A.wrap .u64 n = ((n.toNat : Nat) : Int) := by subst hA; exact wrap_u64 h0 h1
theorem app_ls {A : Prim} {P : Program} {R : List (Nat × AObj) → List D → Prop} (hA : A = std P R) {x y : List V} {a b : List (List UInt8)} (hx : x = listsV a) (hy : y = listsV b) : A.app x y = listsV (a ++ b) := by
 rw [hA]; simp only [std]; rw [hx, hy]; simp [listsV]
theorem cPut (a : RecM) (l : List V) (ha : l = strsV a.path) (hr : RecOk a) : CallR Tryz.prog 46 [.agg [.int .u8 a.k, .slice l, .int .i64 a.sz, .int .u32 a.sm, .int .i64 a.mi, .int .i64 a.mo, .int .u32 a.si, .int .u32 a.so]] fun rs => ∃ (r : List V) (e : Int), rs = [.v (.slice r), .v (.int .i64 e)] ∧ r = bytesV (putB a) ∧ e = putE a := by
 obtain ⟨r, hrr⟩ : ∃ r, r = bytesV (putB a) := ⟨_, rfl⟩
 obtain ⟨e, he⟩ : ∃ e, e = putE a := ⟨_, rfl⟩
 refine .of [.v (.slice r), .v (.int .i64 e)] ⟨r, e, rfl, hrr, he⟩ ?_
 obtain ⟨a0, hae⟩ : ∃ a0, a0 = a := ⟨_, rfl⟩
 obtain ⟨k, p, sz, sm, mi, mo, si, so⟩ := a
 dsimp only at ha
 refine FnR.of' T_ok M_ok (fn := Tryz.f46) (by kernel_rfl) rfl rfl rfl rfl (Nat.le_of_ble_eq_true rfl) fun A hA => ?_
 cbv
 refine callI hA (cCheck ⟨k, p, sz, sm, mi, mo, si, so⟩ l ha hr.pl) ?_
 intro rs_ h_
 obtain ⟨e1, q_1, he1⟩ := h_
 subst q_1
 cbv
 rw [← hae] at he1 hr hrr he
 refine condI hA (fun h1 => ?_) (fun h1 => ?_)
 ·have h1 := ine_err hA h1
  have hck : checkM a0 = false := by
   cases hq : checkM a0 with
   | false => rfl
   | true => rw [hq] at he1; exact absurd he1 h1
  cbv
  refine retI hA ?_
  refine ⟨congrArg (fun q => some (V.slice q)) ?_, congrArg (fun q => some (V.int .i64 q)) ?_, trivial⟩
  ·rw [hrr]; simp [putB, hck, bytesV]
  ·rw [he, he1]; simp [putE, errM, hck]
 ·have h1 := ine_ok hA h1
  have hck : checkM a0 = true := by
   cases hq : checkM a0 with
   | true => rfl
   | false => rw [hq, h1] at he1; cases he1
  obtain ⟨g1, g2, g3, g4, g5⟩ := check_rng hck
  have hpp := pack_path hck
  have hap : a0.path = p := by rw [hae]
  cbv
  refine callI hA (cTexts p l ha (by rw [← hap]; omega) (by rw [← hap]; exact hr.ps)) ?_
  intro rs_ h_
  obtain ⟨t, e2, q_1, ht, he2⟩ := h_
  subst q_1
  cbv
  rw [← hap] at ht he2
  rw [hpp.1] at ht
  rw [hpp.2] at he2
  refine condF hA (ine_no hA he2) ?_
  cbv
  have hak : a0.k = k := by rw [hae]
  refine callI hA (cNum (A.wrap .u64 k) k.toNat (wrapK hA (by rw [← hak]; exact hr.k0) (by rw [← hak]; have := hr.k1; omega)) (by rw [← hak]; have := hr.k1; omega)) ?_
  intro rs_ h_
  obtain ⟨kb, q_1, hkb⟩ := h_
  subst q_1
  cbv
  refine callI hA (cNumbers ⟨k, p, sz, sm, mi, mo, si, so⟩ l (hae ▸ hr) (by rw [← hae]; exact g1) (by rw [← hae]; exact g2) (by rw [← hae]; exact g3)) ?_
  intro rs_ h_
  obtain ⟨ns, q_1, hns⟩ := h_
  subst q_1
  cbv
  rw [← hae] at hns
  have hnl : ns.length = (numsOf a0).length := by rw [hns]; simp [numsV]
  have hx0 : [V.slice kb, V.slice t] = listsV [numB a0.k.toNat, packL a0.path] := by rw [hkb, ht, hak]; rfl
  refine loopF hA (ι := Int × List V) (fun p => { n := 47, sl := [(7, .own 41), (31, .v (.slice ns)), (32, .v (.int .i64 (A.lenL ns))), (33, .v (.int .i64 p.1))], ob := [(41, .row 1 p.2 true)] })
   (fun p => ∃ j : Nat, p.1 = j ∧ j ≤ (numsOf a0).length ∧ p.2 = listsV ([numB a0.k.toNat, packL a0.path] ++ ((numsOf a0).take j).map numB)) (fun p => (numsOf a0).length - p.1.toNat) (_, _) ((weak_ren _ 7 29 41 1 _ true rfl rfl).trans (weakI rfl ⟨rfl, rfl, rfl, rfl, trivial⟩ ⟨rfl, trivial⟩)) ⟨0, rfl, Nat.zero_le _, by simpa using hx0⟩ ?_
  rintro ⟨i, x⟩ ⟨j, hi, hj, hx⟩
  dsimp only at hi hx
  cbv
  refine condI hA (fun hc => ?_) (fun hc => ?_)
  ·have hjl := ltL hA (natEq hi) hnl hc
   cbv
   refine getIN hA (numsV_at hns (natEq hi) hjl) ?_
   rintro v hv
   cbv
   refine callI hA (cNum v _ hv (nums_lt hr g1 g2 g3 _ (List.getElem_mem hjl))) ?_
   intro rs_ h_
   obtain ⟨b, q_1, hb⟩ := h_
   subst q_1
   cbv
   have hb1 : [V.slice b] = listsV [numB ((numsOf a0)[j]'hjl)] := by rw [hb]; rfl
   refine roomI hA (by rw [hx, listsV_len]; have : (numsOf a0).length = 6 := rfl; simp; omega) ?_
   cbv
   refine ⟨(_, _), weakI rfl ⟨rfl, rfl, rfl, rfl, trivial⟩ ⟨rfl, trivial⟩, ⟨j + 1, upI hA (natEq hi) (by have : (numsOf a0).length = 6 := rfl; omega), hjl, ?_⟩, upM hA (natEq hi) hjl (by have : (numsOf a0).length = 6 := rfl; omega)⟩
   refine (app_ls hA hx hb1).trans ?_
   rw [List.take_succ_eq_append_getElem hjl, List.map_append, List.append_assoc]; rfl
  ·have hjl := geL hA (natEq hi) hnl hc hj
   cbv
   subst hjl
   rw [List.take_length] at hx
   refine callI hA (cPack (fieldsM a0) x hx (by simp [fieldsM, numsOf])) ?_
   intro rs_ h_
   obtain ⟨r2, e3, q_1, hr2, he3⟩ := h_
   subst q_1
   cbv
   have hpf := pack_fields hr hck
   rw [hpf.1] at hr2
   rw [hpf.2] at he3
   refine retI hA ?_
   exact ⟨congrArg (fun q => some (V.slice q)) (hr2.trans hrr.symm), congrArg (fun q => some (V.int .i64 q)) (he3.trans he.symm), trivial⟩
open Go Go.RowKit
section
variable {A : Prim} {P : Program} {R : List (Nat × AObj) → List D → Prop} (hA : A = std P R)
include hA
theorem leT {a b : Int} (h : A.ile a b = true) : a ≤ b := by subst hA; simpa [std] using h
theorem leF {a b : Int} (h : A.ile a b = false) : ¬ a ≤ b := by subst hA; simpa [std] using h
theorem ltT {a b : Int} (h : A.ilt a b = true) : a < b := by subst hA; simpa [std] using h
theorem ltF {a b : Int} (h : A.ilt a b = false) : ¬ a < b := by subst hA; simpa [std] using h
theorem lenE {l : List V} {p : List (List UInt8)} (hl : l = strsV p) : A.lenL l = (p.length : Nat) := by subst hA; simp only [std]; rw [lenS' hl]
theorem lenNil {l : List V} {p : List (List UInt8)} (hl : l = strsV p) (h : A.ieq (A.lenL l) 0 = true) : p = [] := by
 have := eqT hA h; rw [lenE hA hl] at this; exact List.length_eq_zero_iff.1 (by omega)
theorem lenNe {l : List V} {p : List (List UInt8)} (hl : l = strsV p) (h : A.ieq (A.lenL l) 0 = false) : p ≠ [] := fun e => by
 have := eqF hA h; rw [lenE hA hl, e] at this; exact this rfl
theorem lenLtT {l : List V} {p : List (List UInt8)} {n : Int} (hl : l = strsV p) (h : A.ilt (A.lenL l) n = true) : p.length < n.toNat := by
 have := ltT hA h; rw [lenE hA hl] at this; omega
theorem lenLtF {l : List V} {p : List (List UInt8)} {n : Int} (hl : l = strsV p) (h : A.ilt (A.lenL l) n = false) : ¬ p.length < n.toNat := by
 have := ltF hA h; rw [lenE hA hl] at this; omega
theorem lenGtT {l : List V} {p : List (List UInt8)} {n : Int} (hl : l = strsV p) (h : A.ilt n (A.lenL l) = true) (hn : 0 ≤ n := by decide) : n.toNat < p.length := by
 have := ltT hA h; rw [lenE hA hl] at this; omega
theorem lenGtF {l : List V} {p : List (List UInt8)} {n : Int} (hl : l = strsV p) (h : A.ilt n (A.lenL l) = false) (hn : 0 ≤ n := by decide) : ¬ n.toNat < p.length := by
 have := ltF hA h; rw [lenE hA hl] at this; omega
theorem sLtT {s t : List UInt8} {n : Int} (hs : s = t) (h : A.ilt (A.lenS s) n = true) : t.length < n.toNat := by subst hs; have := ltT hA h; subst hA; simp only [std] at this; omega
theorem sLtF {s t : List UInt8} {n : Int} (hs : s = t) (h : A.ilt (A.lenS s) n = false) : ¬ t.length < n.toNat := by subst hs; have := ltF hA h; subst hA; simp only [std] at this; omega
theorem sGtT {s t : List UInt8} {n : Int} (hs : s = t) (h : A.ilt n (A.lenS s) = true) (hn : 0 ≤ n := by decide) : n.toNat < t.length := by subst hs; have := ltT hA h; subst hA; simp only [std] at this; omega
theorem sGtF {s t : List UInt8} {n : Int} (hs : s = t) (h : A.ilt n (A.lenS s) = false) (hn : 0 ≤ n := by decide) : ¬ n.toNat < t.length := by subst hs; have := ltF hA h; subst hA; simp only [std] at this; omega
end
theorem natLt {a b : Nat} (h : a < b) : (a : Int) < (b : Int) := by omega
theorem badM_of {s : List UInt8} (h1 : ¬ s.length < Int.toNat 1) (h2 : ¬ Int.toNat 48 < s.length) : badM s = false := by
 simp only [badM, inM, Bool.not_eq_false', Bool.and_eq_true, decide_eq_true_eq]; omega
theorem badM_lo {s : List UInt8} (h1 : s.length < Int.toNat 1) : badM s = true := by
 simp only [badM, inM, Bool.not_eq_true', Bool.and_eq_false_iff, decide_eq_false_iff_not]; omega
theorem badM_hi {s : List UInt8} (h1 : Int.toNat 48 < s.length) : badM s = true := by
 simp only [badM, inM, Bool.not_eq_true', Bool.and_eq_false_iff, decide_eq_false_iff_not]; omega
theorem pathOk_bad {p : List (List UInt8)} {j : Nat} (hj : j < p.length) (h : badM p[j] = true) : pathOk p = false := by
 have : p.any badM = true := List.any_eq_true.2 ⟨_, List.getElem_mem hj, h⟩
 simp [pathOk, this]
theorem cPath12 (p : List (List UInt8)) (l : List V) (hl : l = strsV p) : CallR Tryz.prog 133 [.slice l] fun rs => ∃ c, rs = [.v (.bool c)] ∧ c = pathOk p := by
 obtain ⟨c, hcv⟩ : ∃ c, c = pathOk p := ⟨_, rfl⟩
 refine .of _ ⟨c, rfl, hcv⟩ ?_
 refine FnR.of' T_ok M_ok (fn := Tryz.f133) (by kernel_rfl) rfl rfl rfl rfl (Nat.le_of_ble_eq_true rfl) fun A hA => ?_
 cbv
 refine condI hA (fun h1 => ?_) (fun h1 => ?_)
 ·replace h1 := lenLtT hA hl h1
  cbv
  refine retI hA ?_
  refine ⟨congrArg (fun q => some (V.bool q)) ?_, trivial⟩
  rw [hcv]; simp only [pathOk, inM]
  have : ¬ (1 : Int) ≤ p.length := by have := natLt h1; omega
  simp [this]
 ·replace h1 := lenLtF hA hl h1
  cbv
  refine condI hA (fun h2 => ?_) (fun h2 => ?_)
  ·replace h2 := lenGtT hA hl h2
   cbv
   refine retI hA ?_
   refine ⟨congrArg (fun q => some (V.bool q)) ?_, trivial⟩
   rw [hcv]; simp only [pathOk, inM]
   have : ¬ (p.length : Int) ≤ 8 := by have := natLt h2; omega
   simp [this]
  ·replace h2 := lenGtF hA hl h2
   cbv
   refine loopF hA (ι := Int) (fun i => { n := 32, sl := [(0, .v (.slice l)), (3, .v (.int .i64 i))], ob := [] })
    (fun i => ∃ j : Nat, i = j ∧ j ≤ p.length ∧ ∀ m (hm : m < p.length), m < j → badM p[m] = false) (fun i => p.length - i.toNat) 0 (weakI rfl ⟨rfl, rfl, trivial⟩ trivial) ⟨0, rfl, Nat.zero_le _, fun _ _ h => by omega⟩ ?_
   rintro i ⟨j, hi, hj, hb⟩
   cbv
   refine condI hA (fun hc => ?_) (fun hc => ?_)
   ·have hjl := ltL hA (natEq hi) (lenS' hl) hc
    cbv
    refine getSN hA hl (natEq hi) hjl ?_
    rintro x hx
    cbv
    refine condI hA (fun g1 => ?_) (fun g1 => ?_)
    ·replace g1 := sLtT hA hx g1
     cbv
     refine retI hA ?_
     refine ⟨congrArg (fun q => some (V.bool q)) ?_, trivial⟩
     rw [hcv]; exact (pathOk_bad hjl (badM_lo g1)).symm
    ·replace g1 := sLtF hA hx g1
     cbv
     refine getSN hA hl (natEq hi) hjl ?_
     rintro y hy
     cbv
     refine condI hA (fun g2 => ?_) (fun g2 => ?_)
     ·replace g2 := sGtT hA hy g2
      cbv
      refine retI hA ?_
      refine ⟨congrArg (fun q => some (V.bool q)) ?_, trivial⟩
      rw [hcv]; exact (pathOk_bad hjl (badM_hi g2)).symm
     ·replace g2 := sGtF hA hy g2
      refine ⟨_, weakI rfl ⟨rfl, rfl, trivial⟩ trivial, ⟨j + 1, upI hA (natEq hi) (by omega), hjl, fun m hm hmj => ?_⟩, upM hA (natEq hi) hjl (by omega)⟩
      by_cases e : m = j
      ·subst e; exact badM_of g1 g2
      ·exact hb m hm (by omega)
   ·have hjl := geL hA (natEq hi) (lenS' hl) hc hj
    cbv
    refine retI hA ?_
    refine ⟨congrArg (fun q => some (V.bool q)) ?_, trivial⟩
    rw [hcv]
    have : p.any badM = false := any_of fun x hx => by
     obtain ⟨m, hm, rfl⟩ := List.getElem_of_mem hx
     exact hb m hm (by omega)
    simp only [pathOk, inM, this]
    simp; omega
open Go Go.RowKit
theorem cCheck12 (a : RecM) (l : List V) (ha : l = strsV a.path) : CallR Tryz.prog 108 [.agg [.int .u8 a.k, .slice l, .int .i64 a.sz, .int .u32 a.sm, .int .i64 a.mi, .int .i64 a.mo, .int .u32 a.si, .int .u32 a.so]] fun rs => ∃ e : Int, rs = [.v (.int .i64 e)] ∧ e = errM (checkM a) 2 := by
 obtain ⟨e, he⟩ : ∃ e, e = errM (checkM a) 2 := ⟨_, rfl⟩
 refine .of _ ⟨e, rfl, he⟩ ?_
 obtain ⟨k, p, sz, sm, mi, mo, si, so⟩ := a
 dsimp only at *
 refine FnR.of' T_ok M_ok (fn := Tryz.f108) (by kernel_rfl) rfl rfl rfl rfl (Nat.le_of_ble_eq_true rfl) fun A hA => ?_
 cbv
 refine condI hA (fun h1 => ?_) (fun h1 => ?_)
 ·replace h1 := eqT hA h1
  subst h1
  cbv
  refine callI hA (cPath12 p l ha) ?_
  intro rs_ h_
  obtain ⟨c1, q_1, hc1⟩ := h_
  subst q_1
  cbv
  refine condI hA (fun q1 => ?_) (fun q1 => ?_)
  ·replace q1 := hc1.symm.trans q1
   cbv
   refine condI hA (fun q2 => ?_) (fun q2 => ?_)
   ·replace q2 := leT hA q2
    cbv
    refine condI hA (fun q3 => ?_) (fun q3 => ?_)
    ·replace q3 := leT hA q3
     cbv
     obtain ⟨c4, hc4⟩ : ∃ c4, c4 = (mi == 0 && (mo == 0 && (si == 0 && so == 0))) := ⟨_, rfl⟩
     refine eqAI hA c4 (hc4 ▸ eqMark mi mo si so 0 0 0 0) ?_
     cbv
     refine condI hA (fun q4 => ?_) (fun q4 => ?_)
     ·replace q4 := notT hA q4
      replace q4 := hc4.symm.trans q4
      cbv
      refine retI hA ?_
      simp only [retOk, rsOk, retIds, idsD, idsDs, softOb, toV, Option.some.injEq, V.int.injEq, true_and, and_true]
      rw [he]; simp [errM, checkM, inM, markZ, q1, q2, q3, q4]
     ·replace q4 := notF hA q4
      replace q4 := hc4.symm.trans q4
      cbv
      refine retI hA ?_
      simp only [retOk, rsOk, retIds, idsD, idsDs, softOb, toV, Option.some.injEq, V.int.injEq, true_and, and_true]
      rw [he]; simp [errM, checkM, inM, markZ, q1, q2, q3, q4]
    ·replace q3 := leF hA q3
     cbv
     refine retI hA ?_
     simp only [retOk, rsOk, retIds, idsD, idsDs, softOb, toV, Option.some.injEq, V.int.injEq, true_and, and_true]
     rw [he]; simp [errM, checkM, inM, markZ, q1, q2, q3]
   ·replace q2 := leF hA q2
    cbv
    refine retI hA ?_
    simp only [retOk, rsOk, retIds, idsD, idsDs, softOb, toV, Option.some.injEq, V.int.injEq, true_and, and_true]
    rw [he]; simp [errM, checkM, inM, markZ, q1, q2]
  ·replace q1 := hc1.symm.trans q1
   cbv
   refine retI hA ?_
   simp only [retOk, rsOk, retIds, idsD, idsDs, softOb, toV, Option.some.injEq, V.int.injEq, true_and, and_true]
   rw [he]; simp [errM, checkM, inM, markZ, q1]
 ·replace h1 := eqF hA h1
  cbv
  refine condI hA (fun g1 => ?_) (fun g1 => ?_)
  ·replace g1 := eqT hA g1
   subst g1
   cbv
   refine condI hA (fun q1 => ?_) (fun q1 => ?_)
   ·replace q1 := lenNil hA ha q1
    cbv
    refine condI hA (fun q2 => ?_) (fun q2 => ?_)
    ·replace q2 := eqT hA q2
     cbv
     refine condI hA (fun q3 => ?_) (fun q3 => ?_)
     ·replace q3 := eqT hA q3
      cbv
      refine condI hA (fun q4 => ?_) (fun q4 => ?_)
      ·replace q4 := leT hA q4
       cbv
       refine condI hA (fun q5 => ?_) (fun q5 => ?_)
       ·replace q5 := leT hA q5
        cbv
        refine condI hA (fun q6 => ?_) (fun q6 => ?_)
        ·replace q6 := leT hA q6
         cbv
         refine condI hA (fun q7 => ?_) (fun q7 => ?_)
         ·replace q7 := notT hA q7
          replace q7 := leF hA q7
          cbv
          refine retI hA ?_
          simp only [retOk, rsOk, retIds, idsD, idsDs, softOb, toV, Option.some.injEq, V.int.injEq, true_and, and_true]
          rw [he]; simp [errM, checkM, inM, markZ, q1, q2, q3, q4, q5, q6, q7]
         ·replace q7 := notF hA q7
          replace q7 := leT hA q7
          cbv
          refine retI hA ?_
          simp only [retOk, rsOk, retIds, idsD, idsDs, softOb, toV, Option.some.injEq, V.int.injEq, true_and, and_true]
          rw [he]; simp [errM, checkM, inM, markZ, q1, q2, q3, q4, q5, q6, q7]
        ·replace q6 := leF hA q6
         cbv
         refine retI hA ?_
         simp only [retOk, rsOk, retIds, idsD, idsDs, softOb, toV, Option.some.injEq, V.int.injEq, true_and, and_true]
         rw [he]; simp [errM, checkM, inM, markZ, q1, q2, q3, q4, q5, q6]
       ·replace q5 := leF hA q5
        cbv
        refine retI hA ?_
        simp only [retOk, rsOk, retIds, idsD, idsDs, softOb, toV, Option.some.injEq, V.int.injEq, true_and, and_true]
        rw [he]; simp [errM, checkM, inM, markZ, q1, q2, q3, q4, q5]
      ·replace q4 := leF hA q4
       cbv
       refine retI hA ?_
       simp only [retOk, rsOk, retIds, idsD, idsDs, softOb, toV, Option.some.injEq, V.int.injEq, true_and, and_true]
       rw [he]; simp [errM, checkM, inM, markZ, q1, q2, q3, q4]
     ·replace q3 := eqF hA q3
      cbv
      refine retI hA ?_
      simp only [retOk, rsOk, retIds, idsD, idsDs, softOb, toV, Option.some.injEq, V.int.injEq, true_and, and_true]
      rw [he]; simp [errM, checkM, inM, markZ, q1, q2, q3]
    ·replace q2 := eqF hA q2
     cbv
     refine retI hA ?_
     simp only [retOk, rsOk, retIds, idsD, idsDs, softOb, toV, Option.some.injEq, V.int.injEq, true_and, and_true]
     rw [he]; simp [errM, checkM, inM, markZ, q1, q2]
   ·replace q1 := lenNe hA ha q1
    cbv
    refine retI hA ?_
    simp only [retOk, rsOk, retIds, idsD, idsDs, softOb, toV, Option.some.injEq, V.int.injEq, true_and, and_true]
    rw [he]; simp [errM, checkM, inM, markZ, q1]
  ·replace g1 := eqF hA g1
   cbv
   refine condI hA (fun f1 => ?_) (fun f1 => ?_)
   ·replace f1 := eqT hA f1
    subst f1
    cbv
    refine condI hA (fun q1 => ?_) (fun q1 => ?_)
    ·replace q1 := lenNil hA ha q1
     cbv
     refine condI hA (fun q2 => ?_) (fun q2 => ?_)
     ·replace q2 := eqT hA q2
      cbv
      refine condI hA (fun q3 => ?_) (fun q3 => ?_)
      ·replace q3 := eqT hA q3
       cbv
       obtain ⟨c4, hc4⟩ : ∃ c4, c4 = (mi == 0 && (mo == 0 && (si == 0 && so == 0))) := ⟨_, rfl⟩
       refine eqAI hA c4 (hc4 ▸ eqMark mi mo si so 0 0 0 0) ?_
       cbv
       refine condI hA (fun q4 => ?_) (fun q4 => ?_)
       ·replace q4 := notT hA q4
        replace q4 := hc4.symm.trans q4
        cbv
        refine retI hA ?_
        simp only [retOk, rsOk, retIds, idsD, idsDs, softOb, toV, Option.some.injEq, V.int.injEq, true_and, and_true]
        rw [he]; simp [errM, checkM, inM, markZ, q1, q2, q3, q4]
       ·replace q4 := notF hA q4
        replace q4 := hc4.symm.trans q4
        cbv
        refine retI hA ?_
        simp only [retOk, rsOk, retIds, idsD, idsDs, softOb, toV, Option.some.injEq, V.int.injEq, true_and, and_true]
        rw [he]; simp [errM, checkM, inM, markZ, q1, q2, q3, q4]
      ·replace q3 := eqF hA q3
       cbv
       refine retI hA ?_
       simp only [retOk, rsOk, retIds, idsD, idsDs, softOb, toV, Option.some.injEq, V.int.injEq, true_and, and_true]
       rw [he]; simp [errM, checkM, inM, markZ, q1, q2, q3]
     ·replace q2 := eqF hA q2
      cbv
      refine retI hA ?_
      simp only [retOk, rsOk, retIds, idsD, idsDs, softOb, toV, Option.some.injEq, V.int.injEq, true_and, and_true]
      rw [he]; simp [errM, checkM, inM, markZ, q1, q2]
    ·replace q1 := lenNe hA ha q1
     cbv
     refine retI hA ?_
     simp only [retOk, rsOk, retIds, idsD, idsDs, softOb, toV, Option.some.injEq, V.int.injEq, true_and, and_true]
     rw [he]; simp [errM, checkM, inM, markZ, q1]
   ·replace f1 := eqF hA f1
    cbv
    refine retI hA ?_
    simp only [retOk, rsOk, retIds, idsD, idsDs, softOb, toV, Option.some.injEq, V.int.injEq, true_and, and_true]
    rw [he]; simp [errM, checkM, h1, g1, f1]
open Go Go.RowKit
theorem numB_pos {n : Nat} (h : 0 < n) : numB n = numB (n / 256) ++ [UInt8.ofNat (n % 256)] := by
 unfold numB; rw [leB_pos h, List.reverse_cons]
theorem numB_zero : numB 0 = [] := by unfold numB; rw [leB_zero]; rfl
theorem tmod_nat (a b : Nat) : Int.tmod (a : Int) (b : Int) = ((a % b : Nat) : Int) := rfl
theorem tdiv_nat (a b : Nat) : Int.tdiv (a : Int) (b : Int) = ((a / b : Nat) : Int) := rfl
theorem wrap_u64n {n : Nat} (h : n < 18446744073709551616) : IntKind.u64.wrap (n : Int) = (n : Int) := by
 rw [wrap_u64 (by omega) (by omega)]; simp
theorem cNum12 (v : Int) (n : Nat) (hv : v = n) (hn : n < 18446744073709551616) : CallR Tryz.prog 111 [.int .u64 v] fun rs => ∃ l, rs = [.v (.slice l)] ∧ l = bytesV (numB n) := by
 obtain ⟨l, hl⟩ : ∃ l, l = bytesV (numB n) := ⟨_, rfl⟩
 refine .of _ ⟨l, rfl, hl⟩ ?_
 refine FnR.of' T_ok M_ok (fn := Tryz.f111) (by kernel_rfl) rfl rfl rfl rfl (Nat.le_of_ble_eq_true rfl) fun A hA => ?_
 cbv
 refine loopF hA (ι := Int × List V) (fun p => { n := 15, sl := [(0, .v (.int .u64 p.1)), (3, .own 11)], ob := [(11, .row 1 p.2 true)] })
  (fun p => ∃ (k : Nat) (a : List UInt8), p.1 = k ∧ k ≤ n ∧ numB k ++ a = numB n ∧ p.2 = bytesV a ∧ a.length + (leB k).length ≤ 8) (fun p => p.1.toNat) (v, []) ((weak_nils _ 3 11 1 true rfl).trans (weakI rfl ⟨rfl, rfl, trivial⟩ ⟨rfl, trivial⟩)) ⟨n, [], hv, Nat.le_refl _, by simp, rfl, by simpa using leB_len 8 n (by simpa using hn)⟩ ?_
 rintro ⟨x, y⟩ ⟨k, a, hx, hkn, ha, hy, hal⟩
 dsimp only at hx hy
 cbv
 refine condI hA (fun hc => ?_) (fun hc => ?_)
 ·have hk0 : 0 < k := pos_of (natEq hx) (ltT hA hc)
  cbv
  refine nzI hA (by decide) ?_
  cbv
  have hb : [V.int .u8 (A.wrap .u8 (A.tmod x 256))] = bytesV [UInt8.ofNat (k % 256)] := by
   have : A.wrap .u8 (A.tmod x 256) = ((k % 256 : Nat) : Int) := by
    rw [hA, natEq hx]; simp only [std]
    rw [show (256 : Int) = ((256 : Nat) : Int) from rfl, tmod_nat, wrap_u8, Nat.mod_mod]
   rw [byteV this]; rfl
  refine roomI hA (room_of hb hy (by simp; omega)) ?_
  cbv
  refine nzI hA (by decide) ?_
  cbv
  have hd : A.wrap .u64 (A.tdiv x 256) = ((k / 256 : Nat) : Int) := by
   rw [hA, natEq hx]; simp only [std]
   rw [show (256 : Int) = ((256 : Nat) : Int) from rfl, tdiv_nat, wrap_u64n (by omega)]
  refine ⟨(_, _), weakI rfl ⟨rfl, rfl, trivial⟩ ⟨rfl, trivial⟩, ⟨k / 256, [UInt8.ofNat (k % 256)] ++ a, hd, by omega, ?_, app_of hA hb hy, ?_⟩, ?_⟩
  ·rw [← ha, numB_pos hk0]; simp
  ·rw [leB_pos hk0] at hal; simp at hal; simp; omega
  ·change (A.wrap .u64 (A.tdiv x 256)).toNat < x.toNat
   rw [hd, natEq hx]; simp only [Int.toNat_natCast]; omega
 ·have hk0 : k = 0 := zero_of (natEq hx) (ltF hA hc)
  cbv
  refine retI hA ?_
  subst hk0
  rw [numB_zero, List.nil_append] at ha
  exact ⟨congrArg (fun q => some (V.slice q)) (by rw [hy, hl, ha]), trivial⟩
theorem bigGt {A : Prim} {P : Program} {R : List (Nat × AObj) → List D → Prop} (hA : A = std P R) {f : List V} {b : List UInt8} (hf : f = bytesV b) (h : A.ilt 1024 (A.lenL f) = true) : bigM b = true := by
 have := ltT hA h; rw [hA] at this; simp only [std] at this; rw [hf, bytesV_len] at this; exact decide_eq_true this
theorem bigLe {A : Prim} {P : Program} {R : List (Nat × AObj) → List D → Prop} (hA : A = std P R) {f : List V} {b : List UInt8} (hf : f = bytesV b) (h : A.ilt 1024 (A.lenL f) = false) : bigM b = false := by
 have := ltF hA h; rw [hA] at this; simp only [std] at this; rw [hf, bytesV_len] at this; exact decide_eq_false this
theorem cPack12 (fs : List (List UInt8)) (l : List V) (hl : l = listsV fs) (hfs : fs.length ≤ 1000000) : CallR Tryz.prog 110 [.slice l] fun rs => ∃ (r : List V) (e : Int), rs = [.v (.slice r), .v (.int .i64 e)] ∧ r = bytesV (packB fs) ∧ e = packE fs := by
 obtain ⟨r, hr⟩ : ∃ r, r = bytesV (packB fs) := ⟨_, rfl⟩
 obtain ⟨e, he⟩ : ∃ e, e = packE fs := ⟨_, rfl⟩
 refine .of [.v (.slice r), .v (.int .i64 e)] ⟨r, e, rfl, hr, he⟩ ?_
 refine FnR.of' T_ok M_ok (fn := Tryz.f110) (by kernel_rfl) rfl rfl rfl rfl (Nat.le_of_ble_eq_true rfl) fun A hA => ?_
 cbv
 refine loopF hA (ι := Int × List V) (fun p => { n := 35, sl := [(0, .v (.slice l)), (4, .own 33), (5, .v (.int .i64 p.1))], ob := [(33, .row 1 p.2 true)] })
  (fun p => ∃ j : Nat, p.1 = j ∧ j ≤ fs.length ∧ (∀ m (hm : m < fs.length), m < j → bigM fs[m] = false) ∧ p.2 = bytesV (packL (fs.take j))) (fun p => fs.length - p.1.toNat) (_, _) ((weak_nils _ 4 33 1 true rfl).trans (weakI rfl ⟨rfl, rfl, rfl, trivial⟩ ⟨rfl, trivial⟩)) ⟨0, rfl, Nat.zero_le _, fun _ _ h => by omega, rfl⟩ ?_
 rintro ⟨i, x⟩ ⟨j, hi, hj, hb, hx⟩
 dsimp only at hi hx
 cbv
 refine condI hA (fun hc => ?_) (fun hc => ?_)
 ·have hjl := ltL hA (natEq hi) (lenLs hl) hc
  cbv
  refine getLN hA hl (natEq hi) hjl ?_
  rintro f hf
  cbv
  refine condI hA (fun h1 => ?_) (fun h1 => ?_)
  ·have h1 := bigGt hA hf h1
   have : fs.any bigM = true := List.any_eq_true.2 ⟨_, List.getElem_mem hjl, h1⟩
   cbv
   refine retI hA ?_
   refine ⟨congrArg (fun q => some (V.slice q)) ?_, congrArg (fun q => some (V.int .i64 q)) ?_, trivial⟩
   ·rw [hr]; simp [packB, this, bytesV]
   ·rw [he]; simp [packE, this]
  ·have h1 := bigLe hA hf h1
   have hb' : ∀ m (hm : m < fs.length), m < j + 1 → bigM fs[m] = false := fun m hm hmj => by
    by_cases e : m = j
    ·subst e; exact h1
    ·exact hb m hm (by omega)
   have hf1 : fs[j].length ≤ 1024 := by
    unfold bigM at h1; have := of_decide_eq_false h1; omega
   have hal : (packL (fs.take j)).length ≤ j * 1026 := by
    have := packL_len (fs := fs.take j) fun f hf => by
     obtain ⟨m, hm, rfl⟩ := List.getElem_of_mem hf
     rw [List.length_take] at hm
     rw [List.getElem_take]
     exact hb m (by omega) (by omega)
    rw [List.length_take, Nat.min_eq_left (by omega)] at this; exact this
   cbv
   refine chkI hA (by kernel_rfl) ?_
   cbv
   have hfl : A.lenL f = (fs[j].length : Nat) := by rw [hA]; simp only [std]; rw [hf, bytesV_len]
   refine nzI hA (by decide) ?_
   cbv
   refine nzI hA (by decide) ?_
   cbv
   refine getLN hA hl (natEq hi) hjl ?_
   rintro f2 hf2
   cbv
   have k1 : [V.int .u8 (A.wrap .u8 (A.wrap .i64 (A.tdiv (A.lenL f) 256))), .int .u8 (A.wrap .u8 (A.tmod (A.lenL f) 256))] = bytesV [UInt8.ofNat (fs[j].length / 256 % 256), UInt8.ofNat (fs[j].length % 256)] := by
    rw [hfl, hA]
    simp only [std]
    rw [show (256 : Int) = ((256 : Nat) : Int) from rfl, tdiv_nat, tmod_nat, wrap_i64 (by omega) (by omega), wrap_u8, wrap_u8, Nat.mod_mod, byteV (n := fs[j].length / 256) rfl, byteV (n := fs[j].length) rfl]
    rfl
   refine sizedI hA (bytesV_flat k1) ?_
   cbv
   refine roomI hA (room_of hx k1 (by simp; omega)) ?_
   cbv
   have k2 := app_of hA hx k1
   refine sizedI hA (bytesV_flat hf2) ?_
   cbv
   refine roomI hA (room_of k2 hf2 (by simp; omega)) ?_
   cbv
   refine ⟨(_, _), weakI rfl ⟨rfl, rfl, rfl, trivial⟩ ⟨rfl, trivial⟩, ⟨j + 1, upI hA (natEq hi) (by omega), hjl, hb', ?_⟩, upM hA (natEq hi) hjl (by omega)⟩
   refine (app_of hA k2 hf2).trans ?_
   rw [packL_take hjl]; simp
 ·have hjl := geL hA (natEq hi) (lenLs hl) hc hj
  have h1 : fs.any bigM = false := any_of fun x hx => by
   obtain ⟨m, hm, rfl⟩ := List.getElem_of_mem hx
   exact hb m hm (by omega)
  cbv
  refine retI hA ?_
  subst hjl
  rw [List.take_length] at hx
  refine ⟨congrArg (fun q => some (V.slice q)) ?_, congrArg (fun q => some (V.int .i64 q)) ?_, trivial⟩
  ·rw [hx, hr]; simp [packB, h1]
  ·rw [he]; simp [packE, h1]
theorem cTexts12 (ps : List (List UInt8)) (l : List V) (hl : l = strsV ps) (hps : ps.length ≤ 1000000) (hp : ∀ p ∈ ps, p.length ≤ 140737488355328) : CallR Tryz.prog 109 [.slice l] fun rs => ∃ (r : List V) (e : Int), rs = [.v (.slice r), .v (.int .i64 e)] ∧ r = bytesV (packB ps) ∧ e = packE ps := by
 obtain ⟨r, hr⟩ : ∃ r, r = bytesV (packB ps) := ⟨_, rfl⟩
 obtain ⟨e, he⟩ : ∃ e, e = packE ps := ⟨_, rfl⟩
 refine .of [.v (.slice r), .v (.int .i64 e)] ⟨r, e, rfl, hr, he⟩ ?_
 refine FnR.of' T_ok M_ok (fn := Tryz.f109) (by kernel_rfl) rfl rfl rfl rfl (Nat.le_of_ble_eq_true rfl) fun A hA => ?_
 cbv
 refine loopF hA (ι := Int × List V) (fun p => { n := 24, sl := [(0, .v (.slice l)), (4, .own 19), (5, .v (.int .i64 p.1))], ob := [(19, .row 1 p.2 true)] })
  (fun p => ∃ j : Nat, p.1 = j ∧ j ≤ ps.length ∧ p.2 = listsV (ps.take j)) (fun p => ps.length - p.1.toNat) (_, _) ((weak_nils _ 4 19 1 true rfl).trans (weakI rfl ⟨rfl, rfl, rfl, trivial⟩ ⟨rfl, trivial⟩)) ⟨0, rfl, Nat.zero_le _, rfl⟩ ?_
 rintro ⟨i, x⟩ ⟨j, hi, hj, hx⟩
 dsimp only at hi hx
 cbv
 refine condI hA (fun hc => ?_) (fun hc => ?_)
 ·have hjl := ltL hA (natEq hi) (lenS' hl) hc
  cbv
  refine getSN hA hl (natEq hi) hjl ?_
  rintro s hs
  cbv
  refine catOkI hA (by rw [hs]; have := hp _ (List.getElem_mem hjl); simp; omega) ?_
  cbv
  have hb : [V.slice (A.s2b s)] = listsV [ps[j]'hjl] := by rw [hA, hs]; rfl
  refine roomI hA (by rw [hx, listsV_len]; simp; omega) ?_
  cbv
  refine ⟨(_, _), weakI rfl ⟨rfl, rfl, rfl, trivial⟩ ⟨rfl, trivial⟩, ⟨j + 1, upI hA (natEq hi) (by omega), hjl, ?_⟩, upM hA (natEq hi) hjl (by omega)⟩
  refine (app_ls hA hx hb).trans ?_
  rw [List.take_succ_eq_append_getElem hjl]
 ·have hjl := geL hA (natEq hi) (lenS' hl) hc hj
  cbv
  subst hjl
  rw [List.take_length] at hx
  refine callI hA (cPack12 ps x hx hps) ?_
  intro rs_ h_
  obtain ⟨r2, e2, q_1, hr2, he2⟩ := h_
  subst q_1
  cbv
  refine retI hA ?_
  exact ⟨congrArg (fun q => some (V.slice q)) (hr2.trans hr.symm), congrArg (fun q => some (V.int .i64 q)) (he2.trans he.symm), trivial⟩
end Go.Proofs.YthioccbgjkbmdaaGreat.AM
