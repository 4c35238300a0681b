/-
 Contracts, part 2: the sum and its witness.
-/
import Derived.Test.YthioccbgjkbmdaaGreatM25626f93c5
import Derived.Test.YthioccbgjkbmdaaGreatM24470ffae7
set_option linter.unusedVariables false
set_option linter.unusedSimpArgs false
set_option maxRecDepth 100000
set_option maxHeartbeats 4000000
namespace Go.Proofs.YthioccbgjkbmdaaGreat.AM
open Go Go.RowKit
theorem ones_succ : ∀ (k n : Nat), ones (k + 1) n = one (ones k n)
 | 0, n => rfl
 | k + 1, n => by rw [ones, ones_succ k]; rfl
def sumN (n : Nat) (b : List UInt8) : Nat := addN (n ^^^ 4294967295) b ^^^ 4294967295
theorem xlt {n : Nat} (hn : n < 4294967296) : n ^^^ 4294967295 < 4294967296 := Nat.xor_lt_two_pow (n := 32) hn (by decide)
theorem rem_two (x : Nat) (hx : x < 4294967296) : (Int.tmod (x : Int) 2 == 1) = decide (x % 2 = 1) := by
 have : Int.tmod (x : Int) 2 = ((x % 2 : Nat) : Int) := rfl
 rw [this]
 rcases Nat.mod_two_eq_zero_or_one x with h | h <;> rw [h] <;> rfl
theorem quo_two (x : Nat) (hx : x < 4294967296) : IntKind.u32.wrap (Int.tdiv (x : Int) 2) = ((x / 2 : Nat) : Int) := by
 have : Int.tdiv (x : Int) 2 = ((x / 2 : Nat) : Int) := rfl
 rw [this]
 simp only [IntKind.wrap, IntKind.bits, IntKind.signed, Bool.false_and, Bool.false_eq_true, if_false]
 omega
theorem c23 (s : Int) (n : Nat) (b : List UInt8) (l : List V) (hs : s = n) (hn : n < 4294967296) (hl : l = bytesV b) (hb : b.length ≤ 140737488355328) : CallR Tryz.prog 134 [.int .u32 s, .slice l] fun rs => ∃ r : Int, rs = [.v (.int .u32 r)] ∧ r = (sumN n b : Nat) := by
 obtain ⟨r, hr⟩ : ∃ r : Int, r = (sumN n b : Nat) := ⟨_, rfl⟩
 refine ⟨[.v (.int .u32 r)], ?_, _, rfl, hr⟩
 have hlen : l.length = b.length := by rw [hl]; simp [bytesV]
 refine FnR.of' T_ok M_ok (fn := Tryz.f134) (by kernel_rfl) rfl rfl rfl rfl (Nat.le_of_ble_eq_true rfl) fun A hA => ?_
 cbv
 refine loopF hA (ι := Int × Int) (fun p => { n := 37, sl := [(1, .v (.slice l)), (5, .v (.int .u32 p.2)), (6, .v (.int .i64 p.1))], ob := [] })
  (fun p => ∃ j : Nat, p.1 = j ∧ j ≤ b.length ∧ p.2 = (addN (n ^^^ 4294967295) (b.take j) : Nat)) (fun p => b.length - p.1.toNat) (_, _) (weakI rfl ⟨rfl, rfl, rfl, trivial⟩ trivial) ⟨0, rfl, Nat.zero_le _, by
   change A.bits .xor .u32 s 4294967295 = _
   rw [hA, hs]; simp only [std]
   rw [show (4294967295 : Int) = ((4294967295 : Nat) : Int) from rfl, bits_xor_u32_nat _ _ hn (by decide)]; rfl⟩ ?_
 rintro ⟨i, x⟩ ⟨j, hi, hj, hx⟩
 have hi2 : i = Int.ofNat j := hi
 have hx2 : x = Int.ofNat (addN (n ^^^ 4294967295) (b.take j)) := hx
 rw [Int.ofNat_eq_natCast] at hi2 hx2
 cbv
 refine condI hA (fun hc => ?_) (fun hc => ?_)
 ·have hjl : j < b.length := by
   rw [hA] at hc
   simp only [std, decide_eq_true_eq, hlen] at hc
   rw [hi2] at hc
   exact_mod_cast hc
  cbv
  obtain ⟨c, hcv⟩ : ∃ c : Int, c = ((b[j]'hjl).toNat : Nat) := ⟨_, rfl⟩
  have hc256 := (b[j]'hjl).toNat_lt
  have hxlt := addN_lt (xlt hn) (b.take j)
  refine getII hA c (by rw [hcv]; exact bytesV_at hl hi2 hjl) ?_
  cbv
  have hy : addN (n ^^^ 4294967295) (b.take j) ^^^ (b[j]'hjl).toNat < 4294967296 := Nat.xor_lt_two_pow (n := 32) hxlt (by omega)
  refine loopF hA (ι := Int × Int) (fun p => { n := 37, sl := [(1, .v (.slice l)), (5, .v (.int .u32 p.2)), (6, .v (.int .i64 i)), (7, .v (.int .i64 p.1))], ob := [] })
   (fun p => ∃ k : Nat, p.1 = k ∧ k ≤ 8 ∧ p.2 = (ones k (addN (n ^^^ 4294967295) (b.take j) ^^^ (b[j]'hjl).toNat) : Nat)) (fun p => 8 - p.1.toNat) (_, _) (weakI rfl ⟨rfl, rfl, rfl, rfl, trivial⟩ trivial) ⟨0, rfl, Nat.zero_le _, by
    change A.bits .xor .u32 x (A.wrap .u32 c) = _
    rw [hA, hx2, hcv]; simp only [std]
    have : IntKind.u32.wrap (((b[j]'hjl).toNat : Nat) : Int) = (((b[j]'hjl).toNat : Nat) : Int) := by
     simp only [IntKind.wrap, IntKind.bits, IntKind.signed, Bool.false_and, Bool.false_eq_true, if_false]
     omega
    rw [this, bits_xor_u32_nat _ _ hxlt (by omega)]; rfl⟩ ?_
  rintro ⟨m, y⟩ ⟨k, hm, hk, hyv⟩
  have hm2 : m = Int.ofNat k := hm
  have hy2 : y = Int.ofNat (ones k (addN (n ^^^ 4294967295) (b.take j) ^^^ (b[j]'hjl).toNat)) := hyv
  rw [Int.ofNat_eq_natCast] at hm2 hy2
  have hol := ones_lt k hy
  cbv
  refine condI hA (fun hc2 => ?_) (fun hc2 => ?_)
  ·have hk8 : k < 8 := by
    rw [hA] at hc2
    simp only [std, decide_eq_true_eq] at hc2
    rw [hm2] at hc2
    exact_mod_cast hc2
   cbv
   refine nzI hA (by decide) ?_
   cbv
   have hodd : A.ieq (A.tmod y 2) 1 = decide (ones k (addN (n ^^^ 4294967295) (b.take j) ^^^ (b[j]'hjl).toNat) % 2 = 1) := by
    rw [hA, hy2]; exact rem_two _ hol
   have hq : A.wrap .u32 (A.tdiv y 2) = ((ones k (addN (n ^^^ 4294967295) (b.take j) ^^^ (b[j]'hjl).toNat) / 2 : Nat) : Int) := by
    rw [hA, hy2]; exact quo_two _ hol
   have hm1 : A.wrap .i64 (A.add m 1) = ((k + 1 : Nat) : Int) := by
    rw [hA, natEq hm2]; simp only [std]
    rw [wrap_i64 (by omega) (by omega)]; rfl
   refine condI hA (fun hc3 => ?_) (fun hc3 => ?_)
   ·have h1 : ones k (addN (n ^^^ 4294967295) (b.take j) ^^^ (b[j]'hjl).toNat) % 2 = 1 := of_decide_eq_true (hodd.symm.trans hc3)
    cbv
    refine nzI hA (by decide) ?_
    cbv
    refine ⟨(_, _), weakI rfl ⟨rfl, rfl, rfl, rfl, trivial⟩ trivial, ⟨k + 1, hm1, hk8, ?_⟩, ?_⟩
    ·change A.bits .xor .u32 (A.wrap .u32 (A.tdiv y 2)) 3988292384 = _
     rw [hq, hA]; simp only [std]
     rw [show (3988292384 : Int) = ((3988292384 : Nat) : Int) from rfl, bits_xor_u32_nat _ _ (by omega) (by decide), ones_succ, one, if_pos h1]
    ·change 8 - (A.wrap .i64 (A.add m 1)).toNat < 8 - m.toNat
     rw [natEq hm1, natEq hm2]; omega
   ·have h1 : ¬ ones k (addN (n ^^^ 4294967295) (b.take j) ^^^ (b[j]'hjl).toNat) % 2 = 1 := of_decide_eq_false (hodd.symm.trans hc3)
    cbv
    refine nzI hA (by decide) ?_
    cbv
    refine ⟨(_, _), weakI rfl ⟨rfl, rfl, rfl, rfl, trivial⟩ trivial, ⟨k + 1, hm1, hk8, ?_⟩, ?_⟩
    ·change A.wrap .u32 (A.tdiv y 2) = _
     rw [hq, ones_succ, one, if_neg h1]
    ·change 8 - (A.wrap .i64 (A.add m 1)).toNat < 8 - m.toNat
     rw [natEq hm1, natEq hm2]; omega
  ·have hk8 : k = 8 := by
    rw [hA] at hc2
    simp only [std, decide_eq_false_iff_not] at hc2
    rw [hm2] at hc2
    have : ¬ k < 8 := fun h => hc2 (by exact_mod_cast h)
    omega
   cbv
   have hi1 : A.wrap .i64 (A.add i 1) = ((j + 1 : Nat) : Int) := by
    rw [hA, natEq hi2]; simp only [std]
    rw [wrap_i64 (by omega) (by omega)]; rfl
   refine ⟨(_, _), weakI rfl ⟨rfl, rfl, rfl, trivial⟩ trivial, ⟨j + 1, hi1, hjl, ?_⟩, ?_⟩
   ·change y = _
    rw [hy2, hk8, addN_take hjl]; rfl
   ·change b.length - (A.wrap .i64 (A.add i 1)).toNat < b.length - i.toNat
    rw [natEq hi1, natEq hi2]; omega
 ·have hjl : j = b.length := by
   rw [hA] at hc
   simp only [std, decide_eq_false_iff_not, hlen] at hc
   rw [hi2] at hc
   have : ¬ j < b.length := fun h => hc (by exact_mod_cast h)
   omega
  cbv
  refine retI hA ?_
  simp only [retOk, rsOk, retIds, idsD, idsDs, softOb, toV, toVs, List.append_nil, List.nil_append, Option.some.injEq, V.int.injEq, V.bool.injEq, V.slice.injEq, V.agg.injEq, V.str.injEq, true_and, and_true, hA, std]
  rw [hr, hx2, hjl, List.take_length]
  rw [show (4294967295 : Int) = ((4294967295 : Nat) : Int) from rfl, bits_xor_u32_nat _ _ (addN_lt (xlt hn) b) (by decide)]; rfl
theorem c17 (b : List UInt8) (l : List V) (hl : l = bytesV b) (hb : b.length ≤ 140737488355328) : CallR Tryz.prog 114 [.slice l] fun rs => ∃ r : Int, rs = [.v (.int .u32 r)] ∧ r = (sumN 0 b : Nat) := by
 obtain ⟨r, hr⟩ : ∃ r : Int, r = (sumN 0 b : Nat) := ⟨_, rfl⟩
 refine ⟨[.v (.int .u32 r)], ?_, _, rfl, hr⟩
 refine FnR.of' T_ok M_ok (fn := Tryz.f114) (by kernel_rfl) rfl rfl rfl rfl (Nat.le_of_ble_eq_true rfl) fun A hA => ?_
 cbv
 refine callI hA (c23 0 0 b l rfl (by decide) hl hb) ?_
 rintro _ ⟨s, rfl, hs⟩
 cbv
 refine retI hA ?_
 simp only [retOk, rsOk, retIds, idsD, idsDs, softOb, toV, toVs, List.append_nil, List.nil_append, Option.some.injEq, V.int.injEq, V.bool.injEq, V.slice.injEq, V.agg.injEq, V.str.injEq, true_and, and_true, hA, std]
 rw [hs, hr]
open Go Go.RowKit
open Go Go.RowKit
open Go Go.RowKit
open Go Go.RowKit
def lenTwo (n : Nat) : List UInt8 := [UInt8.ofNat (n / 256 % 256), UInt8.ofNat (n % 256)]
def crcM (s : Nat) (b : List UInt8) : Nat := sumN 0 (fourB s ++ b)
def frameL (s : Nat) (b : List UInt8) : List UInt8 := lenTwo b.length ++ (fourB s ++ (fourB (crcM s b) ++ b))
def frameB (s : Nat) (b : List UInt8) : List UInt8 := if 1024 < b.length then [] else frameL s b
def frameE (b : List UInt8) : Int := if 1024 < b.length then 5 else 0
theorem fourB_len (n : Nat) : (fourB n).length = 4 := rfl
theorem shr_i64_8 (a : Nat) : Int.fdiv (a : Int) (2 ^ (min (Int.toNat 8) IntKind.i64.bits)) = ((a / 256 : Nat) : Int) := by
 have : (2 : Int) ^ (min (Int.toNat 8) IntKind.i64.bits) = ((256 : Nat) : Int) := by decide
 rw [this, Int.fdiv_eq_ediv_of_nonneg _ (by omega)]
 rfl
theorem two_shr {A : Prim} {P : Program} {R : List (Nat × AObj) → List D → Prop} (hA : A = std P R) {a : Int} {n : Nat} (ha : a = n) : [V.int .u8 (A.wrap .u8 (A.shr .i64 a 8)), .int .u8 (A.wrap .u8 a)] = bytesV (lenTwo n) := by
 rw [hA, ha]; simp only [std]
 rw [shr_i64_8, wrap_u8, wrap_u8, byteV (n := n / 256) rfl, byteV (n := n) rfl]; rfl
theorem two_div {A : Prim} {P : Program} {R : List (Nat × AObj) → List D → Prop} (hA : A = std P R) {a : Int} {n : Nat} (ha : a = n) (hn : n ≤ 1000000) : [V.int .u8 (A.wrap .u8 (A.wrap .i64 (A.tdiv a 256))), .int .u8 (A.wrap .u8 (A.tmod a 256))] = bytesV (lenTwo n) := by
 rw [hA, ha]; simp only [std]
 rw [show (256 : Int) = ((256 : Nat) : Int) from rfl, tdiv_nat, tmod_nat, wrap_i64 (by omega) (by omega), wrap_u8, wrap_u8, Nat.mod_mod, byteV (n := n / 256) rfl, byteV (n := n) rfl]; rfl
theorem crc_eq (s : Nat) (b : List UInt8) : addN (addN 4294967295 (fourB s)) b ^^^ 4294967295 = crcM s b := by
 rw [← addN_append]; rfl
theorem frame_flat (s : Nat) (b : List UInt8) : [lenTwo b.length, fourB s, fourB (crcM s b), b].flatten = frameL s b := by
 simp [frameL]
theorem cFrame (v : Int) (s : Nat) (b : List UInt8) (l : List V) (hv : v = s) (hs : s < 4294967296) (hl : l = bytesV b) : CallR Tryz.prog 47 [.int .u32 v, .slice l] fun rs => ∃ (r : List V) (e : Int), rs = [.v (.slice r), .v (.int .i64 e)] ∧ r = bytesV (frameB s b) ∧ e = frameE b := by
 obtain ⟨r, hr⟩ : ∃ r, r = bytesV (frameB s b) := ⟨_, rfl⟩
 obtain ⟨e, he⟩ : ∃ e, e = frameE b := ⟨_, rfl⟩
 refine .of [.v (.slice r), .v (.int .i64 e)] ⟨r, e, rfl, hr, he⟩ ?_
 refine FnR.of' T_ok M_ok (fn := Tryz.f47) (by kernel_rfl) rfl rfl rfl rfl (Nat.le_of_ble_eq_true rfl) fun A hA => ?_
 cbv
 refine condI hA (fun h1 => ?_) (fun h1 => ?_)
 ·have h1 := bGtT hA (m := 1024) hl rfl h1
  cbv
  refine retI hA ?_
  refine ⟨congrArg (fun q => some (V.slice q)) ?_, congrArg (fun q => some (V.int .i64 q)) ?_, trivial⟩
  ·rw [hr]; unfold frameB; rw [if_pos h1]; rfl
  ·rw [he]; unfold frameE; rw [if_pos h1]
 ·have h1 := bGtF hA (m := 1024) hl rfl h1
  cbv
  refine callI hA (c21) ?_
  intro rs_ h_
  obtain ⟨s0, q_1, hs0⟩ := h_
  subst q_1
  cbv
  refine callI hA (cFour v s hv) ?_
  intro rs_ h_
  obtain ⟨f1, q_1, hf1⟩ := h_
  subst q_1
  cbv
  refine callI hA (c22 s0 _ _ _ hs0 (by decide) hf1 (by simp [fourB_len])) ?_
  intro rs_ h_
  obtain ⟨s1, q_1, hs1⟩ := h_
  subst q_1
  cbv
  refine callI hA (c22 s1 _ _ _ hs1 (addN_lt (by decide) _) hl (by omega)) ?_
  intro rs_ h_
  obtain ⟨s2, q_1, hs2⟩ := h_
  subst q_1
  cbv
  refine callI hA (c20 s2 _ hs2 (addN_lt (addN_lt (by decide) _) _)) ?_
  intro rs_ h_
  obtain ⟨s3, q_1, hs3⟩ := h_
  subst q_1
  cbv
  rw [crc_eq] at hs3
  refine nnegI hA (by decide) ?_
  cbv
  have k1 := two_shr hA (lenI hA hl)
  refine callI hA (cFour v s hv) ?_
  intro rs_ h_
  obtain ⟨f2, q_1, hf2⟩ := h_
  subst q_1
  cbv
  refine callI hA (cFour s3 _ hs3) ?_
  intro rs_ h_
  obtain ⟨f3, q_1, hf3⟩ := h_
  subst q_1
  cbv
  have hx : [V.slice [V.int .u8 (A.wrap .u8 (A.shr .i64 (A.lenL l) 8)), .int .u8 (A.wrap .u8 (A.lenL l))], .slice f2, .slice f3, .slice l] = listsV [lenTwo b.length, fourB s, fourB (crcM s b), b] := by
   rw [k1, hf2, hf3, hl]; rfl
  refine callI hA (cConcat _ _ hx (by simp) (by simp [lenTwo, fourB_len]; omega)) ?_
  intro rs_ h_
  obtain ⟨r2, q_1, hr2⟩ := h_
  subst q_1
  cbv
  rw [frame_flat] at hr2
  refine retI hA ?_
  refine ⟨congrArg (fun q => some (V.slice q)) ?_, congrArg (fun q => some (V.int .i64 q)) ?_, trivial⟩
  ·rw [hr, hr2]; unfold frameB; rw [if_neg h1]
  ·rw [he]; unfold frameE; rw [if_neg h1]
theorem cFrame12 (v : Int) (s : Nat) (b : List UInt8) (l : List V) (hv : v = s) (hs : s < 4294967296) (hl : l = bytesV b) : CallR Tryz.prog 84 [.int .u32 v, .slice l] fun rs => ∃ (r : List V) (e : Int), rs = [.v (.slice r), .v (.int .i64 e)] ∧ r = bytesV (frameB s b) ∧ e = frameE b := by
 obtain ⟨r, hr⟩ : ∃ r, r = bytesV (frameB s b) := ⟨_, rfl⟩
 obtain ⟨e, he⟩ : ∃ e, e = frameE b := ⟨_, rfl⟩
 refine .of [.v (.slice r), .v (.int .i64 e)] ⟨r, e, rfl, hr, he⟩ ?_
 refine FnR.of' T_ok M_ok (fn := Tryz.f84) (by kernel_rfl) rfl rfl rfl rfl (Nat.le_of_ble_eq_true rfl) fun A hA => ?_
 cbv
 refine condI hA (fun h1 => ?_) (fun h1 => ?_)
 ·have h1 := bGtT hA (m := 1024) hl rfl h1
  cbv
  refine retI hA ?_
  refine ⟨congrArg (fun q => some (V.slice q)) ?_, congrArg (fun q => some (V.int .i64 q)) ?_, trivial⟩
  ·rw [hr]; unfold frameB; rw [if_pos h1]; rfl
  ·rw [he]; unfold frameE; rw [if_pos h1]
 ·have h1 := bGtF hA (m := 1024) hl rfl h1
  cbv
  refine callI hA (cFour12 v s hv) ?_
  intro rs_ h_
  obtain ⟨f1, q_1, hf1⟩ := h_
  subst q_1
  cbv
  refine sizedI hA (bytesV_flat hl) ?_
  cbv
  refine roomI hA (room_of hf1 hl (by simp [fourB_len]; omega)) ?_
  cbv
  have k0 := app_of hA hf1 hl
  refine nzI hA (by decide) ?_
  cbv
  refine nzI hA (by decide) ?_
  cbv
  have k1 := two_div hA (lenI hA hl) (by omega)
  refine callI hA (cFour12 v s hv) ?_
  intro rs_ h_
  obtain ⟨f2, q_1, hf2⟩ := h_
  subst q_1
  cbv
  refine roomI hA (room_of k1 hf2 (by simp [fourB_len, lenTwo])) ?_
  cbv
  have k2 := app_of hA k1 hf2
  refine callI hA (c17 _ _ k0 (by simp [fourB_len]; omega)) ?_
  intro rs_ h_
  obtain ⟨s3, q_1, hs3⟩ := h_
  subst q_1
  cbv
  refine callI hA (cFour12 s3 _ hs3) ?_
  intro rs_ h_
  obtain ⟨f3, q_1, hf3⟩ := h_
  subst q_1
  cbv
  refine roomI hA (room_of k2 hf3 (by simp [fourB_len, lenTwo])) ?_
  cbv
  have k3 := app_of hA k2 hf3
  refine sizedI hA (bytesV_flat hl) ?_
  cbv
  refine roomI hA (room_of k3 hl (by simp [fourB_len, lenTwo]; omega)) ?_
  cbv
  have k4 := app_of hA k3 hl
  refine retI hA ?_
  refine ⟨congrArg (fun q => some (V.slice q)) ?_, congrArg (fun q => some (V.int .i64 q)) ?_, trivial⟩
  ·refine k4.trans ?_
   rw [hr]; unfold frameB frameL crcM; rw [if_neg h1]; simp
  ·rw [he]; unfold frameE; rw [if_neg h1]
open Go Go.RowKit
def recV (g : RecM) : V := .agg [.int .u8 g.k, .slice (strsV g.path), .int .i64 g.sz, .int .u32 g.sm, .int .i64 g.mi, .int .i64 g.mo, .int .u32 g.si, .int .u32 g.so]
def recsV (gs : List RecM) : List V := gs.map recV
theorem recsV_len (gs : List RecM) : (recsV gs).length = gs.length := by simp [recsV]
theorem lenRs {l : List V} {gs : List RecM} (h : l = recsV gs) : l.length = gs.length := by rw [h, recsV_len]
def twoM : List UInt8 → Nat
 | x :: y :: _ => x.toNat * 256 + y.toNat
 | _ => 0
def stepM (s : Nat) (b : List UInt8) : Option (RecM × Nat) :=
 if b.length < 10 then none else if b.length < 10 + twoM b then none else
 if frameE ((b.take (10 + twoM b)).drop 10) = 0 ∧ frameB s ((b.take (10 + twoM b)).drop 10) = b.take (10 + twoM b) ∧ getE ((b.take (10 + twoM b)).drop 10) = 0 then some (getR ((b.take (10 + twoM b)).drop 10), 10 + twoM b) else none
theorem stepM_some {s : Nat} {b : List UInt8} {r : RecM × Nat} (h : stepM s b = some r) : 10 ≤ r.2 ∧ r.2 ≤ b.length := by
 unfold stepM at h
 split at h
 ·cases h
 ·split at h
  ·cases h
  ·split at h
   ·cases h; exact ⟨by simp, by simp; omega⟩
   ·cases h
def scanM (s : Nat) (b : List UInt8) : List RecM × Nat :=
 match h : stepM s b with
 | some r => (r.1 :: (scanM (s + 1) (b.drop r.2)).1, r.2 + (scanM (s + 1) (b.drop r.2)).2)
 | none => ([], 0)
termination_by b.length
decreasing_by all_goals (have := stepM_some h; simp only [List.length_drop]; omega)
theorem scanM_some {s : Nat} {b : List UInt8} {r : RecM × Nat} (h : stepM s b = some r) : scanM s b = (r.1 :: (scanM (s + 1) (b.drop r.2)).1, r.2 + (scanM (s + 1) (b.drop r.2)).2) := by
 rw [scanM]; split
 ·rename_i r' h'; rw [h] at h'; cases h'; rfl
 ·rename_i h'; rw [h] at h'; cases h'
theorem scanM_none {s : Nat} {b : List UInt8} (h : stepM s b = none) : scanM s b = ([], 0) := by
 rw [scanM]; split
 ·rename_i r' h'; rw [h] at h'; cases h'
 ·rfl
def From (b : List UInt8) (n : Nat) (gs : List RecM) : Prop := n ≤ b.length ∧ gs.length * 10 ≤ n ∧ scanM 0 b = (gs ++ (scanM gs.length (b.drop n)).1, n + (scanM gs.length (b.drop n)).2)
theorem From.zero (b : List UInt8) : From b 0 [] := ⟨by simp, by simp, by simp⟩
theorem From.next {b : List UInt8} {n : Nat} {gs : List RecM} (h : From b n gs) {r : RecM × Nat} (k : stepM gs.length (b.drop n) = some r) : From b (n + r.2) (gs ++ [r.1]) := by
 obtain ⟨h1, h2, h3⟩ := h
 have q := stepM_some k
 rw [List.length_drop] at q
 refine ⟨by omega, by simp; omega, ?_⟩
 rw [h3, scanM_some k, List.drop_drop]
 simp only [List.length_append, List.length_singleton, List.append_assoc, List.singleton_append, Nat.add_assoc]
theorem From.stop {b : List UInt8} {n : Nat} {gs : List RecM} (h : From b n gs) (k : stepM gs.length (b.drop n) = none) : scanM 0 b = (gs, n) := by
 rw [h.2.2, scanM_none k]; simp
theorem twoM_at {b : List UInt8} {n : Nat} (h0 : n < b.length) (h1 : n + 1 < b.length) : twoM (b.drop n) = b[n].toNat * 256 + b[n + 1].toNat := by
 rw [List.drop_eq_getElem_cons h0, List.drop_eq_getElem_cons h1]; rfl
theorem cut_at (b : List UInt8) (n t k : Nat) : (b.take (n + t)).drop (n + k) = ((b.drop n).take t).drop k := by
 rw [← List.drop_drop, List.drop_take, Nat.add_sub_cancel_left]
theorem take_at (b : List UInt8) (n t : Nat) : (b.take (n + t)).drop n = (b.drop n).take t := by
 rw [List.drop_take, Nat.add_sub_cancel_left]
section
variable {A : Prim} {P : Program} {R : List (Nat × AObj) → List D → Prop} (hA : A = std P R)
include hA
theorem subI {a b : Int} {m n : Nat} (ha : a = m) (hb : b = n) (h : n ≤ m) (hm : m ≤ 4000000000000000000) : A.wrap .i64 (A.sub a b) = ((m - n : Nat) : Int) := by
 rw [hA, ha, hb]; simp only [std]
 rw [show (m : Int) - (n : Int) = ((m - n : Nat) : Int) from by omega]; exact wrap_i64 (by omega) (by omega)
theorem nLeT {k n : Int} {c m : Nat} (hk : k = c) (hn : n = m) (h : A.ile k n = true) : c ≤ m := by
 have := leT hA h; rw [hk, hn] at this; omega
theorem nLeF {k n : Int} {c m : Nat} (hk : k = c) (hn : n = m) (h : A.ile k n = false) : ¬ c ≤ m := by
 have := leF hA h; rw [hk, hn] at this; omega
theorem wSmall {n : Int} {m : Nat} (hn : n = m) (hm : m < 256) : A.wrap .i64 n = ((m : Nat) : Int) := wI hA hn (by omega)
theorem app_rs {x y : List V} {a b : List RecM} (hx : x = recsV a) (hy : y = recsV b) : A.app x y = recsV (a ++ b) := by
 rw [hA]; simp only [std]; rw [hx, hy]; simp [recsV]
theorem lenR {x : List V} {a : List RecM} (hx : x = recsV a) : A.lenL x = (a.length : Nat) := by rw [hA]; simp only [std]; rw [lenRs hx]
theorem wU' {n : Int} {m : Nat} (hn : n = m) (hm : m < 4294967296) : A.wrap .u32 n = ((m : Nat) : Int) := wU hA hn hm
end
theorem cScan (b : List UInt8) (l : List V) (hl : l = bytesV b) (hb : b.length ≤ 4000000000) : CallR Tryz.prog 40 [.slice l] fun rs => ∃ (r : List V) (e : Int), rs = [.v (.slice r), .v (.int .i64 e)] ∧ r = recsV (scanM 0 b).1 ∧ e = ((scanM 0 b).2 : Nat) := by
 obtain ⟨r, hr⟩ : ∃ r, r = recsV (scanM 0 b).1 := ⟨_, rfl⟩
 obtain ⟨e, he⟩ : ∃ e : Int, e = ((scanM 0 b).2 : Nat) := ⟨_, rfl⟩
 refine .of [.v (.slice r), .v (.int .i64 e)] ⟨r, e, rfl, hr, he⟩ ?_
 refine FnR.of' T_ok M_ok (fn := Tryz.f40) (by kernel_rfl) rfl rfl rfl rfl (Nat.le_of_ble_eq_true rfl) fun A hA => ?_
 cbv
 refine loopF hA (ι := Int × List V) (fun p => { n := 74, sl := [(0, .v (.slice l)), (4, .own 70), (5, .v (.int .i64 p.1))], ob := [(70, .row 8 p.2 true)] })
  (fun p => ∃ (n : Nat) (gs : List RecM), p.1 = n ∧ p.2 = recsV gs ∧ From b n gs) (fun p => b.length - p.1.toNat) (_, _) ((weak_nils _ 4 70 8 true rfl).trans (weakI rfl ⟨rfl, rfl, rfl, trivial⟩ ⟨rfl, trivial⟩)) ⟨0, [], rfl, rfl, From.zero b⟩ ?_
 rintro ⟨i, x⟩ ⟨n, gs, hi, hx, hF⟩
 dsimp only at hi hx
 obtain ⟨hnb, hgn, _⟩ := id hF
 have stop : stepM gs.length (b.drop n) = none → x = r ∧ i = e := fun k => by
  have q := hF.stop k
  rw [hr, he, q, hx, hi]; exact ⟨rfl, rfl⟩
 have hlen : (b.drop n).length = b.length - n := List.length_drop
 cbv
 refine condI hA (fun hc => ?_) (fun hc => ?_)
 ·have h10 := nLeT hA (c := 10) rfl (subI hA (lenI hA hl) (natEq hi) hnb (by omega)) hc
  have t2 := twoM_at (b := b) (n := n) (by omega) (by omega)
  obtain ⟨t, ht⟩ : ∃ t, t = twoM (b.drop n) := ⟨_, rfl⟩
  have c8 := (b[n]'(by omega)).toNat_lt
  have d8 := (b[n + 1]'(by omega)).toNat_lt
  have hn1 := addI hA (natEq hi) (b := 1) (n := 1) rfl (by omega)
  have hn10 := addI hA (natEq hi) (b := 10) (n := 10) rfl (by omega)
  cbv
  refine chkI hA (by kernel_rfl) ?_
  cbv
  refine getBN hA hl (natEq hi) (by omega) ?_
  rintro v0 hv0
  cbv
  refine nnegI hA (by decide) ?_
  cbv
  refine getBN hA hl hn1 (by omega) ?_
  rintro v1 hv1
  cbv
  have hto := addI hA (addI hA hn10 (shl8 hA hv0 c8) (by omega)) (wSmall hA hv1 d8) (by omega)
  rw [show n + 10 + (b[n]'(by omega)).toNat * 256 + (b[n + 1]'(by omega)).toNat = n + (10 + t) from by omega] at hto
  refine condI hA (fun h1 => ?_) (fun h1 => ?_)
  ·have h1 := bLtT hA hl hto h1
   have q := stop (by unfold stepM; rw [if_neg (by omega), if_pos (by omega)])
   cbv
   refine retI hA ?_
   exact ⟨congrArg (fun q => some (V.slice q)) q.1, congrArg (fun q => some (V.int .i64 q)) q.2, trivial⟩
  ·have h1 := bLtF hA hl hto h1
   have ht2 : n + (10 + t) ≤ b.length := by omega
   cbv
   refine sizedI hA (bytesV_flat hl) ?_
   cbv
   refine subLN hA (sub_of hn10 hto hl (by omega) ht2) ?_
   rintro bd hbd
   have hbd := cutMid hn10 hto hl hbd
   rw [cut_at] at hbd
   cbv
   have hbl : (((b.drop n).take (10 + t)).drop 10).length ≤ b.length := by simp; omega
   have hseq := wU' hA (lenR hA hx) (by omega)
   refine callI hA (cFrame _ _ _ _ hseq (by omega) hbd) ?_
   intro rs_ h_
   obtain ⟨fr, e1, q_1, hfr, he1⟩ := h_
   subst q_1
   cbv
   have hstep : stepM gs.length (b.drop n) = if frameE (((b.drop n).take (10 + t)).drop 10) = 0 ∧ frameB gs.length (((b.drop n).take (10 + t)).drop 10) = (b.drop n).take (10 + t) ∧ getE (((b.drop n).take (10 + t)).drop 10) = 0 then some (getR (((b.drop n).take (10 + t)).drop 10), 10 + t) else none := by
    unfold stepM; rw [if_neg (by omega), if_neg (by omega), ht]
   refine condI hA (fun h2 => ?_) (fun h2 => ?_)
   ·have h2 := ine_err hA h2
    have q := stop (by rw [hstep, if_neg fun h => h2 (he1.trans h.1)])
    cbv
    refine retI hA ?_
    exact ⟨congrArg (fun q => some (V.slice q)) q.1, congrArg (fun q => some (V.int .i64 q)) q.2, trivial⟩
   ·have h2 := ine_ok hA h2
    cbv
    refine sizedI hA (bytesV_flat hl) ?_
    cbv
    refine subLN hA (sub_of (natEq hi) hto hl (by omega) ht2) ?_
    rintro w hw
    have hw := cutMid (natEq hi) hto hl hw
    rw [take_at] at hw
    cbv
    refine callI hA (cEqualB _ _ fr w hfr hw (by unfold frameB frameL; split <;> simp [lenTwo, fourB_len]; omega)) ?_
    intro rs_ h_
    obtain ⟨c1, q_1, hc1⟩ := h_
    subst q_1
    cbv
    refine condI hA (fun h3 => ?_) (fun h3 => ?_)
    ·have h3 : ¬ frameB gs.length (((b.drop n).take (10 + t)).drop 10) = (b.drop n).take (10 + t) := fun h => by have := notT hA h3; rw [hc1, h] at this; simp at this
     have q := stop (by rw [hstep, if_neg fun h => h3 h.2.1])
     cbv
     refine retI hA ?_
     exact ⟨congrArg (fun q => some (V.slice q)) q.1, congrArg (fun q => some (V.int .i64 q)) q.2, trivial⟩
    ·have h3 : frameB gs.length (((b.drop n).take (10 + t)).drop 10) = (b.drop n).take (10 + t) := by have := notF hA h3; rw [hc1] at this; simpa using this
     cbv
     refine callI hA (cGet _ bd hbd (by omega)) ?_
     intro rs_ h_
     obtain ⟨g, lp, e2, q_1, hg, hlp, he2⟩ := h_
     subst q_1
     cbv
     refine condI hA (fun h4 => ?_) (fun h4 => ?_)
     ·have h4 := ine_err hA h4
      have q := stop (by rw [hstep, if_neg fun h => h4 (he2.trans h.2.2)])
      cbv
      refine retI hA ?_
      exact ⟨congrArg (fun q => some (V.slice q)) q.1, congrArg (fun q => some (V.int .i64 q)) q.2, trivial⟩
     ·have h4 := ine_ok hA h4
      have k := hF.next (r := (getR (((b.drop n).take (10 + t)).drop 10), 10 + t)) (by rw [hstep, if_pos ⟨he1.symm.trans h2, h3, he2.symm.trans h4⟩])
      dsimp only at k
      have hg1 : [V.agg [.int .u8 g.k, .slice lp, .int .i64 g.sz, .int .u32 g.sm, .int .i64 g.mi, .int .i64 g.mo, .int .u32 g.si, .int .u32 g.so]] = recsV [getR (((b.drop n).take (10 + t)).drop 10)] := by
       rw [hlp, hg]; rfl
      cbv
      refine roomI hA (by rw [hx, recsV_len]; simp; omega) ?_
      cbv
      exact ⟨(_, _), weakI rfl ⟨rfl, rfl, rfl, trivial⟩ ⟨rfl, trivial⟩, ⟨_, _, hto, app_rs hA hx hg1, k⟩, by
       change b.length - (A.wrap .i64 _).toNat < b.length - i.toNat
       rw [hto, natEq hi]; simp; omega⟩
 ·have h10 := nLeF hA (c := 10) rfl (subI hA (lenI hA hl) (natEq hi) hnb (by omega)) hc
  have q := stop (by unfold stepM; rw [if_pos (by omega)])
  cbv
  refine retI hA ?_
  exact ⟨congrArg (fun q => some (V.slice q)) q.1, congrArg (fun q => some (V.int .i64 q)) q.2, trivial⟩
open Go Go.RowKit
def cloV (f : Bool × Nat × List V) : V := if f.1 then .mth f.2.1 f.2.2 else .clo f.2.1 f.2.2
def CapOk (m : Bool) (caps : List V) : Prop := (∃ x, caps = [x]) ∨ (m = false ∧ ∃ x y, caps = [x, y]) ∨ m = false ∧ ∃ x y z, caps = [x, y, z]
def ChainP : List (Bool × Nat × List V) → GH → (Int → GH → Prop) → Prop
 | [], gh, post => post 0 gh
 | (m, f, caps) :: r, gh, post => CapOk m caps ∧ ∃ Q : Int → GH → Prop, FnG Tryz.prog f caps gh (fun rs g => ∃ e : Int, rs = [.v (.int .i64 e)] ∧ Q e g) ∧ (∀ e g, Q e g → e ≠ 0 → post e g) ∧ ∀ g, Q 0 g → ChainP r g post
theorem gChain {gh : GH} (fs : List (Bool × Nat × List V)) (l : List V) (hl : l = fs.map cloV) (hn : fs.length ≤ 1000) (post : Int → GH → Prop) (h : ChainP fs gh post) : FnG Tryz.prog 45 [.slice l] gh fun rs g => ∃ e : Int, rs = [.v (.int .i64 e)] ∧ post e g := by
 have hll : l.length = fs.length := by rw [hl, List.length_map]
 have hdrop : ∀ (j : Nat) (g : GH) (m : Int), m = (j : Nat) → j < fs.length → ChainP (fs.drop j) g post → ∃ b f caps, l[m.toNat]? = some (cloV (b, f, caps)) ∧ CapOk b caps ∧ ∃ Q : Int → GH → Prop, FnG Tryz.prog f caps g (fun rs g => ∃ e : Int, rs = [.v (.int .i64 e)] ∧ Q e g) ∧ (∀ e g, Q e g → e ≠ 0 → post e g) ∧ ∀ g, Q 0 g → ChainP (fs.drop (j + 1)) g post := fun j g m hm hj hc => by
  obtain ⟨⟨b, f, caps⟩, hf⟩ : ∃ x, fs[j]? = some x := ⟨_, List.getElem?_eq_getElem hj⟩
  have hd : fs.drop j = (b, f, caps) :: fs.drop (j + 1) := by
   rw [List.drop_eq_getElem_cons hj]; congr 1
   rw [List.getElem?_eq_getElem hj] at hf; exact Option.some.inj hf
  rw [hd] at hc
  exact ⟨b, f, caps, by rw [hm, hl, Int.toNat_natCast, List.getElem?_map, hf]; rfl, hc⟩
 have hup : ∀ (j : Nat) (m : Int), m = (j : Nat) → j < fs.length → w64 (m + 1) = ((j + 1 : Nat) : Int) ∧ fs.length - (j + 1) < fs.length - m.toNat := fun j m hm hj => by
  rw [hm, w64_id (by omega)]
  exact ⟨by omega, by omega⟩
 refine FnG.of' T_ok M_ok [] (fn := Tryz.f45) (by kernel_rfl) rfl rfl rfl rfl (Nat.le_of_ble_eq_true rfl) fun A hA => ?_
 cbv
 have hlen : A.lenL l = (fs.length : Nat) := by rw [hA]; exact congrArg Nat.cast hll
 refine loopF hA (ι := Int × GH) (fun q => { n := 18, sl := [(2, .v (.int .i64 0)), (6, .v (.slice l)), (7, .v (.int .i64 (A.lenL l))), (8, .v (.int .i64 q.1))], ob := [(hk, .heap q.2 [])] }) (fun q => ∃ j : Nat, q.1 = (j : Nat) ∧ j ≤ fs.length ∧ ChainP (fs.drop j) q.2 post) (fun q => fs.length - q.1.toNat) (_, _) (weakI rfl ⟨rfl, rfl, rfl, rfl, trivial⟩ ⟨rfl, trivial⟩) ⟨0, rfl, Nat.zero_le _, h⟩ ?_
 rintro ⟨m, g⟩ ⟨j, hm, hj, hc⟩
 dsimp only at hm hj hc
 cbv
 refine condI hA (fun h1 => ?_) (fun h1 => ?_)
 ·have h1 : m < A.lenL l := zltT hA h1
  rw [hlen, hm] at h1
  have hj2 : j < fs.length := Int.ofNat_lt.1 h1
  obtain ⟨b, f, caps, hf, hcap, Q, hQ, hne, hnx⟩ := hdrop j g m hm hj2 hc
  rcases hcap with ⟨x, rfl⟩ | ⟨rfl, x, y, rfl⟩ | ⟨rfl, x, y, z, rfl⟩
  cases b
  all_goals
   cbv
   refine getXN hA ⟨by rw [hm]; exact Int.natCast_nonneg _, hf, rfl⟩ ?_
   rintro r rfl
   cbv
   refine callGI hA (hQ) ?_
   intro rs_ g2 h_
   obtain ⟨e, q_1, hq⟩ := h_
   subst q_1
   cbv
   refine condI hA (fun h2 => ?_) (fun h2 => ?_)
   ·have h2 := zneT hA h2
    cbv
    exact retGI hA rfl [.v (.int .i64 e)] g2 (⟨e, rfl, hne e g2 hq h2⟩)
   ·have h2 := zneF hA h2
    cbv
    refine ⟨(_, g2), weakI rfl ⟨rfl, rfl, rfl, rfl, trivial⟩ ⟨rfl, trivial⟩, ⟨j + 1, (zadd hA m 1).trans (hup j m hm hj2).1, hj2, hnx g2 (h2 ▸ hq)⟩, ?_⟩
    change fs.length - (A.wrap .i64 (A.add m 1)).toNat < fs.length - m.toNat
    rw [zadd hA, (hup j m hm hj2).1]; exact (hup j m hm hj2).2
 ·have h1 : ¬ m < A.lenL l := zltF hA h1
  rw [hlen, hm] at h1
  have hj2 : j = fs.length := Nat.le_antisymm hj (Nat.not_lt.1 fun q => h1 (Int.ofNat_lt.2 q))
  rw [hj2, List.drop_length] at hc
  cbv
  exact retGI hA rfl [.v (.int .i64 0)] g (⟨0, rfl, hc⟩)
open Go Go.RowKit
def jName : Bs := [46, 103, 101, 115, 115, 111]
theorem Side.upd' {gh g : GH} {lab lab' : Lab} {x : Nat} {o : GObj} {T : Nat × Nat → Prop} {X : Nat → Prop} (h : Side gh lab x o) (u : Upd gh g lab lab' T X) (hX : ¬ X x) : Side g lab' x o :=
 ⟨(u.get x h.lt hX (fun r e => by rw [h.no] at e; cases e)).trans h.at_, (u.old x h.lt).trans h.no, Nat.lt_of_lt_of_le h.lt u.next⟩
theorem DI.upd {gh g : GH} {lab lab' : Lab} {X : Nat → Prop} {p : Nat} {k : Dk} {B : Nat} (h : DI gh lab p k B) (u : Upd gh g lab lab' (fun _ => False) X) (hX : ∀ x, X x → lab x = none) : DI g lab' p k B := by
 obtain ⟨v, ids, q⟩ := h.i.at_.x
 exact ⟨⟨(q.upd u hX).at, h.i.one⟩, h.ok, h.cap⟩
def jBox (p : Nat) (file n : Int) : GObj := .box [.gp p 0, .int .i64 file, .int .i64 n]
structure JD (gh : GH) (lab : Lab) (p : Nat) (k : Dk) (B : Nat) (jp : Nat) (file n : Int) : Prop where
 d : DI gh lab p k B
 j : Side gh lab jp (jBox p file n)
def JDid (gh : GH) (lab : Lab) (p : Nat) (k : Dk) (B : Nat) (jp : Nat) (file n : Int) (g : GH) : Prop := ∃ lab', Upd gh g lab lab' (fun _ => True) (fun x => x = jp) ∧ JD g lab' p k B jp file n
theorem JD.did {gh g : GH} {lab : Lab} {p : Nat} {k k' : Dk} {B B' jp : Nat} {file n : Int} (h : JD gh lab p k B jp file n) (hd : Did gh lab p k' B' g) : JDid gh lab p k' B' jp file n g := by
 obtain ⟨lab', u, q⟩ := hd
 exact ⟨lab', u.weak (fun _ h => h) (fun _ h => h.elim), q, h.j.upd u⟩
theorem JDid.trans {gh g g' : GH} {lab : Lab} {p : Nat} {k k' : Dk} {B B' jp : Nat} {file n file' n' : Int} (h : JDid gh lab p k B jp file n g) (h2 : ∀ lab', JD g lab' p k B jp file n → JDid g lab' p k' B' jp file' n' g') : JDid gh lab p k' B' jp file' n' g' := by
 obtain ⟨lab', u, q⟩ := h
 obtain ⟨lab2, u2, q2⟩ := h2 lab' q
 exact ⟨lab2, u.trans u2, q2⟩
theorem JD.dom {gh : GH} {lab : Lab} {p : Nat} {k : Dk} {B jp : Nat} {file n : Int} (h : JD gh lab p k B jp file n) : Dom gh lab := h.d.i.at_.1
theorem JD.self {gh : GH} {lab : Lab} {p : Nat} {k : Dk} {B B' jp : Nat} {file n : Int} (h : JD gh lab p k B jp file n) (hB : B ≤ B') : JDid gh lab p k B' jp file n gh := ⟨lab, Upd.refl h.dom _ _, h.d.mono hB, h.j⟩
theorem JD.put {gh g : GH} {lab : Lab} {p : Nat} {k : Dk} {B jp : Nat} {file n file' n' : Int} (h : JD gh lab p k B jp file n) (hg : g = gh.set jp (jBox p file' n')) : JDid gh lab p k B jp file' n' g := by
 have u : Upd gh g lab lab (fun _ => False) (fun x => x = jp) := Upd.mk0 h.dom (by rw [hg]; exact Nat.le_refl _) fun x hx q1 q2 => by rw [hg]; simp only [GH.set_get]; rw [if_neg q1]
 exact ⟨lab, u.weak (fun _ h => h.elim) (fun _ h => .inl h), h.d.upd u (fun x e => by rw [e]; exact h.j.no), by rw [hg]; simp, h.j.no, by rw [hg]; exact h.j.lt⟩
theorem JDid.mono {gh g : GH} {lab : Lab} {p : Nat} {k : Dk} {B B' jp : Nat} {file n : Int} (h : JDid gh lab p k B jp file n g) (hB : B ≤ B') : JDid gh lab p k B' jp file n g := by
 obtain ⟨lab', u, q⟩ := h
 exact ⟨lab', u, q.d.mono hB, q.j⟩
theorem i64_1 : I64 1 := by unfold I64; omega
def Dk.beginD (k : Dk) (file : Int) : Dk × Int × Int := if file ≠ 0 then (k, file, 0) else
 let r := k.makeD 1 jName false
 if r.2.2 ≠ 0 then (r.1, file, r.2.2) else ((r.1.syncD 1).1, r.2.1, (r.1.syncD 1).2)
theorem gBegin {gh : GH} {lab : Lab} {p : Nat} {k : Dk} {B jp : Nat} {file n : Int} (h : JD gh lab p k B jp file n) (hB : B + 1 ≤ 1000000000) : FnG Tryz.prog 48 [.gp jp 0] gh fun rs g => ∃ e : Int, rs = [.v (.int .i64 e)] ∧ e = (k.beginD file).2.2 ∧ JDid gh lab p (k.beginD file).1 (B + 1) jp (k.beginD file).2.1 n g := by
 have hj := h.j.at_
 unfold jBox at hj
 have hcr := dCreate h.d (by omega) 1 i64_1 jName
 refine FnG.of' T_ok M_ok [] (fn := Tryz.f48) (by kernel_rfl) rfl rfl rfl rfl (Nat.le_of_ble_eq_true rfl) fun A hA => ?_
 cbv
 refine gldI hA _ (hj) ?_
 cbv
 refine condI hA (fun h1 => ?_) (fun h1 => ?_)
 ·have h1 := zneT hA h1
  have q : k.beginD file = (k, file, 0) := by unfold Dk.beginD; rw [if_pos h1]
  cbv
  exact retGI hA rfl [.v (.int .i64 0)] gh (⟨0, rfl, by rw [q], by rw [q]; exact h.self (Nat.le_succ _)⟩)
 ·have h1 := zneF hA h1
  cbv
  refine gldI hA _ (hj) ?_
  cbv
  refine callGI hA (hcr) ?_
  intro rs_ g1 h_
  obtain ⟨f, e, q_1, hf, he, hd⟩ := h_
  subst q_1
  cbv
  obtain ⟨lab1, u1, hj1⟩ := h.did hd
  refine condI hA (fun h2 => ?_) (fun h2 => ?_)
  ·have h2 := zneT hA h2
   have q : k.beginD file = ((k.makeD 1 jName false).1, file, (k.makeD 1 jName false).2.2) := by unfold Dk.beginD; rw [if_neg (fun q => q h1)]; dsimp only; rw [if_pos (he ▸ h2)]
   cbv
   exact retGI hA rfl [.v (.int .i64 e)] g1 (⟨e, rfl, by rw [q]; exact he, by rw [q]; exact ⟨lab1, u1, hj1⟩⟩)
  ·have h2 := zneF hA h2
   have q : k.beginD file = (((k.makeD 1 jName false).1.syncD 1).1, f, ((k.makeD 1 jName false).1.syncD 1).2) := by unfold Dk.beginD; rw [if_neg (fun q => q h1)]; dsimp only; rw [if_neg (fun f => f (he ▸ h2)), hf]
   have b1 := hj1.j.at_
   unfold jBox at b1
   cbv
   refine gstI hA _ b1 ?_
   intro g2 hg2
   obtain ⟨lab2, u2, hj2⟩ := hj1.put (file' := f) (n' := n) hg2
   have b2 := hj2.j.at_
   unfold jBox at b2
   have hsy := dSync hj2.d (by omega) 1 i64_1
   cbv
   refine gldI hA _ (b2) ?_
   cbv
   refine callGI hA (hsy) ?_
   intro rs_ g3 h_
   obtain ⟨e3, q_1, he3, hd3⟩ := h_
   subst q_1
   cbv
   obtain ⟨lab3, u3, hj3⟩ := hj2.did hd3
   exact retGI hA rfl [.v (.int .i64 e3)] g3 (⟨e3, rfl, by rw [q]; exact he3, by rw [q]; exact ⟨lab3, u1.trans (u2.trans u3), hj3⟩⟩)
theorem gAdd1 {gh : GH} {lab : Lab} {p : Nat} {k : Dk} {B jp : Nat} {file n : Int} (h : JD gh lab p k B jp file n) (b : Bs) (l : List V) (hl : l = bytesV b) (hB : B + b.length ≤ 1000000000) (hi : I64 file) : FnG Tryz.prog 49 [.ref [.gp jp 0], .ref [.slice l]] gh fun rs g => ∃ e : Int, rs = [.v (.int .i64 e)] ∧ e = (k.appD file b).2 ∧ JDid gh lab p (k.appD file b).1 (B + b.length) jp file n g := by
 have hj := h.j.at_
 unfold jBox at hj
 have ha := dAppend h.d file hi b l hl hB
 refine FnG.of' T_ok M_ok [] (fn := Tryz.f49) (by kernel_rfl) rfl rfl rfl rfl (Nat.le_of_ble_eq_true rfl) fun A hA => ?_
 cbv
 refine chkI hA (by kernel_rfl) ?_
 cbv
 refine gldI hA _ (hj) ?_
 cbv
 refine gldI hA _ (hj) ?_
 cbv
 refine callGI hA (ha) ?_
 intro rs_ g h_
 obtain ⟨e, q_1, he, hd⟩ := h_
 subst q_1
 cbv
 exact retGI hA rfl [.v (.int .i64 e)] g (⟨e, rfl, he, h.did hd⟩)
theorem gAdd2 {gh : GH} {lab : Lab} {p : Nat} {k : Dk} {B jp : Nat} {file n : Int} (h : JD gh lab p k B jp file n) (hB : B ≤ 1000000000) (hi : I64 file) : FnG Tryz.prog 50 [.ref [.gp jp 0]] gh fun rs g => ∃ e : Int, rs = [.v (.int .i64 e)] ∧ e = (k.syncD file).2 ∧ JDid gh lab p (k.syncD file).1 B jp file n g := by
 have hj := h.j.at_
 unfold jBox at hj
 have ha := dSync h.d hB file hi
 refine FnG.of' T_ok M_ok [] (fn := Tryz.f50) (by kernel_rfl) rfl rfl rfl rfl (Nat.le_of_ble_eq_true rfl) fun A hA => ?_
 cbv
 refine chkI hA (by kernel_rfl) ?_
 cbv
 refine gldI hA _ (hj) ?_
 cbv
 refine gldI hA _ (hj) ?_
 cbv
 refine callGI hA (ha) ?_
 intro rs_ g h_
 obtain ⟨e, q_1, he, hd⟩ := h_
 subst q_1
 cbv
 exact retGI hA rfl [.v (.int .i64 e)] g (⟨e, rfl, he, h.did hd⟩)
theorem gClear1 {gh : GH} {lab : Lab} {p : Nat} {k : Dk} {B jp : Nat} {file n : Int} (h : JD gh lab p k B jp file n) (hB : B ≤ 1000000000) : FnG Tryz.prog 51 [.ref [.gp jp 0]] gh fun rs g => ∃ e : Int, rs = [.v (.int .i64 e)] ∧ e = (k.unlD 1 jName).2 ∧ JDid gh lab p (k.unlD 1 jName).1 (B + 1) jp file n g := by
 have hj := h.j.at_
 unfold jBox at hj
 have ha := dUnl h.d hB 1 i64_1 jName
 refine FnG.of' T_ok M_ok [] (fn := Tryz.f51) (by kernel_rfl) rfl rfl rfl rfl (Nat.le_of_ble_eq_true rfl) fun A hA => ?_
 cbv
 refine gldI hA _ (hj) ?_
 cbv
 refine callGI hA (ha) ?_
 intro rs_ g h_
 obtain ⟨e, q_1, he, hd⟩ := h_
 subst q_1
 cbv
 exact retGI hA rfl [.v (.int .i64 e)] g (⟨e, rfl, he, h.did hd⟩)
theorem gClear2 {gh : GH} {lab : Lab} {p : Nat} {k : Dk} {B jp : Nat} {file n : Int} (h : JD gh lab p k B jp file n) (hB : B ≤ 1000000000) : FnG Tryz.prog 53 [.ref [.gp jp 0]] gh fun rs g => ∃ e : Int, rs = [.v (.int .i64 e)] ∧ e = (k.syncD 1).2 ∧ JDid gh lab p (k.syncD 1).1 B jp file n g := by
 have hj := h.j.at_
 unfold jBox at hj
 have ha := dSync h.d hB 1 i64_1
 refine FnG.of' T_ok M_ok [] (fn := Tryz.f53) (by kernel_rfl) rfl rfl rfl rfl (Nat.le_of_ble_eq_true rfl) fun A hA => ?_
 cbv
 refine gldI hA _ (hj) ?_
 cbv
 refine callGI hA (ha) ?_
 intro rs_ g h_
 obtain ⟨e, q_1, he, hd⟩ := h_
 subst q_1
 cbv
 exact retGI hA rfl [.v (.int .i64 e)] g (⟨e, rfl, he, h.did hd⟩)
end Go.Proofs.YthioccbgjkbmdaaGreat.AM
