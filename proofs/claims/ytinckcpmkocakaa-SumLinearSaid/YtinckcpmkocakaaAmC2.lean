/-
  Contracts, part 2: the sum and its witness.
-/
import Derived.Test.YtinckcpmkocakaaAmC1
set_option linter.unusedVariables false
set_option linter.unusedSimpArgs false
namespace Go.Proofs.Ytinckcpmkocakaa.AM
open Go Go.RowKit
set_option maxRecDepth 100000

theorem ones_succ : ∀ (k n : Nat), ones (k + 1) n = one (ones k n)
  | 0, n => rfl
  | k + 1, n => by rw [ones, ones_succ k]; rfl
def sumN (n : Nat) (b : List UInt8) : Nat := addN (n ^^^ 4294967295) b ^^^ 4294967295
theorem xlt {n : Nat} (hn : n < 4294967296) : n ^^^ 4294967295 < 4294967296 := Nat.xor_lt_two_pow (n := 32) hn (by decide)

theorem c16 (b : List UInt8) (l : List V) (hl : l = bytesV b) (hb : b.length ≤ 140737488355328) : CallR Try.prog 16 [.slice l] fun rs => ∃ r : Int, rs = [.v (.int .u32 r)] ∧ r = (sumN 0 b : Nat) := by
  obtain ⟨r, hr⟩ : ∃ r : Int, r = (sumN 0 b : Nat) := ⟨_, rfl⟩
  refine ⟨[.v (.int .u32 r)], ?_, _, rfl, hr⟩
  refine FnR.of' T_ok M_ok (fn := Try.f16) (by kernel_rfl) rfl rfl rfl rfl (Nat.le_of_ble_eq_true rfl) fun A hA => ?_
  cbv
  refine callI hA c21 ?_
  rintro _ ⟨s, rfl, hs⟩
  cbv
  refine callI hA (c22 s _ b l hs (by decide) hl hb) ?_
  rintro _ ⟨t, rfl, ht⟩
  cbv
  refine callI hA (c20 t _ ht (addN_lt (by decide) b)) ?_
  rintro _ ⟨u, rfl, hu⟩
  cbv
  refine retI hA ?_
  simp only [retOk, rsOk, retIds, idsD, idsDs, softOb, toV, toVs, List.append_nil, List.nil_append, Option.some.injEq, V.int.injEq, V.bool.injEq, V.slice.injEq, V.agg.injEq, V.str.injEq, true_and, and_true, hA, std]
  rw [hu, hr]; rfl

theorem rem_two (x : Nat) (hx : x < 4294967296) : (Int.tmod (x : Int) 2 == 1) = decide (x % 2 = 1) := by
  have : Int.tmod (x : Int) 2 = ((x % 2 : Nat) : Int) := rfl
  rw [this]
  rcases Nat.mod_two_eq_zero_or_one x with h | h <;> rw [h] <;> rfl
theorem quo_two (x : Nat) (hx : x < 4294967296) : IntKind.u32.wrap (Int.tdiv (x : Int) 2) = ((x / 2 : Nat) : Int) := by
  have : Int.tdiv (x : Int) 2 = ((x / 2 : Nat) : Int) := rfl
  rw [this]
  simp only [IntKind.wrap, IntKind.bits, IntKind.signed, Bool.false_and, Bool.false_eq_true, if_false]
  omega

theorem c23 (s : Int) (n : Nat) (b : List UInt8) (l : List V) (hs : s = n) (hn : n < 4294967296) (hl : l = bytesV b) (hb : b.length ≤ 140737488355328) : CallR Try.prog 23 [.int .u32 s, .slice l] fun rs => ∃ r : Int, rs = [.v (.int .u32 r)] ∧ r = (sumN n b : Nat) := by
  obtain ⟨r, hr⟩ : ∃ r : Int, r = (sumN n b : Nat) := ⟨_, rfl⟩
  refine ⟨[.v (.int .u32 r)], ?_, _, rfl, hr⟩
  have hlen : l.length = b.length := by rw [hl]; simp [bytesV]
  refine FnR.of' T_ok M_ok (fn := Try.f23) (by kernel_rfl) rfl rfl rfl rfl (Nat.le_of_ble_eq_true rfl) fun A hA => ?_
  cbv
  refine loopF hA (ι := Int × Int) (fun p => { n := 37, sl := [(1, .v (.slice l)), (5, .v (.int .u32 p.2)), (6, .v (.int .i64 p.1))], ob := [] })
    (fun p => ∃ j : Nat, p.1 = j ∧ j ≤ b.length ∧ p.2 = (addN (n ^^^ 4294967295) (b.take j) : Nat)) (fun p => b.length - p.1.toNat) (_, _) (weakI rfl ⟨rfl, rfl, rfl, trivial⟩ trivial) ⟨0, rfl, Nat.zero_le _, by
      change A.bits .xor .u32 s 4294967295 = _
      rw [hA, hs]; simp only [std]
      rw [show (4294967295 : Int) = ((4294967295 : Nat) : Int) from rfl, bits_xor_u32_nat _ _ hn (by decide)]; rfl⟩ ?_
  rintro ⟨i, x⟩ ⟨j, hi, hj, hx⟩
  have hi2 : i = Int.ofNat j := hi
  have hx2 : x = Int.ofNat (addN (n ^^^ 4294967295) (b.take j)) := hx
  rw [Int.ofNat_eq_natCast] at hi2 hx2
  cbv
  refine condI hA (fun hc => ?_) (fun hc => ?_)
  · have hjl : j < b.length := by
      rw [hA] at hc
      simp only [std, decide_eq_true_eq, hlen] at hc
      rw [hi2] at hc
      exact_mod_cast hc
    cbv
    obtain ⟨c, hcv⟩ : ∃ c : Int, c = ((b[j]'hjl).toNat : Nat) := ⟨_, rfl⟩
    have hc256 := (b[j]'hjl).toNat_lt
    have hxlt := addN_lt (xlt hn) (b.take j)
    refine getII hA c (by rw [hcv]; exact bytesV_at hl hi2 hjl) ?_
    cbv
    have hy : addN (n ^^^ 4294967295) (b.take j) ^^^ (b[j]'hjl).toNat < 4294967296 := Nat.xor_lt_two_pow (n := 32) hxlt (by omega)
    refine loopF hA (ι := Int × Int) (fun p => { n := 37, sl := [(1, .v (.slice l)), (5, .v (.int .u32 p.2)), (6, .v (.int .i64 i)), (7, .v (.int .i64 p.1))], ob := [] })
      (fun p => ∃ k : Nat, p.1 = k ∧ k ≤ 8 ∧ p.2 = (ones k (addN (n ^^^ 4294967295) (b.take j) ^^^ (b[j]'hjl).toNat) : Nat)) (fun p => 8 - p.1.toNat) (_, _) (weakI rfl ⟨rfl, rfl, rfl, rfl, trivial⟩ trivial) ⟨0, rfl, Nat.zero_le _, by
        change A.bits .xor .u32 x (A.wrap .u32 c) = _
        rw [hA, hx2, hcv]; simp only [std]
        have : IntKind.u32.wrap (((b[j]'hjl).toNat : Nat) : Int) = (((b[j]'hjl).toNat : Nat) : Int) := by
          simp only [IntKind.wrap, IntKind.bits, IntKind.signed, Bool.false_and, Bool.false_eq_true, if_false]
          omega
        rw [this, bits_xor_u32_nat _ _ hxlt (by omega)]; rfl⟩ ?_
    rintro ⟨m, y⟩ ⟨k, hm, hk, hyv⟩
    have hm2 : m = Int.ofNat k := hm
    have hy2 : y = Int.ofNat (ones k (addN (n ^^^ 4294967295) (b.take j) ^^^ (b[j]'hjl).toNat)) := hyv
    rw [Int.ofNat_eq_natCast] at hm2 hy2
    have hol := ones_lt k hy
    cbv
    refine condI hA (fun hc2 => ?_) (fun hc2 => ?_)
    · have hk8 : k < 8 := by
        rw [hA] at hc2
        simp only [std, decide_eq_true_eq] at hc2
        rw [hm2] at hc2
        exact_mod_cast hc2
      cbv
      refine nzI hA (by decide) ?_
      cbv
      have hodd : A.ieq (A.tmod y 2) 1 = decide (ones k (addN (n ^^^ 4294967295) (b.take j) ^^^ (b[j]'hjl).toNat) % 2 = 1) := by
        rw [hA, hy2]; exact rem_two _ hol
      have hq : A.wrap .u32 (A.tdiv y 2) = ((ones k (addN (n ^^^ 4294967295) (b.take j) ^^^ (b[j]'hjl).toNat) / 2 : Nat) : Int) := by
        rw [hA, hy2]; exact quo_two _ hol
      have hm1 : A.wrap .i64 (A.add m 1) = ((k + 1 : Nat) : Int) := by
        rw [hA, natEq hm2]; simp only [std]
        rw [wrap_i64 (by omega) (by omega)]; rfl
      refine condI hA (fun hc3 => ?_) (fun hc3 => ?_)
      · have h1 : ones k (addN (n ^^^ 4294967295) (b.take j) ^^^ (b[j]'hjl).toNat) % 2 = 1 := of_decide_eq_true (hodd.symm.trans hc3)
        cbv
        refine nzI hA (by decide) ?_
        cbv
        refine ⟨(_, _), weakI rfl ⟨rfl, rfl, rfl, rfl, trivial⟩ trivial, ⟨k + 1, hm1, hk8, ?_⟩, ?_⟩
        · change A.bits .xor .u32 (A.wrap .u32 (A.tdiv y 2)) 3988292384 = _
          rw [hq, hA]; simp only [std]
          rw [show (3988292384 : Int) = ((3988292384 : Nat) : Int) from rfl, bits_xor_u32_nat _ _ (by omega) (by decide), ones_succ, one, if_pos h1]
        · change 8 - (A.wrap .i64 (A.add m 1)).toNat < 8 - m.toNat
          rw [natEq hm1, natEq hm2]; omega
      · have h1 : ¬ ones k (addN (n ^^^ 4294967295) (b.take j) ^^^ (b[j]'hjl).toNat) % 2 = 1 := of_decide_eq_false (hodd.symm.trans hc3)
        cbv
        refine nzI hA (by decide) ?_
        cbv
        refine ⟨(_, _), weakI rfl ⟨rfl, rfl, rfl, rfl, trivial⟩ trivial, ⟨k + 1, hm1, hk8, ?_⟩, ?_⟩
        · change A.wrap .u32 (A.tdiv y 2) = _
          rw [hq, ones_succ, one, if_neg h1]
        · change 8 - (A.wrap .i64 (A.add m 1)).toNat < 8 - m.toNat
          rw [natEq hm1, natEq hm2]; omega
    · have hk8 : k = 8 := by
        rw [hA] at hc2
        simp only [std, decide_eq_false_iff_not] at hc2
        rw [hm2] at hc2
        have : ¬ k < 8 := fun h => hc2 (by exact_mod_cast h)
        omega
      cbv
      have hi1 : A.wrap .i64 (A.add i 1) = ((j + 1 : Nat) : Int) := by
        rw [hA, natEq hi2]; simp only [std]
        rw [wrap_i64 (by omega) (by omega)]; rfl
      refine ⟨(_, _), weakI rfl ⟨rfl, rfl, rfl, trivial⟩ trivial, ⟨j + 1, hi1, hjl, ?_⟩, ?_⟩
      · change y = _
        rw [hy2, hk8, addN_take hjl]; rfl
      · change b.length - (A.wrap .i64 (A.add i 1)).toNat < b.length - i.toNat
        rw [natEq hi1, natEq hi2]; omega
  · have hjl : j = b.length := by
      rw [hA] at hc
      simp only [std, decide_eq_false_iff_not, hlen] at hc
      rw [hi2] at hc
      have : ¬ j < b.length := fun h => hc (by exact_mod_cast h)
      omega
    cbv
    refine retI hA ?_
    simp only [retOk, rsOk, retIds, idsD, idsDs, softOb, toV, toVs, List.append_nil, List.nil_append, Option.some.injEq, V.int.injEq, V.bool.injEq, V.slice.injEq, V.agg.injEq, V.str.injEq, true_and, and_true, hA, std]
    rw [hr, hx2, hjl, List.take_length]
    rw [show (4294967295 : Int) = ((4294967295 : Nat) : Int) from rfl, bits_xor_u32_nat _ _ (addN_lt (xlt hn) b) (by decide)]; rfl

theorem c17 (b : List UInt8) (l : List V) (hl : l = bytesV b) (hb : b.length ≤ 140737488355328) : CallR Try.prog 17 [.slice l] fun rs => ∃ r : Int, rs = [.v (.int .u32 r)] ∧ r = (sumN 0 b : Nat) := by
  obtain ⟨r, hr⟩ : ∃ r : Int, r = (sumN 0 b : Nat) := ⟨_, rfl⟩
  refine ⟨[.v (.int .u32 r)], ?_, _, rfl, hr⟩
  refine FnR.of' T_ok M_ok (fn := Try.f17) (by kernel_rfl) rfl rfl rfl rfl (Nat.le_of_ble_eq_true rfl) fun A hA => ?_
  cbv
  refine callI hA (c23 0 0 b l rfl (by decide) hl hb) ?_
  rintro _ ⟨s, rfl, hs⟩
  cbv
  refine retI hA ?_
  simp only [retOk, rsOk, retIds, idsD, idsDs, softOb, toV, toVs, List.append_nil, List.nil_append, Option.some.injEq, V.int.injEq, V.bool.injEq, V.slice.injEq, V.agg.injEq, V.str.injEq, true_and, and_true, hA, std]
  rw [hs, hr]
end Go.Proofs.Ytinckcpmkocakaa.AM
