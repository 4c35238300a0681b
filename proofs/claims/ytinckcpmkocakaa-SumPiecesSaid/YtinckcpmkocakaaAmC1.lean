/-
  Contracts, part 1: the sum.
-/
import Derived.Test.YtinckcpmkocakaaAmN
set_option linter.unusedVariables false
set_option linter.unusedSimpArgs false
namespace Go.Proofs.Ytinckcpmkocakaa.AM
open Go Go.RowKit
set_option maxRecDepth 100000

def tabV : List V := (List.range 256).map fun i => .int .u32 (eight i)
theorem c39 : CallR Try.prog 39 [] fun rs => ∃ l, rs = [.v (.agg l)] ∧ l = tabV := by
  refine ⟨[.v (.agg tabV)], ?_, _, rfl, rfl⟩
  generalize hl : tabV = l
  refine FnR.of' T_ok M_ok (fn := Try.f39) (by kernel_rfl) rfl rfl rfl rfl (Nat.le_of_ble_eq_true rfl) fun A hA => ?_
  cbv
  refine retI hA ?_
  simp only [retOk, rsOk, retIds, idsD, idsDs, softOb, toV, toVs, List.append_nil, List.nil_append, Option.some.injEq, V.int.injEq, V.bool.injEq, V.slice.injEq, V.agg.injEq, V.str.injEq, true_and, and_true, hA, std]
  subst hl
  kernel_rfl
theorem c20 (s : Int) (n : Nat) (hs : s = n) (hn : n < 4294967296) : CallR Try.prog 20 [.int .u32 s] fun rs => ∃ r : Int, rs = [.v (.int .u32 r)] ∧ r = (n ^^^ 4294967295 : Nat) := by
  obtain ⟨r, hr⟩ : ∃ r : Int, r = (n ^^^ 4294967295 : Nat) := ⟨_, rfl⟩
  refine ⟨[.v (.int .u32 r)], ?_, _, rfl, hr⟩
  refine FnR.of' T_ok M_ok (fn := Try.f20) (by kernel_rfl) rfl rfl rfl rfl (Nat.le_of_ble_eq_true rfl) fun A hA => ?_
  cbv
  refine retI hA ?_
  simp only [retOk, rsOk, retIds, idsD, idsDs, softOb, toV, toVs, List.append_nil, List.nil_append, Option.some.injEq, V.int.injEq, V.bool.injEq, V.slice.injEq, V.agg.injEq, V.str.injEq, true_and, and_true, hA, std]
  rw [hr, hs, inot_u32 n hn]
theorem c19 (s : Int) (n : Nat) (hs : s = n) (hn : n < 4294967296) : CallR Try.prog 19 [.int .u32 s] fun rs => ∃ r : Int, rs = [.v (.int .u32 r)] ∧ r = (n ^^^ 4294967295 : Nat) := by
  obtain ⟨r, hr⟩ : ∃ r : Int, r = (n ^^^ 4294967295 : Nat) := ⟨_, rfl⟩
  refine ⟨[.v (.int .u32 r)], ?_, _, rfl, hr⟩
  refine FnR.of' T_ok M_ok (fn := Try.f19) (by kernel_rfl) rfl rfl rfl rfl (Nat.le_of_ble_eq_true rfl) fun A hA => ?_
  cbv
  refine retI hA ?_
  simp only [retOk, rsOk, retIds, idsD, idsDs, softOb, toV, toVs, List.append_nil, List.nil_append, Option.some.injEq, V.int.injEq, V.bool.injEq, V.slice.injEq, V.agg.injEq, V.str.injEq, true_and, and_true, hA, std]
  rw [hr, hs, inot_u32 n hn]
theorem c21 : CallR Try.prog 21 [] fun rs => ∃ r : Int, rs = [.v (.int .u32 r)] ∧ r = (4294967295 : Nat) := by
  obtain ⟨r, hr⟩ : ∃ r : Int, r = (4294967295 : Nat) := ⟨_, rfl⟩
  refine ⟨[.v (.int .u32 r)], ?_, _, rfl, hr⟩
  refine FnR.of' T_ok M_ok (fn := Try.f21) (by kernel_rfl) rfl rfl rfl rfl (Nat.le_of_ble_eq_true rfl) fun A hA => ?_
  cbv
  refine callI hA (c19 0 0 rfl (by decide)) ?_
  rintro _ ⟨q, rfl, hq⟩
  cbv
  refine retI hA ?_
  simp only [retOk, rsOk, retIds, idsD, idsDs, softOb, toV, toVs, List.append_nil, List.nil_append, Option.some.injEq, V.int.injEq, V.bool.injEq, V.slice.injEq, V.agg.injEq, V.str.injEq, true_and, and_true, hA, std]
  rw [hq, hr]; rfl
theorem c22 (s : Int) (n : Nat) (b : List UInt8) (l : List V) (hs : s = n) (hn : n < 4294967296) (hl : l = bytesV b) (hb : b.length ≤ 140737488355328) : CallR Try.prog 22 [.int .u32 s, .slice l] fun rs => ∃ r : Int, rs = [.v (.int .u32 r)] ∧ r = (addN n b : Nat) := by
  obtain ⟨r, hr⟩ : ∃ r : Int, r = (addN n b : Nat) := ⟨_, rfl⟩
  refine ⟨[.v (.int .u32 r)], ?_, _, rfl, hr⟩
  have hlen : l.length = b.length := by rw [hl]; simp [bytesV]
  refine FnR.of' T_ok M_ok (fn := Try.f22) (by kernel_rfl) rfl rfl rfl rfl (Nat.le_of_ble_eq_true rfl) fun A hA => ?_
  cbv
  refine loopF hA (ι := Int × Int) (fun p => { n := 24, sl := [(0, .v (.int .u32 p.2)), (7, .v (.slice l)), (8, .v (.int .i64 (A.lenL l))), (9, .v (.int .i64 p.1))], ob := [] })
    (fun p => ∃ j : Nat, p.1 = j ∧ j ≤ b.length ∧ p.2 = (addN n (b.take j) : Nat)) (fun p => b.length - p.1.toNat) (_, _) (weakI rfl ⟨rfl, rfl, rfl, rfl, trivial⟩ trivial) ⟨0, rfl, Nat.zero_le _, by simpa [addN] using hs⟩ ?_
  rintro ⟨i, x⟩ ⟨j, hi, hj, hx⟩
  replace hi : i = (j : Int) := hi
  replace hx : x = ((addN n (b.take j) : Nat) : Int) := hx
  cbv
  refine condI hA (fun hc => ?_) (fun hc => ?_)
  · have hjl : j < b.length := by
      rw [hA] at hc
      simp only [std, decide_eq_true_eq, hlen] at hc
      rw [hi] at hc
      exact_mod_cast hc
    cbv
    obtain ⟨c, hcv⟩ : ∃ c : Int, c = ((b[j]'hjl).toNat : Nat) := ⟨_, rfl⟩
    have hc256 := (b[j]'hjl).toNat_lt
    refine getII hA c (by rw [hcv]; exact bytesV_at hl hi hjl) ?_
    cbv
    refine callI hA c39 ?_
    rintro _ ⟨t, rfl, ht⟩
    cbv
    have hxlt := addN_lt hn (b.take j)
    have hidx : A.bits .xor .u8 (A.wrap .u8 x) c = ((addN n (b.take j) % 256 ^^^ (b[j]'hjl).toNat : Nat) : Int) := by
      rw [hA, hx, hcv]
      simp only [std]
      have : IntKind.u8.wrap ((addN n (b.take j) : Nat) : Int) = ((addN n (b.take j) % 256 : Nat) : Int) := by
        simp only [IntKind.wrap, IntKind.bits, IntKind.signed, Bool.false_and, Bool.false_eq_true, if_false]
        omega
      rw [this, bits_xor_u8_nat _ _ (by omega) (by omega)]
    have hilt : addN n (b.take j) % 256 ^^^ (b[j]'hjl).toNat < 256 := Nat.xor_lt_two_pow (n := 8) (by omega) (by omega)
    refine inRI hA (by
      change 0 ≤ A.bits .xor .u8 (A.wrap .u8 x) c ∧ A.bits .xor .u8 (A.wrap .u8 x) c < _
      rw [hidx]; simp; omega) ?_
    cbv
    obtain ⟨e, he⟩ : ∃ e : Int, e = (eight (addN n (b.take j) % 256 ^^^ (b[j]'hjl).toNat) : Nat) := ⟨_, rfl⟩
    refine getII hA e (by
      change 0 ≤ A.bits .xor .u8 (A.wrap .u8 x) c ∧ t[(A.bits .xor .u8 (A.wrap .u8 x) c).toNat]? = _
      rw [hidx, ht, he]
      simp [tabV, hilt]) ?_
    cbv
    refine nnegI hA (by decide) ?_
    cbv
    have hi2 : i = Int.ofNat j := hi
    rw [Int.ofNat_eq_natCast] at hi2
    refine ⟨(_, _), weakI rfl ⟨rfl, rfl, rfl, rfl, trivial⟩ trivial, ⟨j + 1, ?_, hjl, ?_⟩, ?_⟩
    · change A.wrap .i64 (A.add i 1) = _
      rw [hA, hi2]; simp only [std]
      rw [wrap_i64 (by omega) (by omega)]; rfl
    · change A.bits .xor .u32 e (A.shr .u32 x 8) = _
      rw [addN_take hjl, step_eq _ _ hc256, hA, he, hx]
      simp only [std]
      rw [shr_u32, bits_xor_u32_nat _ _ (show eight _ < _ from ones_lt 8 (by omega)) (by omega)]
      rfl
    · change b.length - (A.wrap .i64 (A.add i 1)).toNat < b.length - i.toNat
      rw [hA, hi2]; simp only [std]
      rw [wrap_i64 (by omega) (by omega)]; omega
  · have hjl : j = b.length := by
      rw [hA] at hc
      simp only [std, decide_eq_false_iff_not, hlen] at hc
      rw [hi] at hc
      have : ¬ j < b.length := fun h => hc (by exact_mod_cast h)
      omega
    cbv
    refine retI hA ?_
    simp only [retOk, rsOk, retIds, idsD, idsDs, softOb, toV, toVs, List.append_nil, List.nil_append, Option.some.injEq, V.int.injEq, V.bool.injEq, V.slice.injEq, V.agg.injEq, V.str.injEq, true_and, and_true, hA, std]
    rw [hr, hx, hjl, List.take_length]
end Go.Proofs.Ytinckcpmkocakaa.AM
