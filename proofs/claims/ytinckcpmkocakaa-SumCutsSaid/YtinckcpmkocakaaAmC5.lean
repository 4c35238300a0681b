/-
  Contracts, part 5: the laws SumCuts, SumTurned.
-/
import Derived.Test.YtinckcpmkocakaaAmC4
set_option linter.unusedVariables false
set_option linter.unusedSimpArgs false
namespace Go.Proofs.Ytinckcpmkocakaa.AM
open Go Go.RowKit
set_option maxRecDepth 100000
set_option maxHeartbeats 4000000

theorem nz_of {b : Int} {k : Nat} (h : b = ((k + 1 : Nat) : Int)) : b ≠ 0 := by omega
theorem bd_to {x : Int} {k m n : Nat} (hx : x = (k : Int)) (hk : k ≤ m) (hn : n = m) : 0 ≤ (0 : Int) ∧ 0 ≤ x ∧ x ≤ (n : Int) := by omega
theorem bd_fr {x y : Int} {k m n : Nat} (hx : x = (k : Int)) (hy : y = (m : Int)) (hk : k ≤ m) (hn : n = m) : 0 ≤ x ∧ x ≤ y ∧ y ≤ (n : Int) := by omega
theorem mod_w {a b : Int} {n m k : Nat} (ha : a = (n : Int)) (hn : n < 65536) (hb : b = ((m + 1 : Nat) : Int)) (hk : k = n % (m + 1)) : (IntKind.i64.wrap a).tmod b = (k : Int) := by
  rw [ha, wrap_i64 (by omega) (by omega), hb, hk]; rfl
theorem sumN_of (b : List UInt8) : sumN 0 b = addN 4294967295 b ^^^ 4294967295 := by simp [sumN]
theorem c5 (b : List UInt8) (l : List V) (a : Int) (n : Nat) (hl : l = bytesV b) (hb : b.length ≤ 140737488355328) (ha : a = n) (hn : n < 65536) : CallR Try.prog 5 [.slice l, .int .u16 a] fun rs => rs = [.v (.bool true)] := by
  refine .of [.v (.bool true)] rfl ?_
  have hlen : l.length = b.length := by rw [hl]; simp [bytesV]
  obtain ⟨k, hkv⟩ : ∃ k, k = n % (b.length + 1) := ⟨_, rfl⟩
  have hkl : k ≤ b.length := by rw [hkv]; exact Nat.lt_succ_iff.1 (Nat.mod_lt n (Nat.succ_pos _))
  refine FnR.of' T_ok M_ok (fn := Try.f5) (by kernel_rfl) rfl rfl rfl rfl (Nat.le_of_ble_eq_true rfl) fun A hA => ?_
  cbv
  replace ha := natEq ha
  have hw : A.wrap .i64 (A.add (A.lenL l) 1) = ((b.length + 1 : Nat) : Int) := by
    rw [hA]; simp only [std]; rw [hlen]; exact i64_up rfl (by omega)
  have hk : A.tmod (A.wrap .i64 a) (A.wrap .i64 (A.add (A.lenL l) 1)) = (k : Int) := by
    rw [hw, hA]; exact mod_w ha hn rfl hkv
  refine nzI hA (nz_of (k := b.length) hw) ?_
  cbv
  refine chkI hA (by kernel_rfl) ?_
  cbv
  have hsz := bytesV_flat hl
  have to := bd_to hk hkl hlen
  have hl2 : A.lenL l = (b.length : Nat) := by rw [hA]; simp only [std]; rw [hlen]
  have fr := bd_fr hk hl2 hkl hlen
  refine callI hA (c21) ?_
  rintro _ ⟨s0, rfl, hs0⟩
  cbv
  refine sizedI hA hsz ?_
  cbv
  refine subLN hA to ?_
  rintro l1 h1
  have h1 := cutTo hk hl h1
  cbv
  refine callI hA (c22 s0 _ _ _ hs0 (by decide) h1 (by simp; omega)) ?_
  rintro _ ⟨s, rfl, hs⟩
  cbv
  refine chkI hA (by kernel_rfl) ?_
  cbv
  refine callI hA (c20 s _ hs (addN_lt (by decide) _)) ?_
  rintro _ ⟨v, rfl, hv⟩
  cbv
  refine callI hA (c19 v _ hv (xlt (addN_lt (by decide) _))) ?_
  rintro _ ⟨u, rfl, hu⟩
  cbv
  rw [xx] at hu
  refine sizedI hA hsz ?_
  cbv
  refine subLN hA fr ?_
  rintro l2 h2
  have h2 := cutFrom hk hl hl2 h2
  cbv
  refine callI hA (c22 u _ _ _ hu (addN_lt (by decide) _) h2 (by simp; omega)) ?_
  rintro _ ⟨t, rfl, ht⟩
  cbv
  have all : addN (addN 4294967295 (b.take (k))) (b.drop (k)) = addN 4294967295 b := by
    rw [← addN_append, List.take_append_drop]
  rw [all] at ht
  refine sizedI hA hsz ?_
  cbv
  refine subLN hA fr ?_
  rintro l3 h3
  have h3 := cutFrom hk hl hl2 h3
  cbv
  refine callI hA (c22 s _ _ _ hs (addN_lt (by decide) _) h3 (by simp; omega)) ?_
  rintro _ ⟨t2, rfl, ht2⟩
  cbv
  rw [all] at ht2
  refine callI hA (c20 t2 _ ht2 (addN_lt (by decide) _)) ?_
  rintro _ ⟨r1, rfl, hr1⟩
  cbv
  refine callI hA (c16 b l hl hb) ?_
  rintro _ ⟨r2, rfl, hr2⟩
  cbv
  rw [sumN_of] at hr2
  have e1 : A.ieq r1 r2 = true := by rw [hA, hr1, hr2]; simp [std]
  refine condT hA e1 ?_
  cbv
  refine callI hA (c20 t _ ht (addN_lt (by decide) _)) ?_
  rintro _ ⟨r3, rfl, hr3⟩
  cbv
  refine callI hA (c16 b l hl hb) ?_
  rintro _ ⟨r4, rfl, hr4⟩
  cbv
  rw [sumN_of] at hr4
  have e2 : A.ieq r3 r4 = true := by rw [hA, hr3, hr4]; simp [std]
  refine condT hA e2 ?_
  cbv
  refine sizedI hA hsz ?_
  cbv
  refine subLN hA to ?_
  rintro l4 h4
  have h4 := cutTo hk hl h4
  cbv
  refine callI hA (c16 _ l4 h4 (by simp; omega)) ?_
  rintro _ ⟨r5, rfl, hr5⟩
  cbv
  rw [sumN_of] at hr5
  refine callI hA (c20 s _ hs (addN_lt (by decide) _)) ?_
  rintro _ ⟨r6, rfl, hr6⟩
  cbv
  have e3 : A.ieq r5 r6 = true := by rw [hA, hr5, hr6]; simp [std]
  refine condT hA e3 ?_
  cbv
  refine callI hA (c18) ?_
  rintro _ rfl
  cbv
  refine retI hA ?_
  simp only [retOk, rsOk, retIds, idsD, idsDs, softOb, toV, toVs, List.append_nil, List.nil_append, Option.some.injEq, V.int.injEq, V.bool.injEq, V.slice.injEq, V.agg.injEq, V.str.injEq, true_and, and_true, hA, std]
end Go.Proofs.Ytinckcpmkocakaa.AM
