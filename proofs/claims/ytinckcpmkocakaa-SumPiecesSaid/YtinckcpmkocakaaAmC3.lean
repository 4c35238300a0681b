/-
  Contracts, part 3: the sum's witness, and the law SumOfs.
-/
import Derived.Test.YtinckcpmkocakaaAmC2
set_option linter.unusedVariables false
set_option linter.unusedSimpArgs false
namespace Go.Proofs.Ytinckcpmkocakaa.AM
open Go Go.RowKit
set_option maxRecDepth 100000

theorem sum_check : sumN 0 [49, 50, 51, 52, 53, 54, 55, 56, 57] = 3421780262 := by decide +kernel
theorem sum_check2 : addN (addN 4294967295 [49, 50, 51, 52]) [53, 54, 55, 56, 57] ^^^ 4294967295 = 3421780262 := by decide +kernel
theorem c18 : CallR Try.prog 18 [] fun rs => rs = [.v (.bool true)] := by
  refine ⟨[.v (.bool true)], ?_, rfl⟩
  refine FnR.of' T_ok M_ok (fn := Try.f18) (by kernel_rfl) rfl rfl rfl rfl (Nat.le_of_ble_eq_true rfl) fun A hA => ?_
  cbv
  refine callI hA (c16 [49, 50, 51, 52, 53, 54, 55, 56, 57] _ rfl (by decide)) ?_
  rintro _ ⟨r, rfl, hr⟩
  rw [sum_check] at hr
  cbv
  refine condI hA (fun hc => ?_) (fun hc => ?_)
  · cbv
    refine callI hA c21 ?_
    rintro _ ⟨s, rfl, hs⟩
    cbv
    refine callI hA (c22 s _ [49, 50, 51, 52] _ hs (by decide) rfl (by decide)) ?_
    rintro _ ⟨t, rfl, ht⟩
    cbv
    refine callI hA (c22 t _ [53, 54, 55, 56, 57] _ ht (addN_lt (by decide) _) rfl (by decide)) ?_
    rintro _ ⟨u, rfl, hu⟩
    cbv
    refine callI hA (c20 u _ hu (addN_lt (addN_lt (by decide) _) _)) ?_
    rintro _ ⟨v, rfl, hv⟩
    rw [sum_check2] at hv
    cbv
    refine retI hA ?_
    simp only [retOk, rsOk, retIds, idsD, idsDs, softOb, toV, toVs, List.append_nil, List.nil_append, Option.some.injEq, V.int.injEq, V.bool.injEq, V.slice.injEq, V.agg.injEq, V.str.injEq, true_and, and_true, hA, std]
    subst hv
    rfl
  · rw [hA] at hc
    subst hr
    exact absurd hc (by simp [std])

theorem c3 (b : List UInt8) (l : List V) (hl : l = bytesV b) (hb : b.length ≤ 140737488355328) : CallR Try.prog 3 [.slice l] fun rs => rs = [.v (.bool true)] := by
  refine ⟨[.v (.bool true)], ?_, rfl⟩
  have hlen : l.length = b.length := by rw [hl]; simp [bytesV]
  refine FnR.of' T_ok M_ok (fn := Try.f3) (by kernel_rfl) rfl rfl rfl rfl (Nat.le_of_ble_eq_true rfl) fun A hA => ?_
  cbv
  refine sizedI hA (bytesV_flat hl) ?_
  cbv
  refine roomI hA (by simp [hlen]; omega) ?_
  cbv
  have happ : A.app [] l = bytesV b := by rw [hA]; exact hl
  refine callI hA (c16 b _ happ hb) ?_
  rintro _ ⟨r, rfl, hr⟩
  cbv
  refine callI hA (c17 b l hl hb) ?_
  rintro _ ⟨s, rfl, hs⟩
  cbv
  refine condI hA (fun hc => ?_) (fun hc => ?_)
  · cbv
    refine b2sI hA b happ ?_
    cbv
    refine b2sI hA b hl ?_
    cbv
    refine condI hA (fun hc2 => ?_) (fun hc2 => ?_)
    · cbv
      refine callI hA c18 ?_
      rintro _ rfl
      cbv
      refine retI hA ?_
      simp only [retOk, rsOk, retIds, idsD, idsDs, softOb, toV, toVs, List.append_nil, List.nil_append, Option.some.injEq, V.int.injEq, V.bool.injEq, V.slice.injEq, V.agg.injEq, V.str.injEq, true_and, and_true, hA, std]
    · rw [hA] at hc2
      exact absurd hc2 (by simp [std])
  · rw [hA] at hc
    rw [hr, hs] at hc
    exact absurd hc (by simp [std])
end Go.Proofs.Ytinckcpmkocakaa.AM
