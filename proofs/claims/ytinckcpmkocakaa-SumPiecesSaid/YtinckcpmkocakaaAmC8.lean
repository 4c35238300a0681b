/-
  Contracts, part 8: the law SumPieces.
-/
import Derived.Test.YtinckcpmkocakaaAmC7
set_option linter.unusedVariables false
set_option linter.unusedSimpArgs false
namespace Go.Proofs.Ytinckcpmkocakaa.AM
open Go Go.RowKit
set_option maxRecDepth 100000
set_option maxHeartbeats 4000000

theorem c8 (bs : List (List UInt8)) (l : List V) (hl : l = listsV bs) (hbs : bs.length * 24 ≤ 140737488355328) (hb : ∀ b ∈ bs, b.length ≤ 140737488355328) : CallR Try.prog 8 [.slice l] fun rs => rs = [.v (.bool true)] := by
  refine .of [.v (.bool true)] rfl ?_
  have hlen : l.length = bs.length := by rw [hl]; simp [listsV]
  refine FnR.of' T_ok M_ok (fn := Try.f8) (by kernel_rfl) rfl rfl rfl rfl (Nat.le_of_ble_eq_true rfl) fun A hA => ?_
  cbv
  refine condI hA (fun h1 => ?_) (fun h1 => ?_)
  · cbv
    refine callI hA (c18) ?_
    rintro _ rfl
    cbv
    refine retI hA ?_
    simp only [retOk, rsOk, retIds, idsD, idsDs, softOb, toV, toVs, List.append_nil, List.nil_append, Option.some.injEq, V.int.injEq, V.bool.injEq, V.slice.injEq, V.agg.injEq, V.str.injEq, true_and, and_true, hA, std]
  · cbv
    refine callI hA (c21) ?_
    rintro _ ⟨s0, rfl, hs0⟩
    cbv
    refine loopF hA (ι := Int × Int × List V) (fun p => { n := 47, sl := [(0, .v (.slice l)), (3, .v (.int .u32 p.2.1)), (4, .own 40), (5, .v (.int .i64 p.1))], ob := [(40, .row 1 p.2.2 false)] })
      (fun p => ∃ (j : Nat) (a : List UInt8), p.1 = j ∧ j ≤ bs.length ∧ p.2.1 = (addN 4294967295 a : Nat) ∧ p.2.2 = bytesV a ∧ a.length ≤ 4000) (fun p => bs.length - p.1.toNat) (_, _, _) ((weak_nils _ 4 40 1 false rfl).trans (weakI rfl ⟨rfl, rfl, rfl, rfl, trivial⟩ ⟨rfl, trivial⟩)) ⟨0, [], rfl, Nat.zero_le _, hs0, rfl, by simp⟩ ?_
    rintro ⟨i, s, x⟩ ⟨j, a, hi, hj, hs, hx, ha⟩
    dsimp only at hi hs hx
    cbv
    refine condI hA (fun hc => ?_) (fun hc => ?_)
    · have hjl : j < bs.length := by
        rw [hA] at hc
        simp only [std, decide_eq_true_eq, hlen] at hc
        rw [natEq hi] at hc
        exact_mod_cast hc
      replace hi := natEq hi
      replace hs := natEq hs
      have hbj := hb _ (List.getElem_mem hjl)
      cbv
      refine getLN hA hl hi hjl ?_
      rintro r hr
      cbv
      refine condI hA (fun h2 => ?_) (fun h2 => ?_)
      · cbv
        refine callI hA (c18) ?_
        rintro _ rfl
        cbv
        refine retI hA ?_
        simp only [retOk, rsOk, retIds, idsD, idsDs, softOb, toV, toVs, List.append_nil, List.nil_append, Option.some.injEq, V.int.injEq, V.bool.injEq, V.slice.injEq, V.agg.injEq, V.str.injEq, true_and, and_true, hA, std]
      · cbv
        refine condI hA (fun h3 => ?_) (fun h3 => ?_)
        · cbv
          refine callI hA (c18) ?_
          rintro _ rfl
          cbv
          refine retI hA ?_
          simp only [retOk, rsOk, retIds, idsD, idsDs, softOb, toV, toVs, List.append_nil, List.nil_append, Option.some.injEq, V.int.injEq, V.bool.injEq, V.slice.injEq, V.agg.injEq, V.str.injEq, true_and, and_true, hA, std]
        · have hr2 : (bs[j]'hjl).length ≤ 2000 := by
            have h : A.ilt 2000 (A.lenL r) = false := h2
            rw [hA] at h; simp only [std, decide_eq_false_iff_not] at h; rw [hr, bytesV_len] at h; omega
          have ha2 : a.length ≤ 2000 := by
            have h : A.ilt 2000 (A.lenL x) = false := h3
            rw [hA] at h; simp only [std, decide_eq_false_iff_not] at h; rw [hx, bytesV_len] at h; omega
          cbv
          refine chkI hA (by kernel_rfl) ?_
          cbv
          refine getLN hA hl hi hjl ?_
          rintro r2 hq2
          cbv
          refine callI hA (c22 s _ _ _ hs (addN_lt (by decide) _) hq2 hbj) ?_
          rintro _ ⟨t, rfl, ht⟩
          cbv
          refine getLN hA hl hi hjl ?_
          rintro r3 hr3
          cbv
          refine sizedI hA (bytesV_flat hr3) ?_
          cbv
          refine roomI hA (by rw [hx, hr3, bytesV_len, bytesV_len]; omega) ?_
          cbv
          have happ : A.app x r3 = bytesV (a ++ bs[j]'hjl) := by rw [hA]; simp only [std]; rw [hx, hr3, bytesV_app]
          rw [← addN_append] at ht
          refine callI hA (c20 t _ ht (addN_lt (by decide) _)) ?_
          rintro _ ⟨u, rfl, hu⟩
          cbv
          refine callI hA (c16 _ _ happ (by simp; omega)) ?_
          rintro _ ⟨v, rfl, hv⟩
          cbv
          rw [sumN_of] at hv
          have e1 : A.ine u v = false := by rw [hA, hu, hv]; simp [std]
          refine condF hA e1 ?_
          cbv
          refine ⟨(_, _, _), weakI rfl ⟨rfl, rfl, rfl, rfl, trivial⟩ ⟨rfl, trivial⟩, ⟨j + 1, _, ?_, hjl, ht, happ, by simp; omega⟩, ?_⟩
          · change A.wrap .i64 (A.add i 1) = _
            rw [hA]; exact i64_up hi (by omega)
          · change bs.length - (A.wrap .i64 (A.add i 1)).toNat < bs.length - i.toNat
            rw [hA]; simp only [std]; rw [i64_up (natEq hi) (by omega), natEq hi]; omega
    · cbv
      refine callI hA (c18) ?_
      rintro _ rfl
      cbv
      refine retI hA ?_
      simp only [retOk, rsOk, retIds, idsD, idsDs, softOb, toV, toVs, List.append_nil, List.nil_append, Option.some.injEq, V.int.injEq, V.bool.injEq, V.slice.injEq, V.agg.injEq, V.str.injEq, true_and, and_true, hA, std]
end Go.Proofs.Ytinckcpmkocakaa.AM
