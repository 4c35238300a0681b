/-
  Contracts, part 4: the laws SumGoes, SumCuts.
-/
import Derived.Test.YtinckcpmkocakaaAmC3
set_option linter.unusedVariables false
set_option linter.unusedSimpArgs false
namespace Go.Proofs.Ytinckcpmkocakaa.AM
open Go Go.RowKit
set_option maxRecDepth 100000
set_option maxHeartbeats 4000000

theorem xx {n : Nat} : n ^^^ 4294967295 ^^^ 4294967295 = n := by rw [Nat.xor_assoc]; simp
theorem i64_up {i : Int} {j : Nat} (hi : i = j) (hj : j ≤ 140737488355328) : IntKind.i64.wrap (i + 1) = ((j + 1 : Nat) : Int) := by
  rw [hi, wrap_i64 (by omega) (by omega)]; rfl

theorem c4 (v : Int) (n : Nat) (bs : List (List UInt8)) (l : List V) (hv : v = n) (hn : n < 4294967296) (hl : l = listsV bs) (hbs : bs.length * 24 ≤ 140737488355328) (hb : ∀ b ∈ bs, b.length ≤ 140737488355328) : CallR Try.prog 4 [.int .u32 v, .slice l] fun rs => rs = [.v (.bool true)] := by
  refine .of [.v (.bool true)] rfl ?_
  have hlen : l.length = bs.length := by rw [hl]; simp [listsV]
  refine FnR.of' T_ok M_ok (fn := Try.f4) (by kernel_rfl) rfl rfl rfl rfl (Nat.le_of_ble_eq_true rfl) fun A hA => ?_
  cbv
  refine callI hA (c19 v n hv hn) ?_
  rintro _ ⟨s, rfl, hs⟩
  cbv
  refine callI hA (c20 s _ hs (xlt hn)) ?_
  rintro _ ⟨t, rfl, ht⟩
  cbv
  rw [xx] at ht
  have hne : A.ine t v = false := by rw [hA, ht, hv]; simp [std]
  refine condF hA hne ?_
  cbv
  refine callI hA (c21) ?_
  rintro _ ⟨s0, rfl, hs0⟩
  cbv
  refine callI hA (c20 s0 _ hs0 (by decide)) ?_
  rintro _ ⟨t0, rfl, ht0⟩
  cbv
  have hne0 : A.ine t0 0 = false := by rw [hA, ht0]; rfl
  refine condF hA hne0 ?_
  cbv
  refine loopF hA (ι := Int × Int × Int) (fun p => { n := 43, sl := [(1, .v (.slice l)), (5, .v (.int .u32 p.2.1)), (6, .v (.int .u32 p.2.2)), (7, .v (.int .i64 p.1))], ob := [] })
    (fun p => ∃ j N : Nat, p.1 = j ∧ j ≤ bs.length ∧ N < 4294967296 ∧ p.2.2 = N ∧ p.2.1 = (N ^^^ 4294967295 : Nat)) (fun p => bs.length - p.1.toNat) (_, _, _) (weakI rfl ⟨rfl, rfl, rfl, rfl, trivial⟩ trivial) ⟨0, n, rfl, Nat.zero_le _, hn, hv, hs⟩ ?_
  rintro ⟨i, y, x⟩ ⟨j, N, hi, hj, hN, hx, hy⟩
  replace hi : i = Int.ofNat j := hi
  replace hx : x = Int.ofNat N := hx
  replace hy : y = Int.ofNat (N ^^^ 4294967295) := hy
  cbv
  refine condI hA (fun hc => ?_) (fun hc => ?_)
  · have hjl : j < bs.length := by
      rw [hA] at hc
      simp only [std, decide_eq_true_eq, hlen] at hc
      rw [natEq hi] at hc
      exact_mod_cast hc
    cbv
    obtain ⟨c, hcv⟩ : ∃ c, c = bytesV (bs[j]'hjl) := ⟨_, rfl⟩
    refine chkI hA (by kernel_rfl) ?_
    cbv
    refine getXI hA (.slice c) (by rw [hcv]; exact listsV_at hl (natEq hi) hjl) ?_
    cbv
    refine callI hA (c22 y _ _ _ (natEq hy) (xlt hN) hcv (hb _ (List.getElem_mem hjl))) ?_
    rintro _ ⟨r1, rfl, h1⟩
    cbv
    refine getXI hA (.slice c) (by rw [hcv]; exact listsV_at hl (natEq hi) hjl) ?_
    cbv
    refine callI hA (c23 x _ _ _ (natEq hx) hN hcv (hb _ (List.getElem_mem hjl))) ?_
    rintro _ ⟨r2, rfl, h2⟩
    cbv
    refine callI hA (c20 r1 _ (natEq h1) (addN_lt (xlt hN) _)) ?_
    rintro _ ⟨r3, rfl, h3⟩
    cbv
    have hne3 : A.ine r3 r2 = false := by rw [hA, natEq h3, natEq h2]; simp [std, sumN]
    refine condF hA hne3 ?_
    cbv
    refine ⟨(_, _, _), weakI rfl ⟨rfl, rfl, rfl, rfl, trivial⟩ trivial, ⟨j + 1, _, ?_, hjl, xlt (addN_lt (xlt hN) (bs[j]'hjl)), natEq h2, ?_⟩, ?_⟩
    · change A.wrap .i64 (A.add i 1) = _
      rw [hA]; exact i64_up (natEq hi) (by omega)
    · rw [xx]; exact natEq h1
    · change bs.length - (A.wrap .i64 (A.add i 1)).toNat < bs.length - i.toNat
      rw [hA]; simp only [std]; rw [i64_up (natEq hi) (by omega), natEq hi]; omega
  · cbv
    refine callI hA (c18) ?_
    rintro _ rfl
    cbv
    refine retI hA ?_
    simp only [retOk, rsOk, retIds, idsD, idsDs, softOb, toV, toVs, List.append_nil, List.nil_append, Option.some.injEq, V.int.injEq, V.bool.injEq, V.slice.injEq, V.agg.injEq, V.str.injEq, true_and, and_true, hA, std]
end Go.Proofs.Ytinckcpmkocakaa.AM
