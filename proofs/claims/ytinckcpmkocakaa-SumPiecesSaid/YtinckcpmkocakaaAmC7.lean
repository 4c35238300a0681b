/-
  Contracts, part 7: the law SumLinear.
-/
import Derived.Test.YtinckcpmkocakaaAmC6
set_option linter.unusedVariables false
set_option linter.unusedSimpArgs false
namespace Go.Proofs.Ytinckcpmkocakaa.AM
open Go Go.RowKit
set_option maxRecDepth 100000
set_option maxHeartbeats 4000000

theorem mk_of {n : Int} {N b : Nat} (h : n = (N : Int)) (h2 : N ≤ 140737488355328) (h3 : N * b ≤ 140737488355328) : 0 ≤ n ∧ n ≤ n ∧ n ≤ 140737488355328 ∧ n * (b : Int) ≤ 140737488355328 := by
  subst h; exact ⟨by omega, by omega, by omega, Int.ofNat_le.2 h3⟩
def x3 (a b c : List UInt8) : List UInt8 := List.zipWith (· ^^^ ·) (List.zipWith (· ^^^ ·) a b) c
theorem x3_len {a b c : List UInt8} {n : Nat} (ha : a.length = n) (hb : b.length = n) (hc : c.length = n) : (x3 a b c).length = n := by simp [x3, ha, hb, hc]
theorem x3_take {a b c : List UInt8} {j : Nat} (ha : j < a.length) (hb : j < b.length) (hc : j < c.length) : x3 (a.take (j + 1)) (b.take (j + 1)) (c.take (j + 1)) = x3 (a.take j) (b.take j) (c.take j) ++ [a[j] ^^^ b[j] ^^^ c[j]] := by
  unfold x3
  rw [List.take_succ_eq_append_getElem ha, List.take_succ_eq_append_getElem hb, List.take_succ_eq_append_getElem hc]
  rw [List.zipWith_append (by simp; omega), List.zipWith_append (by simp; omega)]; rfl
theorem eight_xor (a b : Nat) : eight (a ^^^ b) = eight a ^^^ eight b := ones_xor 8 a b
theorem addN_x3 : ∀ (a b c : List UInt8) (x y z : Nat), a.length = b.length → a.length = c.length → addN (x ^^^ y ^^^ z) (x3 a b c) = addN x a ^^^ addN y b ^^^ addN z c
  | [], [], [], x, y, z, _, _ => rfl
  | a :: a', b :: b', c :: c', x, y, z, h1, h2 => by
    have ih := addN_x3 a' b' c' (eight (x ^^^ a.toNat)) (eight (y ^^^ b.toNat)) (eight (z ^^^ c.toNat)) (by simpa using h1) (by simpa using h2)
    simp only [addN, List.foldl_cons] at ih ⊢
    rw [← ih, ← eight_xor, ← eight_xor]
    simp only [x3, List.zipWith_cons_cons, List.foldl_cons, UInt8.toNat_xor]
    congr 2
    ac_rfl
  | [], _ :: _, _, _, _, _, h, _ => by simp at h
  | _ :: _, [], _, _, _, _, h, _ => by simp at h
  | [], _, _ :: _, _, _, _, _, h => by simp at h
  | _ :: _, _, [], _, _, _, _, h => by simp at h
theorem sumN_x3 (a b c : List UInt8) (h : a.length = b.length) (h' : a.length = c.length) : sumN 0 a ^^^ sumN 0 b ^^^ sumN 0 c = sumN 0 (x3 a b c) := by
  simp only [sumN_of]
  have := addN_x3 a b c 4294967295 4294967295 4294967295 h h'
  rw [show (4294967295 ^^^ 4294967295 ^^^ 4294967295 : Nat) = 4294967295 from rfl] at this
  rw [this, show ∀ p q r F : Nat, p ^^^ F ^^^ (q ^^^ F) ^^^ (r ^^^ F) = p ^^^ q ^^^ r ^^^ (F ^^^ F ^^^ F) from fun p q r F => by ac_rfl]
  rfl
theorem repl_bytes (n : Nat) : List.replicate n (V.int .u8 0) = bytesV (List.replicate n 0) := by simp [bytesV]
theorem xor_set {a b c : List UInt8} {N j : Nat} (ha : j < a.length) (hb : j < b.length) (hc : j < c.length) (hN : j < N) :
    (x3 (a.take j) (b.take j) (c.take j) ++ List.replicate (N - j) 0).set j (a[j] ^^^ b[j] ^^^ c[j]) = x3 (a.take (j + 1)) (b.take (j + 1)) (c.take (j + 1)) ++ List.replicate (N - (j + 1)) 0 := by
  have hl : (x3 (a.take j) (b.take j) (c.take j)).length = j := x3_len (by simp; omega) (by simp; omega) (by simp; omega)
  rw [x3_take ha hb hc, List.set_append_right _ _ (by omega), hl, Nat.sub_self]
  rw [show N - j = (N - (j + 1)) + 1 from by omega, List.replicate_succ]
  simp
theorem c7 (a b c : List UInt8) (la lb lc : List V) (hla : la = bytesV a) (hlb : lb = bytesV b) (hlc : lc = bytesV c) (ha : a.length ≤ 140737488355328) (hb : b.length ≤ 140737488355328) (hc : c.length ≤ 140737488355328) : CallR Try.prog 7 [.slice la, .slice lb, .slice lc] fun rs => rs = [.v (.bool true)] := by
  refine .of [.v (.bool true)] rfl ?_
  refine FnR.of' T_ok M_ok (fn := Try.f7) (by kernel_rfl) rfl rfl rfl rfl (Nat.le_of_ble_eq_true rfl) fun A hA => ?_
  cbv
  obtain ⟨N, hN⟩ : ∃ N, N = min (min (min a.length b.length) c.length) 200 := ⟨_, rfl⟩
  have hNa : N ≤ a.length := by omega
  have hNb : N ≤ b.length := by omega
  have hNc : N ≤ c.length := by omega
  have hn : A.imin (A.imin (A.imin (A.lenL la) (A.lenL lb)) (A.lenL lc)) 200 = (N : Int) := by
    rw [hA]; simp only [std]; rw [hla, hlb, hlc, bytesV_len, bytesV_len, bytesV_len, hN]; omega
  refine mkSI hA (mk_of hn (by omega) (by omega)) ?_
  cbv
  refine loopF hA (ι := Int × Int × List V) (fun p => { n := 61, sl := [(0, .v (.slice la)), (1, .v (.slice lb)), (2, .v (.slice lc)), (7, .v (.int .i64 p.1)), (8, .own 18), (9, .v (.int .i64 p.2.1))], ob := [(18, .row 1 p.2.2 true)] })
    (fun p => ∃ j : Nat, p.1 = N ∧ p.2.1 = j ∧ j ≤ N ∧ p.2.2 = bytesV (x3 (a.take j) (b.take j) (c.take j) ++ List.replicate (N - j) 0)) (fun p => N - p.2.1.toNat) (_, _, _) (weakI rfl ⟨rfl, rfl, rfl, rfl, rfl, rfl, trivial⟩ ⟨rfl, trivial⟩) ⟨0, hn, rfl, Nat.zero_le _, ?_⟩ ?_
  · change A.repl (A.imin (A.imin (A.imin (A.lenL la) (A.lenL lb)) (A.lenL lc)) 200) (V.int IntKind.u8 0) = _
    rw [hn, hA]; simp only [std]
    rw [Int.toNat_natCast, repl_bytes]; rfl
  rintro ⟨n, i, l⟩ ⟨j, hn, hi, hj, hl⟩
  dsimp only at hn hi hl
  cbv
  refine condI hA (fun hc => ?_) (fun hc => ?_)
  · have hjl : j < N := by
      rw [hA] at hc
      simp only [std, decide_eq_true_eq, natEq hn, natEq hi] at hc
      exact_mod_cast hc
    have ja : j < a.length := by omega
    have jb : j < b.length := by omega
    have jc : j < c.length := by omega
    replace hi := natEq hi
    cbv
    refine chkI hA (by kernel_rfl) ?_
    cbv
    refine getBN hA hla hi ja ?_
    rintro y1 h1
    cbv
    refine getBN hA hlb hi jb ?_
    rintro y2 h2
    cbv
    refine getBN hA hlc hi jc ?_
    rintro y3 h3
    cbv
    have hll : l.length = N := by rw [hl, bytesV_len, List.length_append, x3_len (n := j) (by simp; omega) (by simp; omega) (by simp; omega)]; simp; omega
    refine inRI hA (by rw [hll]; exact bd_idx hi hjl) ?_
    cbv
    refine inRI hA (by rw [hll]; exact bd_idx hi hjl) ?_
    cbv
    refine ⟨(_, _, _), weakI rfl ⟨rfl, rfl, rfl, rfl, rfl, rfl, trivial⟩ ⟨rfl, trivial⟩, ⟨j + 1, natEq hn, ?_, hjl, ?_⟩, ?_⟩
    · change A.wrap .i64 (A.add i 1) = _
      rw [hA]; exact i64_up hi (by omega)
    · change A.setL l i (.int .u8 (A.bits .xor .u8 (A.bits .xor .u8 y1 y2) y3)) = _
      have q1 := (a[j]'ja).toNat_lt
      have q2 := (b[j]'jb).toNat_lt
      have q3 := (c[j]'jc).toNat_lt
      rw [natEq h1, natEq h2, natEq h3, hA]; simp only [std]
      rw [bits_xor_u8_nat _ _ q1 q2, ← UInt8.toNat_xor, bits_xor_u8_nat _ _ (UInt8.toNat_lt _) q3, ← UInt8.toNat_xor, natEq hi, Int.toNat_natCast, congrArg (List.set · j _) hl, bytesV_set, xor_set ja jb jc hjl]
    · change N - (A.wrap .i64 (A.add i 1)).toNat < N - i.toNat
      rw [hA]; simp only [std]; rw [i64_up (natEq hi) (by omega), natEq hi]; omega
  · have hjl : j = N := by
      rw [hA] at hc
      simp only [std, decide_eq_false_iff_not, natEq hn, natEq hi] at hc
      omega
    rw [hjl] at hl
    replace hn := natEq hn
    cbv
    refine chkI hA (by kernel_rfl) ?_
    cbv
    refine sizedI hA (bytesV_flat hla) ?_
    cbv
    refine subLN hA (bd_to hn hNa (by rw [hla, bytesV_len])) ?_
    rintro l1 h1
    have h1 := cutTo hn hla h1
    cbv
    refine callI hA (c16 _ l1 h1 (by simp; omega)) ?_
    rintro _ ⟨r1, rfl, hr1⟩
    cbv
    refine sizedI hA (bytesV_flat hlb) ?_
    cbv
    refine subLN hA (bd_to hn hNb (by rw [hlb, bytesV_len])) ?_
    rintro l2 h2
    have h2 := cutTo hn hlb h2
    cbv
    refine callI hA (c16 _ l2 h2 (by simp; omega)) ?_
    rintro _ ⟨r2, rfl, hr2⟩
    cbv
    refine sizedI hA (bytesV_flat hlc) ?_
    cbv
    refine subLN hA (bd_to hn hNc (by rw [hlc, bytesV_len])) ?_
    rintro l3 h3
    have h3 := cutTo hn hlc h3
    cbv
    refine callI hA (c16 _ l3 h3 (by simp; omega)) ?_
    rintro _ ⟨r3, rfl, hr3⟩
    cbv
    refine callI hA (c16 _ l hl (by rw [List.length_append, x3_len (n := N) (by simp; omega) (by simp; omega) (by simp; omega)]; simp; omega)) ?_
    rintro _ ⟨r4, rfl, hr4⟩
    cbv
    have e1 : A.ieq (A.bits .xor .u32 (A.bits .xor .u32 r1 r2) r3) r4 = true := by
      have q : ∀ b : List UInt8, sumN 0 b < 4294967296 := fun b => by rw [sumN_of]; exact xlt (addN_lt (by decide) b)
      rw [hA, hr1, hr2, hr3, hr4]; simp only [std]
      rw [bits_xor_u32_nat _ _ (q _) (q _), bits_xor_u32_nat _ _ (Nat.xor_lt_two_pow (n := 32) (q _) (q _)) (q _), sumN_x3 _ _ _ (by simp; omega) (by simp; omega)]
      simp
    refine condT hA e1 ?_
    cbv
    refine callI hA (c18) ?_
    rintro _ rfl
    cbv
    refine retI hA ?_
    simp only [retOk, rsOk, retIds, idsD, idsDs, softOb, toV, toVs, List.append_nil, List.nil_append, Option.some.injEq, V.int.injEq, V.bool.injEq, V.slice.injEq, V.agg.injEq, V.str.injEq, true_and, and_true, hA, std]
end Go.Proofs.Ytinckcpmkocakaa.AM
