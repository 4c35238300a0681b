/-
  Contracts, part 6: the law SumTurned.
-/
import Derived.Test.YtinckcpmkocakaaAmC5
set_option linter.unusedVariables false
set_option linter.unusedSimpArgs false
namespace Go.Proofs.Ytinckcpmkocakaa.AM
open Go Go.RowKit
set_option maxRecDepth 100000
set_option maxHeartbeats 4000000

theorem one_zero {n : Nat} (hn : n < 4294967296) (h : one n = 0) : n = 0 := by
  unfold one at h
  split at h
  · have h2 : n / 2 = 3988292384 := by
      have := congrArg (· ^^^ 3988292384) h
      simpa [Nat.xor_assoc] using this
    omega
  · omega
theorem one_inj {a b : Nat} (ha : a < 4294967296) (hb : b < 4294967296) (h : one a = one b) : a = b := by
  have h1 : one (a ^^^ b) = 0 := by rw [one_xor, h, Nat.xor_self]
  have h2 := one_zero (Nat.xor_lt_two_pow (n := 32) ha hb) h1
  have := congrArg (a ^^^ ·) h2
  simp only [← Nat.xor_assoc, Nat.xor_self, Nat.zero_xor, Nat.xor_zero] at this
  exact this.symm
theorem ones_inj : ∀ (k : Nat) {a b : Nat}, a < 4294967296 → b < 4294967296 → ones k a = ones k b → a = b
  | 0, _, _, _, _, h => h
  | k + 1, a, b, ha, hb, h => one_inj ha hb (ones_inj k (one_lt ha) (one_lt hb) h)
theorem xor_left {a b c : Nat} (h : a ^^^ b = a ^^^ c) : b = c := by
  have := congrArg (a ^^^ ·) h
  simpa only [← Nat.xor_assoc, Nat.xor_self, Nat.zero_xor] using this
theorem xor_right {a b c : Nat} (h : b ^^^ a = c ^^^ a) : b = c := xor_left (a := a) (by rw [Nat.xor_comm, h, Nat.xor_comm])
theorem addN_inj : ∀ (b : List UInt8) {x y : Nat}, x < 4294967296 → y < 4294967296 → addN x b = addN y b → x = y
  | [], _, _, _, _, h => h
  | c :: b, x, y, hx, hy, h => by
    have hc := c.toNat_lt
    have h1 : x ^^^ c.toNat < 4294967296 := Nat.xor_lt_two_pow (n := 32) hx (by omega)
    have h2 : y ^^^ c.toNat < 4294967296 := Nat.xor_lt_two_pow (n := 32) hy (by omega)
    have h3 := addN_inj b (ones_lt 8 h1) (ones_lt 8 h2) h
    exact xor_right (ones_inj 8 h1 h2 h3)
theorem addN_set {x : Nat} (hx : x < 4294967296) (b : List UInt8) (k : Nat) (hk : k < b.length) (c : UInt8) (h : addN x (b.set k c) = addN x b) : c = b[k] := by
  have e1 : b.set k c = b.take k ++ c :: b.drop (k + 1) := by
    rw [List.set_eq_take_append_cons_drop, if_pos hk]
  have e2 : b = b.take k ++ b[k] :: b.drop (k + 1) := by simp
  rw [e1] at h
  conv at h => rhs; rw [e2]
  rw [addN_append, addN_append] at h
  have hlt := addN_lt hx (b.take k)
  have h3 := c.toNat_lt
  have h4 := (b[k]).toNat_lt
  have h1 : addN x (b.take k) ^^^ c.toNat < 4294967296 := Nat.xor_lt_two_pow (n := 32) hlt (by omega)
  have h2 : addN x (b.take k) ^^^ (b[k]).toNat < 4294967296 := Nat.xor_lt_two_pow (n := 32) hlt (by omega)
  have h5 := ones_inj 8 h1 h2 (addN_inj (b.drop (k + 1)) (ones_lt 8 h1) (ones_lt 8 h2) h)
  exact UInt8.toNat_inj.1 (xor_left h5)
theorem sumN_set (b : List UInt8) (k : Nat) (hk : k < b.length) (c : UInt8) : (sumN 0 (b.set k c) = sumN 0 b) ↔ c = b[k] := by
  refine ⟨fun h => ?_, fun h => by rw [h]; simp⟩
  rw [sumN_of, sumN_of] at h
  exact addN_set (by decide) b k hk c (xor_right h)
theorem bytesV_set (b : List UInt8) (k : Nat) (c : UInt8) : (bytesV b).set k (.int .u8 (c.toNat : Nat)) = bytesV (b.set k c) := by simp [bytesV]
theorem xor_byte (c : UInt8) (n : Nat) (hn : n < 256) : c.toNat ^^^ n = (UInt8.ofNat (c.toNat ^^^ n)).toNat := by
  have := c.toNat_lt
  have h : c.toNat ^^^ n < 256 := Nat.xor_lt_two_pow (n := 8) (by omega) hn
  rw [UInt8.toNat_ofNat']; omega
theorem idx_turned {a : Int} {n m k : Nat} (ha : a = (n : Int)) (hn : n < 65536) (hk : k = n % m) : (IntKind.i64.wrap a).tmod (m : Int) = (k : Int) := by
  rw [ha, wrap_i64 (by omega) (by omega), hk]; rfl
theorem bd_idx {x : Int} {k n : Nat} (hx : x = (k : Int)) (hk : k < n) : 0 ≤ x ∧ x < (n : Int) := by omega
theorem len_app (l : List V) (b : List UInt8) (hl : l = bytesV b) : ([] ++ l).length = b.length := by subst hl; simp [bytesV]

theorem c6 (b : List UInt8) (l : List V) (a : Int) (n : Nat) (y : Int) (m : Nat) (hl : l = bytesV b) (hb : b.length ≤ 140737488355328) (ha : a = n) (hn : n < 65536) (hy : y = m) (hm : m < 256) : CallR Try.prog 6 [.slice l, .int .u16 a, .int .u8 y] fun rs => rs = [.v (.bool true)] := by
  refine .of [.v (.bool true)] rfl ?_
  have hlen : l.length = b.length := by rw [hl]; simp [bytesV]
  refine FnR.of' T_ok M_ok (fn := Try.f6) (by kernel_rfl) rfl rfl rfl rfl (Nat.le_of_ble_eq_true rfl) fun A hA => ?_
  cbv
  refine condI hA (fun hc => ?_) (fun hc => ?_)
  · cbv
    refine callI hA (c16 [] _ rfl (by decide)) ?_
    rintro _ ⟨r, rfl, hr⟩
    cbv
    have e1 : A.ieq r 0 = true := by rw [hA, hr]; decide +kernel
    refine condT hA e1 ?_
    cbv
    refine callI hA (c18) ?_
    rintro _ rfl
    cbv
    refine retI hA ?_
    simp only [retOk, rsOk, retIds, idsD, idsDs, softOb, toV, toVs, List.append_nil, List.nil_append, Option.some.injEq, V.int.injEq, V.bool.injEq, V.slice.injEq, V.agg.injEq, V.str.injEq, true_and, and_true, hA, std]
  · have hpos : 0 < b.length := by
      rw [hA] at hc
      have : ¬ ((l.length : Int) = 0) := by simpa [std] using hc
      omega
    obtain ⟨k, hkv⟩ : ∃ k, k = n % b.length := ⟨_, rfl⟩
    have hkl : k < b.length := by rw [hkv]; exact Nat.mod_lt n hpos
    replace ha := natEq ha
    replace hy := natEq hy
    have hsz := bytesV_flat hl
    cbv
    refine sizedI hA hsz ?_
    cbv
    refine roomI hA (by change (([] : List V).length + l.length) * 1 ≤ _ ∧ _; rw [hlen]; simp; omega) ?_
    cbv
    have happ : A.app [] l = bytesV b := by rw [hA]; exact hl
    have hll : A.lenL (A.app [] l) = (b.length : Int) := by rw [happ, hA]; simp only [std]; rw [bytesV_len]
    have hk : A.tmod (A.wrap .i64 a) (A.lenL (A.app [] l)) = (k : Int) := by
      rw [hll, hA]; exact idx_turned ha hn hkv
    have hin : 0 ≤ A.tmod (A.wrap .i64 a) (A.lenL (A.app [] l)) ∧ A.tmod (A.wrap .i64 a) (A.lenL (A.app [] l)) < (A.app [] l).length := by
      rw [happ, bytesV_len]; rw [happ] at hk; exact bd_idx hk hkl
    refine nzI hA (by change A.lenL (A.app [] l) ≠ 0; rw [hll]; omega) ?_
    cbv
    refine inRI hA hin ?_
    cbv
    refine getBN hA happ hk hkl ?_
    rintro c hcv
    cbv
    refine inRI hA hin ?_
    cbv
    refine inRI hA hin ?_
    cbv
    have hset : A.setL (A.app [] l) (A.tmod (A.wrap .i64 a) (A.lenL (A.app [] l))) (.int .u8 (A.bits .xor .u8 c y)) = bytesV (b.set k (UInt8.ofNat ((b[k]'hkl).toNat ^^^ m))) := by
      have h1 : A.bits .xor .u8 c y = (((UInt8.ofNat ((b[k]'hkl).toNat ^^^ m)).toNat : Nat) : Int) := by
        rw [hA, hcv, hy]; simp only [std]
        rw [bits_xor_u8_nat _ _ (b[k]'hkl).toNat_lt hm]; exact congrArg Nat.cast (xor_byte _ _ hm)
      rw [h1, hk, happ, hA]; simp only [std]
      rw [Int.toNat_natCast, bytesV_set]
    refine callI hA (c16 _ _ hset (by simpa using hb)) ?_
    rintro _ ⟨r1, rfl, hr1⟩
    cbv
    refine callI hA (c16 b l hl hb) ?_
    rintro _ ⟨r2, rfl, hr2⟩
    cbv
    have e1 : A.beq (A.ieq r1 r2) (A.ieq y 0) = true := by
      rw [hA, hr1, hr2, hy]; simp only [std]
      have h1 := sumN_set b k hkl (UInt8.ofNat ((b[k]'hkl).toNat ^^^ m))
      have h2 : (UInt8.ofNat ((b[k]'hkl).toNat ^^^ m) = b[k]'hkl) ↔ m = 0 := by
        rw [← UInt8.toNat_inj, ← xor_byte _ _ hm]
        refine ⟨fun h => xor_left (a := (b[k]'hkl).toNat) (by simpa using h), fun h => by rw [h]; simp⟩
      rw [h2] at h1
      by_cases hm0 : m = 0
      · have := h1.2 hm0; rw [this]; simp [hm0]
      · have : ¬ _ := fun h => hm0 (h1.1 h)
        simp only [beq_iff_eq]
        rw [beq_eq_false_iff_ne.2 (fun h => this (by exact_mod_cast h)), beq_eq_false_iff_ne.2 (fun h => hm0 (by exact_mod_cast h))]
    refine condT hA e1 ?_
    cbv
    refine callI hA (c18) ?_
    rintro _ rfl
    cbv
    refine retI hA ?_
    simp only [retOk, rsOk, retIds, idsD, idsDs, softOb, toV, toVs, List.append_nil, List.nil_append, Option.some.injEq, V.int.injEq, V.bool.injEq, V.slice.injEq, V.agg.injEq, V.str.injEq, true_and, and_true, hA, std]
end Go.Proofs.Ytinckcpmkocakaa.AM
