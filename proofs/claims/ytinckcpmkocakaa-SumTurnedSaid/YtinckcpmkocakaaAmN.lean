/-
  Plain laws: numbers; the check sum.
-/
import Derived.Test.YtinckcpmkocakaaAmT
set_option linter.unusedVariables false
set_option linter.unusedSimpArgs false
namespace Go.Proofs.Ytinckcpmkocakaa.AM
open Go Go.RowKit

theorem bits_xor_u32_nat (a b : Nat) (ha : a < 4294967296) (hb : b < 4294967296) : bits .xor .u32 (a : Int) (b : Int) = ((a ^^^ b : Nat) : Int) := by
  have hx : a ^^^ b < 2 ^ 32 := Nat.xor_lt_two_pow (by omega) (by omega)
  have h1 : (BitVec.ofInt 32 (a : Int)).toNat = a := by
    rw [BitVec.ofInt_natCast, BitVec.toNat_ofNat]; exact Nat.mod_eq_of_lt (by omega)
  have h2 : (BitVec.ofInt 32 (b : Int)).toNat = b := by
    rw [BitVec.ofInt_natCast, BitVec.toNat_ofNat]; exact Nat.mod_eq_of_lt (by omega)
  show IntKind.u32.wrap ((BitVec.ofInt 32 (a : Int) ^^^ BitVec.ofInt 32 (b : Int)).toNat : Int) = _
  rw [BitVec.toNat_xor, h1, h2]
  simp only [IntKind.wrap, IntKind.bits, IntKind.signed, Bool.false_and, Bool.false_eq_true, if_false]
  omega
theorem bits_xor_u8_nat (a b : Nat) (ha : a < 256) (hb : b < 256) : bits .xor .u8 (a : Int) (b : Int) = ((a ^^^ b : Nat) : Int) := by
  have hx : a ^^^ b < 2 ^ 8 := Nat.xor_lt_two_pow (by omega) (by omega)
  have h1 : (BitVec.ofInt 8 (a : Int)).toNat = a := by
    rw [BitVec.ofInt_natCast, BitVec.toNat_ofNat]; exact Nat.mod_eq_of_lt (by omega)
  have h2 : (BitVec.ofInt 8 (b : Int)).toNat = b := by
    rw [BitVec.ofInt_natCast, BitVec.toNat_ofNat]; exact Nat.mod_eq_of_lt (by omega)
  show IntKind.u8.wrap ((BitVec.ofInt 8 (a : Int) ^^^ BitVec.ofInt 8 (b : Int)).toNat : Int) = _
  rw [BitVec.toNat_xor, h1, h2]
  simp only [IntKind.wrap, IntKind.bits, IntKind.signed, Bool.false_and, Bool.false_eq_true, if_false]
  omega
theorem inot_u32 (a : Nat) (ha : a < 4294967296) : bits .xor .u32 (if IntKind.u32.signed then -1 else IntKind.u32.max) (a : Int) = ((a ^^^ 4294967295 : Nat) : Int) := by
  have : (if IntKind.u32.signed then -1 else IntKind.u32.max) = ((4294967295 : Nat) : Int) := by decide
  rw [this, bits_xor_u32_nat _ _ (by decide) ha, Nat.xor_comm]

theorem wrap_i64 {n : Int} (h1 : -9223372036854775808 ≤ n) (h2 : n ≤ 9223372036854775807) : IntKind.i64.wrap n = n := by
  simp only [IntKind.wrap, IntKind.bits, IntKind.signed, Bool.true_and, decide_eq_true_eq, ge_iff_le]
  split <;> omega
theorem shr_u32 (a : Nat) : Int.fdiv (a : Int) (2 ^ (min (Int.toNat 8) IntKind.u32.bits)) = ((a / 256 : Nat) : Int) := by
  have : (2 : Int) ^ (min (Int.toNat 8) IntKind.u32.bits) = ((256 : Nat) : Int) := by decide
  rw [this, Int.fdiv_eq_ediv_of_nonneg _ (by omega)]
  rfl

/-- One step of the sum, one bit. -/
def one (n : Nat) : Nat := if n % 2 = 1 then (n / 2) ^^^ 3988292384 else n / 2
def ones : Nat → Nat → Nat
  | 0, n => n
  | k + 1, n => ones k (one n)
def eight (n : Nat) : Nat := ones 8 n
theorem one_xor (a b : Nat) : one (a ^^^ b) = one a ^^^ one b := by
  have h1 : (a ^^^ b) / 2 = a / 2 ^^^ b / 2 := Nat.xor_div_two
  have h2 : (a ^^^ b) % 2 = a % 2 ^^^ b % 2 := by
    have := @Nat.xor_mod_two_pow a b 1
    simpa using this
  unfold one
  rw [h1, h2]
  rcases Nat.mod_two_eq_zero_or_one a with ha | ha <;> rcases Nat.mod_two_eq_zero_or_one b with hb | hb <;> rw [ha, hb] <;> simp
  · ac_rfl
  · ac_rfl
  · rw [show a / 2 ^^^ 3988292384 ^^^ (b / 2 ^^^ 3988292384) = a / 2 ^^^ b / 2 ^^^ (3988292384 ^^^ 3988292384) from by ac_rfl]
    simp
theorem ones_xor : ∀ (k a b : Nat), ones k (a ^^^ b) = ones k a ^^^ ones k b
  | 0, _, _ => rfl
  | k + 1, a, b => by simp only [ones, one_xor, ones_xor k]
theorem one_lt {n : Nat} (h : n < 4294967296) : one n < 4294967296 := by
  unfold one
  split
  · exact Nat.xor_lt_two_pow (n := 32) (by omega) (by decide)
  · omega
theorem ones_lt : ∀ (k : Nat) {n : Nat}, n < 4294967296 → ones k n < 4294967296
  | 0, _, h => h
  | k + 1, n, h => ones_lt k (one_lt h)
theorem one_even (n : Nat) : one (2 * n) = n := by unfold one; rw [if_neg (by omega)]; omega
theorem eight_high (y : Nat) : eight (y * 256) = y := by
  have e : ∀ k n, ones k (2 ^ k * n) = n := by
    intro k
    induction k with
    | zero => intro n; simp [ones]
    | succ k ih => intro n; rw [ones, show 2 ^ (k + 1) * n = 2 * (2 ^ k * n) from by rw [Nat.pow_succ]; ac_rfl, one_even, ih]
  have := e 8 y
  rw [Nat.mul_comm] at this
  exact this
/-- A byte more: the table's step. -/
def stepT (x c : Nat) : Nat := eight ((x % 256) ^^^ c) ^^^ (x / 256)
theorem step_eq (x c : Nat) (hc : c < 256) : eight (x ^^^ c) = stepT x c := by
  have h : x = (x % 256) ^^^ (x / 256 * 256) := by
    apply Nat.eq_of_testBit_eq
    intro i
    rw [Nat.testBit_xor, show (256 : Nat) = 2 ^ 8 from rfl, Nat.testBit_mod_two_pow, Nat.testBit_mul_two_pow, Nat.testBit_div_two_pow]
    by_cases hi : i < 8
    · simp [hi, show ¬ 8 ≤ i from by omega]
    · simp [hi, show 8 ≤ i from by omega]
  unfold stepT
  conv => lhs; rw [h]
  rw [show x % 256 ^^^ x / 256 * 256 ^^^ c = (x % 256 ^^^ c) ^^^ (x / 256 * 256) from by ac_rfl]
  unfold eight
  rw [ones_xor]
  congr 1
  exact eight_high _
theorem stepT_lt {x c : Nat} (hx : x < 4294967296) (hc : c < 256) : stepT x c < 4294967296 := by
  rw [← step_eq x c hc]
  exact ones_lt 8 (Nat.xor_lt_two_pow (n := 32) (by omega) (by omega))
/-- Bytes more. -/
def addN (x : Nat) (b : List UInt8) : Nat := b.foldl (fun x c => eight (x ^^^ c.toNat)) x
theorem addN_lt {x : Nat} (hx : x < 4294967296) (b : List UInt8) : addN x b < 4294967296 := by
  induction b generalizing x with
  | nil => exact hx
  | cons c b ih => exact ih (ones_lt 8 (Nat.xor_lt_two_pow (n := 32) (by omega) (by have := c.toNat_lt; omega)))
theorem addN_take {x : Nat} {b : List UInt8} {i : Nat} (h : i < b.length) : addN x (b.take (i + 1)) = eight (addN x (b.take i) ^^^ (b[i]'h).toNat) := by
  unfold addN
  rw [List.take_succ_eq_append_getElem h, List.foldl_append]; rfl
theorem addN_append (x : Nat) (a b : List UInt8) : addN x (a ++ b) = addN (addN x a) b := by unfold addN; rw [List.foldl_append]
end Go.Proofs.Ytinckcpmkocakaa.AM
