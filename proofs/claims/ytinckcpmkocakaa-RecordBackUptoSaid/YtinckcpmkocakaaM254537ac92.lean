/-
  Contracts: numbers read.
-/
import Derived.Test.YtinckcpmkocakaaM240ff503b5
set_option linter.unusedVariables false
set_option linter.unusedSimpArgs false
namespace Go.Proofs.Ytinckcpmkocakaa.AM
open Go Go.RowKit
set_option maxRecDepth 100000
set_option maxHeartbeats 4000000

def beN (b : List UInt8) : Nat := b.foldl (fun n c => n * 256 + c.toNat) 0
def numberM (b : List UInt8) : Option Nat := if 8 < b.length ∨ b.head? = some 0 then none else some (beN b)
def numberN (b : List UInt8) : Nat := match numberM b with
  | some n => n
  | none => 0
def numberE (b : List UInt8) : Int := match numberM b with
  | some _ => 0
  | none => 4
theorem beN_take {b : List UInt8} {j : Nat} (h : j < b.length) : beN (b.take (j + 1)) = beN (b.take j) * 256 + (b[j]).toNat := by
  unfold beN; rw [List.take_succ_eq_append_getElem h, List.foldl_append]; rfl
theorem beN_lt' : ∀ (b : List UInt8) (n : Nat), b.foldl (fun n c => n * 256 + c.toNat) n < (n + 1) * 256 ^ b.length
  | [], n => by simp
  | c :: b, n => by
    have h := beN_lt' b (n * 256 + c.toNat)
    have c8 := c.toNat_lt
    rw [List.foldl_cons, List.length_cons, Nat.pow_succ, Nat.mul_comm (256 ^ b.length) 256, ← Nat.mul_assoc]
    exact Nat.lt_of_lt_of_le h (Nat.mul_le_mul_right _ (by omega))
theorem beN_lt (b : List UInt8) : beN b < 256 ^ b.length := by have := beN_lt' b 0; simpa [beN] using this
theorem beN_ge {b : List UInt8} {j : Nat} (hj : j < b.length) (h : b.head? ≠ some 0) : 256 ^ j ≤ beN (b.take (j + 1)) := by
  induction j with
  | zero =>
    rw [beN_take hj]
    have h0 : b[0] ≠ 0 := fun e => h (by rw [List.head?_eq_getElem?, List.getElem?_eq_getElem hj, e])
    have : b[0].toNat ≠ 0 := fun e => h0 (UInt8.toNat_inj.1 (by simpa using e))
    simp [beN]; omega
  | succ j ih =>
    have := ih (by omega)
    rw [beN_take hj, Nat.pow_succ]
    omega
theorem number_bad {b : List UInt8} (h : 8 < b.length ∨ b.head? = some 0) : numberN b = 0 ∧ numberE b = 4 := by
  have : numberM b = none := if_pos h
  simp [numberN, numberE, this]
theorem number_good {b : List UInt8} (h : ¬ (8 < b.length ∨ b.head? = some 0)) : numberN b = beN b ∧ numberE b = 0 := by
  have : numberM b = some (beN b) := if_neg h
  simp [numberN, numberE, this]
theorem bits_or_u64_nat (a b : Nat) (ha : a < 18446744073709551616) (hb : b < 18446744073709551616) : bits .or .u64 (a : Int) (b : Int) = ((a ||| b : Nat) : Int) := by
  have hx : a ||| b < 2 ^ 64 := Nat.or_lt_two_pow (by omega) (by omega)
  have h1 : (BitVec.ofInt 64 (a : Int)).toNat = a := by
    rw [BitVec.ofInt_natCast, BitVec.toNat_ofNat]; exact Nat.mod_eq_of_lt (by omega)
  have h2 : (BitVec.ofInt 64 (b : Int)).toNat = b := by
    rw [BitVec.ofInt_natCast, BitVec.toNat_ofNat]; exact Nat.mod_eq_of_lt (by omega)
  show IntKind.u64.wrap ((BitVec.ofInt 64 (a : Int) ||| BitVec.ofInt 64 (b : Int)).toNat : Int) = _
  rw [BitVec.toNat_or, h1, h2]
  exact wrap_u64n (by omega)
section
variable {A : Prim} {P : Program} {R : List (Nat × AObj) → List D → Prop} (hA : A = std P R)
include hA
theorem acc64 {n m : Int} {x y : Nat} (hn : n = x) (hm : m = y) (hx : x < 72057594037927936) (hy : y < 256) : A.bits .or .u64 (A.shl .u64 n 8) (A.wrap .u64 m) = ((x * 256 + y : Nat) : Int) := by
  rw [hA, hn, hm]; simp only [std]
  have e2 : (2 : Int) ^ (min (Int.toNat 8) IntKind.u64.bits) = 256 := by decide
  rw [e2, show (x : Int) * 256 = ((x * 256 : Nat) : Int) from by simp, wrap_u64n (by omega), wrap_u64n (by omega), bits_or_u64_nat _ _ (by omega) (by omega), or_256 _ _ hy]
theorem acc64' {n m : Int} {x y : Nat} (hn : n = x) (hm : m = y) (hx : x < 72057594037927936) (hy : y < 256) : A.wrap .u64 (A.add (A.wrap .u64 (A.mul 256 n)) (A.wrap .u64 m)) = ((x * 256 + y : Nat) : Int) := by
  rw [hA, hn, hm]; simp only [std]
  rw [show 256 * (x : Int) = ((x * 256 : Nat) : Int) from by simp; omega, wrap_u64n (by omega), wrap_u64n (by omega)]
  rw [show ((x * 256 : Nat) : Int) + (y : Int) = ((x * 256 + y : Nat) : Int) from by simp]
  exact wrap_u64n (by omega)
theorem shr56T {n : Int} {x : Nat} (hn : n = x) (h : A.ine (A.shr .u64 n 56) 0 = true) : 72057594037927936 ≤ x := by
  rw [hA, hn] at h; simp only [std] at h
  have e2 : (2 : Int) ^ (min (Int.toNat 56) IntKind.u64.bits) = ((72057594037927936 : Nat) : Int) := by decide
  rw [e2, Int.fdiv_eq_ediv_of_nonneg _ (by omega)] at h
  have h2 : ((x : Int) / ((72057594037927936 : Nat) : Int)) ≠ 0 := by simpa using h
  omega
theorem shr56F {n : Int} {x : Nat} (hn : n = x) (h : A.ine (A.shr .u64 n 56) 0 = false) : x < 72057594037927936 := by
  rw [hA, hn] at h; simp only [std] at h
  have e2 : (2 : Int) ^ (min (Int.toNat 56) IntKind.u64.bits) = ((72057594037927936 : Nat) : Int) := by decide
  rw [e2, Int.fdiv_eq_ediv_of_nonneg _ (by omega)] at h
  have h2 : ((x : Int) / ((72057594037927936 : Nat) : Int)) = 0 := by simpa using h
  omega
theorem eq0T {n : Int} {x : Nat} (hn : n = x) (h : A.ieq n 0 = true) : x = 0 := by have := eqT hA h; omega
theorem eq0F {n : Int} {x : Nat} (hn : n = x) (h : A.ieq n 0 = false) : x ≠ 0 := by have := eqF hA h; omega
end
theorem pow256 {j : Nat} (h : j < 8) : 256 ^ j * 256 ≤ 18446744073709551616 := by
  have : 256 ^ j ≤ 256 ^ 7 := Nat.pow_le_pow_right (by decide) (by omega)
  have e : (256 : Nat) ^ 7 = 72057594037927936 := by decide
  omega
theorem pow56 {j n : Nat} (h : n < 256 ^ j) (hn : 72057594037927936 ≤ n) : 8 ≤ j := by
  refine Nat.le_of_not_lt fun hj => ?_
  have : 256 ^ j ≤ 256 ^ 7 := Nat.pow_le_pow_right (by decide) (by omega)
  have e : (256 : Nat) ^ 7 = 72057594037927936 := by decide
  omega
theorem cNumber (b : List UInt8) (l : List V) (hl : l = bytesV b) (hb : b.length ≤ 140737488355328) : CallR Try.prog 53 [.slice l] fun rs => ∃ (v e : Int), rs = [.v (.int .u64 v), .v (.int .i64 e)] ∧ v = (numberN b : Nat) ∧ e = numberE b := by
  obtain ⟨v, hv⟩ : ∃ v : Int, v = (numberN b : Nat) := ⟨_, rfl⟩
  obtain ⟨e, he⟩ : ∃ e, e = numberE b := ⟨_, rfl⟩
  refine .of [.v (.int .u64 v), .v (.int .i64 e)] ⟨v, e, rfl, hv, he⟩ ?_
  refine FnR.of' T_ok M_ok (fn := Try.f53) (by kernel_rfl) rfl rfl rfl rfl (Nat.le_of_ble_eq_true rfl) fun A hA => ?_
  cbv
  have bad : 8 < b.length ∨ b.head? = some 0 → (0 : Int) = v ∧ (4 : Int) = e := fun h => by
    rw [hv, he, (number_bad h).1, (number_bad h).2]; exact ⟨rfl, rfl⟩
  refine loopF hA (ι := Int × Int) (fun p => { n := 31, sl := [(4, .v (.int .u64 p.2)), (7, .v (.slice l)), (8, .v (.int .i64 (A.lenL l))), (9, .v (.int .i64 p.1))], ob := [] })
    (fun p => ∃ j : Nat, p.1 = j ∧ j ≤ b.length ∧ p.2 = (beN (b.take j) : Nat) ∧ (0 < j → b.head? ≠ some 0) ∧ j ≤ 8) (fun p => b.length - p.1.toNat) (_, _) (weakI rfl ⟨rfl, rfl, rfl, rfl, trivial⟩ trivial) ⟨0, rfl, Nat.zero_le _, rfl, by simp, by simp⟩ ?_
  rintro ⟨i, n⟩ ⟨j, hi, hj, hn, hd, h8⟩
  dsimp only at hi hn
  cbv
  refine condI hA (fun hc => ?_) (fun hc => ?_)
  · have hjl := ltL hA (natEq hi) (lenB hl) hc
    have hlt : beN (b.take j) < 256 ^ j := by have := beN_lt (b.take j); rwa [List.length_take, Nat.min_eq_left (by omega)] at this
    cbv
    refine getBN hA hl (natEq hi) hjl ?_
    rintro c hcv
    cbv
    have c8 : (b[j]'hjl).toNat < 256 := (b[j]'hjl).toNat_lt
    refine condI hA (fun g1 => ?_) (fun g1 => ?_)
    · have g1 := eq0T hA (natEq hn) g1
      have j0 : j = 0 := by
        rcases Nat.eq_zero_or_pos j with h | h
        · exact h
        · have := beN_ge (b := b) (j := j - 1) (by omega) (hd h)
          rw [show j - 1 + 1 = j from by omega, g1] at this
          have := Nat.pow_pos (n := j - 1) (show 0 < 256 from by decide)
          omega
      cbv
      refine condI hA (fun g2 => ?_) (fun g2 => ?_)
      · have g2 := eq0T hA (natEq hcv) g2
        have q := bad (.inr (by
          subst j0
          rw [List.head?_eq_getElem?, List.getElem?_eq_getElem hjl]
          exact congrArg some (UInt8.toNat_inj.1 g2)))
        cbv
        refine retI hA ?_
        exact ⟨congrArg (fun q => some (V.int .u64 q)) q.1, congrArg (fun q => some (V.int .i64 q)) q.2, trivial⟩
      · have g2 := eq0F hA (natEq hcv) g2
        cbv
        refine nnegI hA (by decide) ?_
        cbv
        refine condI hA (fun g3 => ?_) (fun g3 => ?_)
        · have g3 := shr56T hA (natEq hn) g3
          rw [g1] at g3; omega
        · have g3 := shr56F hA (natEq hn) g3
          cbv
          refine nnegI hA (by decide) ?_
          cbv
          refine ⟨(_, _), weakI rfl ⟨rfl, rfl, rfl, rfl, trivial⟩ trivial, ⟨j + 1, upI hA (natEq hi) (by omega), hjl, (acc64 hA (natEq hn) (natEq hcv) g3 c8).trans (congrArg Nat.cast (beN_take hjl).symm), fun _ h => ?_, by omega⟩, upM hA (natEq hi) hjl hb⟩
          subst j0
          rw [List.head?_eq_getElem?, List.getElem?_eq_getElem hjl] at h
          exact g2 (congrArg UInt8.toNat (Option.some.inj h))
    · have g1 := eq0F hA (natEq hn) g1
      have j0 : 0 < j := by
        rcases Nat.eq_zero_or_pos j with h | h
        · subst h; exact absurd rfl g1
        · exact h
      cbv
      refine nnegI hA (by decide) ?_
      cbv
      refine condI hA (fun g3 => ?_) (fun g3 => ?_)
      · have g3 := shr56T hA (natEq hn) g3
        have := pow56 hlt g3
        have q := bad (.inl (by omega))
        cbv
        refine retI hA ?_
        exact ⟨congrArg (fun q => some (V.int .u64 q)) q.1, congrArg (fun q => some (V.int .i64 q)) q.2, trivial⟩
      · have g3 := shr56F hA (natEq hn) g3
        have hj8 : j < 8 := Nat.lt_of_not_le fun h => by
          have h1 := beN_ge (b := b) (j := j - 1) (by omega) (hd j0)
          rw [show j - 1 + 1 = j from by omega] at h1
          have h2 : 256 ^ 7 ≤ 256 ^ (j - 1) := Nat.pow_le_pow_right (by decide) (by omega)
          have e : (256 : Nat) ^ 7 = 72057594037927936 := by decide
          omega
        cbv
        refine nnegI hA (by decide) ?_
        cbv
        exact ⟨(_, _), weakI rfl ⟨rfl, rfl, rfl, rfl, trivial⟩ trivial, ⟨j + 1, upI hA (natEq hi) (by omega), hjl, (acc64 hA (natEq hn) (natEq hcv) g3 c8).trans (congrArg Nat.cast (beN_take hjl).symm), fun _ => hd j0, by omega⟩, upM hA (natEq hi) hjl hb⟩
  · have hjl := geL hA (natEq hi) (lenB hl) hc hj
    cbv
    subst hjl
    rw [List.take_length] at hn
    have q := number_good (b := b) fun h => by
      rcases h with h | h
      · omega
      · rcases Nat.eq_zero_or_pos b.length with h0 | h0
        · rw [List.length_eq_zero_iff.1 h0] at h; cases h
        · exact hd h0 h
    refine retI hA ?_
    refine ⟨congrArg (fun q => some (V.int .u64 q)) ?_, congrArg (fun q => some (V.int .i64 q)) ?_, trivial⟩
    · rw [natEq hn, hv, q.1]
    · rw [he, q.2]
end Go.Proofs.Ytinckcpmkocakaa.AM

/-
  Contracts: numbers read; fields.
-/
set_option linter.unusedVariables false
set_option linter.unusedSimpArgs false
namespace Go.Proofs.Ytinckcpmkocakaa.AM
open Go Go.RowKit
set_option maxRecDepth 100000
set_option maxHeartbeats 4000000

theorem cNumber12 (b : List UInt8) (l : List V) (hl : l = bytesV b) (hb : b.length ≤ 140737488355328) : CallR Try.prog 57 [.slice l] fun rs => ∃ (v e : Int), rs = [.v (.int .u64 v), .v (.int .i64 e)] ∧ v = (numberN b : Nat) ∧ e = numberE b := by
  obtain ⟨v, hv⟩ : ∃ v : Int, v = (numberN b : Nat) := ⟨_, rfl⟩
  obtain ⟨e, he⟩ : ∃ e, e = numberE b := ⟨_, rfl⟩
  refine .of [.v (.int .u64 v), .v (.int .i64 e)] ⟨v, e, rfl, hv, he⟩ ?_
  refine FnR.of' T_ok M_ok (fn := Try.f57) (by kernel_rfl) rfl rfl rfl rfl (Nat.le_of_ble_eq_true rfl) fun A hA => ?_
  cbv
  have bad : 8 < b.length ∨ b.head? = some 0 → (0 : Int) = v ∧ (4 : Int) = e := fun h => by
    rw [hv, he, (number_bad h).1, (number_bad h).2]; exact ⟨rfl, rfl⟩
  refine condI hA (fun g1 => ?_) (fun g1 => ?_)
  · have g1 := bGtT hA (m := 8) hl rfl g1
    have q := bad (.inl g1)
    cbv
    refine retI hA ?_
    exact ⟨congrArg (fun q => some (V.int .u64 q)) q.1, congrArg (fun q => some (V.int .i64 q)) q.2, trivial⟩
  · have g1 := bGtF hA (m := 8) hl rfl g1
    cbv
    refine condI hA (fun g2 => ?_) (fun g2 => ?_)
    · have g2 := bGtT hA (m := 0) hl rfl g2
      cbv
      refine getBN hA hl (j := 0) rfl g2 ?_
      rintro c0 hc0
      cbv
      have hd : b.head? = some b[0] := by rw [List.head?_eq_getElem?, List.getElem?_eq_getElem g2]
      refine condI hA (fun g3 => ?_) (fun g3 => ?_)
      · have g3 := eq0T hA (natEq hc0) g3
        have q := bad (.inr (hd.trans (congrArg some (UInt8.toNat_inj.1 g3))))
        cbv
        refine retI hA ?_
        exact ⟨congrArg (fun q => some (V.int .u64 q)) q.1, congrArg (fun q => some (V.int .i64 q)) q.2, trivial⟩
      · have g3 := eq0F hA (natEq hc0) g3
        have q := number_good (b := b) fun h => by
          rcases h with h | h
          · exact g1 h
          · rw [hd] at h; exact g3 (congrArg UInt8.toNat (Option.some.inj h))
        cbv
        refine loopF hA (ι := Int × Int) (fun p => { n := 35, sl := [(0, .v (.slice l)), (4, .v (.int .u64 p.2)), (5, .v (.int .i64 p.1))], ob := [] })
          (fun p => ∃ j : Nat, p.1 = j ∧ j ≤ b.length ∧ p.2 = (beN (b.take j) : Nat)) (fun p => b.length - p.1.toNat) (_, _) (weakI rfl ⟨rfl, rfl, rfl, trivial⟩ trivial) ⟨0, rfl, Nat.zero_le _, rfl⟩ ?_
        rintro ⟨i, n⟩ ⟨j, hi, hj, hn⟩
        dsimp only at hi hn
        cbv
        refine condI hA (fun hc => ?_) (fun hc => ?_)
        · have hjl := ltL hA (natEq hi) (lenB hl) hc
          have hlt : beN (b.take j) < 256 ^ j := by have := beN_lt (b.take j); rwa [List.length_take, Nat.min_eq_left (by omega)] at this
          have h56 : beN (b.take j) < 72057594037927936 := Nat.lt_of_not_le fun h => by have := pow56 hlt h; omega
          cbv
          refine getBN hA hl (natEq hi) hjl ?_
          rintro c hcv
          cbv
          exact ⟨(_, _), weakI rfl ⟨rfl, rfl, rfl, trivial⟩ trivial, ⟨j + 1, upI hA (natEq hi) (by omega), hjl, (acc64' hA (natEq hn) (natEq hcv) h56 (b[j]'hjl).toNat_lt).trans (congrArg Nat.cast (beN_take hjl).symm)⟩, upM hA (natEq hi) hjl (by omega)⟩
        · have hjl := geL hA (natEq hi) (lenB hl) hc hj
          cbv
          subst hjl
          rw [List.take_length] at hn
          refine retI hA ?_
          refine ⟨congrArg (fun q => some (V.int .u64 q)) ?_, congrArg (fun q => some (V.int .i64 q)) ?_, trivial⟩
          · rw [natEq hn, hv, q.1]
          · rw [he, q.2]
    · have g2 := bGtF hA (m := 0) hl rfl g2
      have q := number_good (b := b) fun h => by
        rcases h with h | h
        · exact g1 h
        · rw [List.length_eq_zero_iff.1 (show b.length = 0 by omega)] at h; cases h
      cbv
      refine loopF hA (ι := Int × Int) (fun p => { n := 35, sl := [(0, .v (.slice l)), (4, .v (.int .u64 p.2)), (5, .v (.int .i64 p.1))], ob := [] })
        (fun p => ∃ j : Nat, p.1 = j ∧ j ≤ b.length ∧ p.2 = (beN (b.take j) : Nat)) (fun p => b.length - p.1.toNat) (_, _) (weakI rfl ⟨rfl, rfl, rfl, trivial⟩ trivial) ⟨0, rfl, Nat.zero_le _, rfl⟩ ?_
      rintro ⟨i, n⟩ ⟨j, hi, hj, hn⟩
      dsimp only at hi hn
      cbv
      refine condI hA (fun hc => ?_) (fun hc => ?_)
      · have hjl := ltL hA (natEq hi) (lenB hl) hc
        have hlt : beN (b.take j) < 256 ^ j := by have := beN_lt (b.take j); rwa [List.length_take, Nat.min_eq_left (by omega)] at this
        have h56 : beN (b.take j) < 72057594037927936 := Nat.lt_of_not_le fun h => by have := pow56 hlt h; omega
        cbv
        refine getBN hA hl (natEq hi) hjl ?_
        rintro c hcv
        cbv
        exact ⟨(_, _), weakI rfl ⟨rfl, rfl, rfl, trivial⟩ trivial, ⟨j + 1, upI hA (natEq hi) (by omega), hjl, (acc64' hA (natEq hn) (natEq hcv) h56 (b[j]'hjl).toNat_lt).trans (congrArg Nat.cast (beN_take hjl).symm)⟩, upM hA (natEq hi) hjl (by omega)⟩
      · have hjl := geL hA (natEq hi) (lenB hl) hc hj
        cbv
        subst hjl
        rw [List.take_length] at hn
        refine retI hA ?_
        refine ⟨congrArg (fun q => some (V.int .u64 q)) ?_, congrArg (fun q => some (V.int .i64 q)) ?_, trivial⟩
        · rw [natEq hn, hv, q.1]
        · rw [he, q.2]
theorem unpackM_len : ∀ (b : List UInt8) fs, unpackM b = some fs → fs.length ≤ b.length
  | [], fs, h => by rw [unpackM] at h; cases h; simp
  | [_], fs, h => by rw [unpackM] at h; cases h
  | x :: y :: r, fs, h => by
    rw [unpackM_cons] at h
    split at h
    · cases h
    · split at h
      · rename_i gs hg
        cases h
        have := unpackM_len _ _ hg
        simp at this ⊢; omega
      · cases h
termination_by b => b.length
decreasing_by simp only [List.length_drop, List.length_cons]; omega
theorem unpackL_len (b : List UInt8) : (unpackL b).length ≤ b.length := by
  unfold unpackL
  split
  · rename_i fs h; exact unpackM_len b fs h
  · simp
theorem app_ss {A : Prim} {P : Program} {R : List (Nat × AObj) → List D → Prop} (hA : A = std P R) {x y : List V} {a b : List (List UInt8)} (hx : x = strsV a) (hy : y = strsV b) : A.app x y = strsV (a ++ b) := by
  rw [hA]; simp only [std]; rw [hx, hy]; simp [strsV]
theorem cStrings (b : List UInt8) (l : List V) (hl : l = bytesV b) (hb : b.length ≤ 4000000000) : CallR Try.prog 54 [.slice l] fun rs => ∃ (r : List V) (e : Int), rs = [.v (.slice r), .v (.int .i64 e)] ∧ r = strsV (unpackL b) ∧ e = unpackE b := by
  obtain ⟨r, hr⟩ : ∃ r, r = strsV (unpackL b) := ⟨_, rfl⟩
  obtain ⟨e, he⟩ : ∃ e, e = unpackE b := ⟨_, rfl⟩
  refine .of [.v (.slice r), .v (.int .i64 e)] ⟨r, e, rfl, hr, he⟩ ?_
  refine FnR.of' T_ok M_ok (fn := Try.f54) (by kernel_rfl) rfl rfl rfl rfl (Nat.le_of_ble_eq_true rfl) fun A hA => ?_
  cbv
  refine callI hA (cUnpack b l hl hb) ?_
  intro rs_ h_
  obtain ⟨fs, e1, q_1, hfs, he1⟩ := h_
  subst q_1
  cbv
  have hle := unpackL_len b
  refine loopF hA (ι := Int × List V) (fun p => { n := 28, sl := [(5, .v (.int .i64 e1)), (6, .own 24), (14, .v (.slice fs)), (15, .v (.int .i64 (A.lenL fs))), (16, .v (.int .i64 p.1))], ob := [(24, .row 1 p.2 true)] })
    (fun p => ∃ j : Nat, p.1 = j ∧ j ≤ (unpackL b).length ∧ p.2 = strsV ((unpackL b).take j)) (fun p => (unpackL b).length - p.1.toNat) (_, _) ((weak_nils _ 6 24 1 true rfl).trans (weakI rfl ⟨rfl, rfl, rfl, rfl, rfl, trivial⟩ ⟨rfl, trivial⟩)) ⟨0, rfl, Nat.zero_le _, rfl⟩ ?_
  rintro ⟨i, x⟩ ⟨j, hi, hj, hx⟩
  dsimp only at hi hx
  cbv
  refine condI hA (fun hc => ?_) (fun hc => ?_)
  · have hjl := ltL hA (natEq hi) (lenLs hfs) hc
    cbv
    refine getLN hA hfs (natEq hi) hjl ?_
    rintro f hf
    cbv
    refine b2sN hA hf ?_
    rintro s hs
    cbv
    have h1 : [V.str s] = strsV [(unpackL b)[j]'hjl] := by rw [hs]; rfl
    refine roomI hA (by rw [hx, strsV_len]; simp; omega) ?_
    cbv
    refine ⟨(_, _), weakI rfl ⟨rfl, rfl, rfl, rfl, rfl, trivial⟩ ⟨rfl, trivial⟩, ⟨j + 1, upI hA (natEq hi) (by omega), hjl, ?_⟩, upM hA (natEq hi) hjl (by omega)⟩
    refine (app_ss hA hx h1).trans ?_
    rw [List.take_succ_eq_append_getElem hjl]
  · have hjl := geL hA (natEq hi) (lenLs hfs) hc hj
    cbv
    subst hjl
    rw [List.take_length] at hx
    refine retI hA ?_
    exact ⟨congrArg (fun q => some (V.slice q)) (hx.trans hr.symm), congrArg (fun q => some (V.int .i64 q)) (he1.trans he.symm), trivial⟩

theorem len16' {A : Prim} {P : Program} {R : List (Nat × AObj) → List D → Prop} (hA : A = std P R) {n m : Int} {x y : Nat} (hn : n = x) (hm : m = y) (hx : x < 256) (hy : y < 256) : A.wrap .i64 (A.add (A.wrap .i64 (A.mul 256 (A.wrap .i64 n))) (A.wrap .i64 m)) = ((x * 256 + y : Nat) : Int) := by
  rw [hA, hn, hm]; simp only [std]
  have e1 : IntKind.i64.wrap (x : Int) = (x : Int) := wrap_i64 (by omega) (by omega)
  have e2 : IntKind.i64.wrap (y : Int) = (y : Int) := wrap_i64 (by omega) (by omega)
  rw [e1, e2, show 256 * (x : Int) = ((x * 256 : Nat) : Int) from by simp; omega]
  rw [wrap_i64 (n := ((x * 256 : Nat) : Int)) (by omega) (by omega)]
  rw [show ((x * 256 : Nat) : Int) + (y : Int) = ((x * 256 + y : Nat) : Int) from by simp]
  exact wrap_i64 (by omega) (by omega)
theorem add2 {A : Prim} {P : Program} {R : List (Nat × AObj) → List D → Prop} (hA : A = std P R) {n : Int} {m : Nat} (hn : n = m) (hm : m ≤ 4100000000) : A.wrap .i64 (A.add 2 n) = ((2 + m : Nat) : Int) := by
  rw [hA, hn]; simp only [std]
  rw [show (2 : Int) + (m : Int) = ((2 + m : Nat) : Int) from by simp]; exact wrap_i64 (by omega) (by omega)
theorem sub2 {A : Prim} {P : Program} {R : List (Nat × AObj) → List D → Prop} (hA : A = std P R) {n : Int} {m : Nat} (hn : n = m) (h2 : 2 ≤ m) (hm : m ≤ 4100000000) : A.wrap .i64 (A.sub n 2) = ((m - 2 : Nat) : Int) := by
  rw [hA, hn]; simp only [std]
  rw [show (m : Int) - 2 = ((m - 2 : Nat) : Int) from by omega]; exact wrap_i64 (by omega) (by omega)
theorem cutMid {l r : List V} {b : List UInt8} {lo hi : Int} {k m : Nat} (hlo : lo = (k : Int)) (hhi : hi = (m : Int)) (hl : l = bytesV b) (hr : r = (l.take hi.toNat).drop lo.toNat) : r = bytesV ((b.take m).drop k) := by
  subst hlo hhi hl hr; simp [bytesV]
theorem cUnpack12 (b : List UInt8) (l : List V) (hl : l = bytesV b) (hb : b.length ≤ 4000000000) : CallR Try.prog 56 [.slice l] fun rs => ∃ (r : List V) (e : Int), rs = [.v (.slice r), .v (.int .i64 e)] ∧ r = listsV (unpackL b) ∧ e = unpackE b := by
  obtain ⟨r, hr⟩ : ∃ r, r = listsV (unpackL b) := ⟨_, rfl⟩
  obtain ⟨e, he⟩ : ∃ e, e = unpackE b := ⟨_, rfl⟩
  refine .of [.v (.slice r), .v (.int .i64 e)] ⟨r, e, rfl, hr, he⟩ ?_
  refine FnR.of' T_ok M_ok (fn := Try.f56) (by kernel_rfl) rfl rfl rfl rfl (Nat.le_of_ble_eq_true rfl) fun A hA => ?_
  cbv
  refine loopF hA (ι := List V × List V) (fun p => { n := 45, sl := [(0, .v (.slice p.1)), (4, .own 39)], ob := [(39, .row 1 p.2 true)] })
    (fun p => ∃ (b' : List UInt8) (a : List (List UInt8)), p.1 = bytesV b' ∧ p.2 = listsV a ∧ a.length + b'.length ≤ 4000000000 ∧ unpackM b = upTo a (unpackM b')) (fun p => p.1.length) (_, _) ((weak_nils _ 4 39 1 true rfl).trans (weakI rfl ⟨rfl, rfl, trivial⟩ ⟨rfl, trivial⟩)) ⟨b, [], hl, rfl, by simpa using hb, by unfold upTo; cases unpackM b <;> simp⟩ ?_
  rintro ⟨y, x⟩ ⟨b', a, hy, hx, hab, hu⟩
  dsimp only at hy hx
  have bad : unpackM b' = none → ([] : List V) = r ∧ (4 : Int) = e := fun h => by
    rw [h] at hu
    rw [hr, he]
    simp [unpackL, unpackE, hu, upTo, listsV]
  cbv
  refine condI hA (fun hc => ?_) (fun hc => ?_)
  · have h0 := bGtT hA (m := 0) hy rfl hc
    cbv
    refine condI hA (fun h2 => ?_) (fun h2 => ?_)
    · have h2 := bLtT hA (m := 2) hy rfl h2
      have q := bad (unpackM_short h0 h2)
      cbv
      refine retI hA ?_
      exact ⟨congrArg (fun q => some (V.slice q)) q.1, congrArg (fun q => some (V.int .i64 q)) q.2, trivial⟩
    · have h2 : 2 ≤ b'.length := Nat.le_of_not_lt (bLtF hA (m := 2) hy rfl h2)
      match b', h2, hy, hab, hu, bad with
      | c :: d :: t, _, hy, hab, hu, bad =>
      rw [unpackM_cons] at hu bad
      obtain ⟨n, hn⟩ : ∃ n : Nat, n = c.toNat * 256 + d.toNat := ⟨_, rfl⟩
      rw [← hn] at hu bad
      have hc8 : c.toNat < 256 := c.toNat_lt
      have hd8 : d.toNat < 256 := d.toNat_lt
      cbv
      refine chkI hA (by kernel_rfl) ?_
      cbv
      refine getBN hA hy (j := 0) rfl (by simp) ?_
      rintro v0 hv0
      cbv
      refine getBN hA hy (j := 1) rfl (by simp) ?_
      rintro v1 hv1
      cbv
      have hn16 : A.wrap .i64 (A.add (A.wrap .i64 (A.mul 256 (A.wrap .i64 v0))) (A.wrap .i64 v1)) = ((n : Nat) : Int) := by
        rw [hn]; exact len16' hA hv0 hv1 hc8 hd8
      have hyl : (c :: d :: t).length = t.length + 2 := rfl
      have hs2 := sub2 hA (lenI hA hy) (by omega) (by omega)
      have ha2 := add2 hA hn16 (by omega)
      refine condI hA (fun g1 => ?_) (fun g1 => ?_)
      · have g1 : 1024 < n := nGtT hA (c := 1024) rfl hn16 g1
        have q := bad (if_pos (.inl g1))
        cbv
        refine retI hA ?_
        exact ⟨congrArg (fun q => some (V.slice q)) q.1, congrArg (fun q => some (V.int .i64 q)) q.2, trivial⟩
      · have g1 : ¬ 1024 < n := nGtF hA (c := 1024) rfl hn16 g1
        cbv
        refine condI hA (fun g2 => ?_) (fun g2 => ?_)
        · have g2 := nGtT hA hs2 hn16 g2
          have q := bad (if_pos (.inr (by omega)))
          cbv
          refine retI hA ?_
          exact ⟨congrArg (fun q => some (V.slice q)) q.1, congrArg (fun q => some (V.int .i64 q)) q.2, trivial⟩
        · have g2 := nGtF hA hs2 hn16 g2
          cbv
          refine sizedI hA (bytesV_flat hy) ?_
          cbv
          refine subLN hA (sub_of (a := 2) rfl ha2 hy (by omega) (by omega)) ?_
          rintro z hz
          have hz : z = bytesV (t.take n) := by
            rw [cutMid (k := 2) rfl ha2 hy hz]
            rw [show 2 + n = n + 2 from by omega]; rfl
          cbv
          refine sizedI hA (bytesV_flat hz) ?_
          cbv
          refine roomI hA (by rw [hz, bytesV_len, List.length_take]; simp; omega) ?_
          cbv
          have hz1 : [V.slice (A.app [] z)] = listsV [t.take n] := by
            have : A.app [] z = z := by rw [hA]; rfl
            rw [this, hz]; rfl
          refine roomI hA (by rw [hx, listsV_len]; simp; omega) ?_
          cbv
          refine sizedI hA (bytesV_flat hy) ?_
          cbv
          refine subLN hA (sub_of ha2 (lenI hA hy) hy (by omega) (Nat.le_refl _)) ?_
          rintro y3 hy3
          have hy3 : y3 = bytesV (t.drop n) := by
            rw [cutFrom ha2 hy (lenI hA hy) hy3]
            rw [show 2 + n = n + 2 from by omega]; rfl
          rw [if_neg (by omega)] at hu
          refine ⟨(_, _), weakI rfl ⟨rfl, rfl, trivial⟩ ⟨rfl, trivial⟩, ⟨t.drop n, a ++ [t.take n], hy3, app_ls hA hx hz1, ?_, ?_⟩, ?_⟩
          · simp; omega
          · rw [hu]
            cases unpackM (t.drop n) <;> simp [upTo]
          · change y3.length < y.length
            rw [hy3, hy, bytesV_len, bytesV_len]; simp; omega
  · have h0 := bGtF hA (m := 0) hy rfl hc
    have hb0 : b' = [] := List.length_eq_zero_iff.1 (by omega)
    rw [hb0, show unpackM [] = some [] from by rw [unpackM]] at hu
    cbv
    refine retI hA ?_
    refine ⟨congrArg (fun q => some (V.slice q)) ?_, congrArg (fun q => some (V.int .i64 q)) ?_, trivial⟩
    · rw [hx, hr]; simp [unpackL, hu, upTo]
    · rw [he]; simp [unpackE, hu, upTo]
theorem cStrings12 (b : List UInt8) (l : List V) (hl : l = bytesV b) (hb : b.length ≤ 4000000000) : CallR Try.prog 58 [.slice l] fun rs => ∃ (r : List V) (e : Int), rs = [.v (.slice r), .v (.int .i64 e)] ∧ r = strsV (unpackL b) ∧ e = unpackE b := by
  obtain ⟨r, hr⟩ : ∃ r, r = strsV (unpackL b) := ⟨_, rfl⟩
  obtain ⟨e, he⟩ : ∃ e, e = unpackE b := ⟨_, rfl⟩
  refine .of [.v (.slice r), .v (.int .i64 e)] ⟨r, e, rfl, hr, he⟩ ?_
  refine FnR.of' T_ok M_ok (fn := Try.f58) (by kernel_rfl) rfl rfl rfl rfl (Nat.le_of_ble_eq_true rfl) fun A hA => ?_
  cbv
  refine callI hA (cUnpack12 b l hl hb) ?_
  intro rs_ h_
  obtain ⟨fs, e1, q_1, hfs, he1⟩ := h_
  subst q_1
  cbv
  have hle := unpackL_len b
  refine loopF hA (ι := Int × List V) (fun p => { n := 29, sl := [(4, .v (.slice fs)), (5, .v (.int .i64 e1)), (6, .own 26), (7, .v (.int .i64 p.1))], ob := [(26, .row 1 p.2 true)] })
    (fun p => ∃ j : Nat, p.1 = j ∧ j ≤ (unpackL b).length ∧ p.2 = strsV ((unpackL b).take j)) (fun p => (unpackL b).length - p.1.toNat) (_, _) ((weak_nils _ 6 26 1 true rfl).trans (weakI rfl ⟨rfl, rfl, rfl, rfl, trivial⟩ ⟨rfl, trivial⟩)) ⟨0, rfl, Nat.zero_le _, rfl⟩ ?_
  rintro ⟨i, x⟩ ⟨j, hi, hj, hx⟩
  dsimp only at hi hx
  cbv
  refine condI hA (fun hc => ?_) (fun hc => ?_)
  · have hjl := ltL hA (natEq hi) (lenLs hfs) hc
    cbv
    refine getLN hA hfs (natEq hi) hjl ?_
    rintro f hf
    cbv
    refine b2sN hA hf ?_
    rintro s hs
    cbv
    have h1 : [V.str s] = strsV [(unpackL b)[j]'hjl] := by rw [hs]; rfl
    refine roomI hA (by rw [hx, strsV_len]; simp; omega) ?_
    cbv
    refine ⟨(_, _), weakI rfl ⟨rfl, rfl, rfl, rfl, trivial⟩ ⟨rfl, trivial⟩, ⟨j + 1, upI hA (natEq hi) (by omega), hjl, ?_⟩, upM hA (natEq hi) hjl (by omega)⟩
    refine (app_ss hA hx h1).trans ?_
    rw [List.take_succ_eq_append_getElem hjl]
  · have hjl := geL hA (natEq hi) (lenLs hfs) hc hj
    cbv
    subst hjl
    rw [List.take_length] at hx
    refine retI hA ?_
    exact ⟨congrArg (fun q => some (V.slice q)) (hx.trans hr.symm), congrArg (fun q => some (V.int .i64 q)) (he1.trans he.symm), trivial⟩

end Go.Proofs.Ytinckcpmkocakaa.AM
