/-
  Plain laws: numbers; the check sum.
-/
import Derived.Test.YthioccbgjkbmdaaM12f4b0f101
import Derived.Test.YthioccbgjkbmdaaM15324213ef
set_option linter.unusedVariables false
set_option linter.unusedSimpArgs false
namespace Go.Proofs.Ythioccbgjkbmdaa.AM
open Go Go.RowKit

theorem bits_xor_u32_nat (a b : Nat) (ha : a < 4294967296) (hb : b < 4294967296) : bits .xor .u32 (a : Int) (b : Int) = ((a ^^^ b : Nat) : Int) := by
  have hx : a ^^^ b < 2 ^ 32 := Nat.xor_lt_two_pow (by omega) (by omega)
  have h1 : (BitVec.ofInt 32 (a : Int)).toNat = a := by
    rw [BitVec.ofInt_natCast, BitVec.toNat_ofNat]; exact Nat.mod_eq_of_lt (by omega)
  have h2 : (BitVec.ofInt 32 (b : Int)).toNat = b := by
    rw [BitVec.ofInt_natCast, BitVec.toNat_ofNat]; exact Nat.mod_eq_of_lt (by omega)
  show IntKind.u32.wrap ((BitVec.ofInt 32 (a : Int) ^^^ BitVec.ofInt 32 (b : Int)).toNat : Int) = _
  rw [BitVec.toNat_xor, h1, h2]
  simp only [IntKind.wrap, IntKind.bits, IntKind.signed, Bool.false_and, Bool.false_eq_true, if_false]
  omega
theorem bits_xor_u8_nat (a b : Nat) (ha : a < 256) (hb : b < 256) : bits .xor .u8 (a : Int) (b : Int) = ((a ^^^ b : Nat) : Int) := by
  have hx : a ^^^ b < 2 ^ 8 := Nat.xor_lt_two_pow (by omega) (by omega)
  have h1 : (BitVec.ofInt 8 (a : Int)).toNat = a := by
    rw [BitVec.ofInt_natCast, BitVec.toNat_ofNat]; exact Nat.mod_eq_of_lt (by omega)
  have h2 : (BitVec.ofInt 8 (b : Int)).toNat = b := by
    rw [BitVec.ofInt_natCast, BitVec.toNat_ofNat]; exact Nat.mod_eq_of_lt (by omega)
  show IntKind.u8.wrap ((BitVec.ofInt 8 (a : Int) ^^^ BitVec.ofInt 8 (b : Int)).toNat : Int) = _
  rw [BitVec.toNat_xor, h1, h2]
  simp only [IntKind.wrap, IntKind.bits, IntKind.signed, Bool.false_and, Bool.false_eq_true, if_false]
  omega
theorem inot_u32 (a : Nat) (ha : a < 4294967296) : bits .xor .u32 (if IntKind.u32.signed then -1 else IntKind.u32.max) (a : Int) = ((a ^^^ 4294967295 : Nat) : Int) := by
  have : (if IntKind.u32.signed then -1 else IntKind.u32.max) = ((4294967295 : Nat) : Int) := by decide
  rw [this, bits_xor_u32_nat _ _ (by decide) ha, Nat.xor_comm]

theorem wrap_i64 {n : Int} (h1 : -9223372036854775808 ≤ n) (h2 : n ≤ 9223372036854775807) : IntKind.i64.wrap n = n := by
  simp only [IntKind.wrap, IntKind.bits, IntKind.signed, Bool.true_and, decide_eq_true_eq, ge_iff_le]
  split <;> omega
theorem shr_u32 (a : Nat) : Int.fdiv (a : Int) (2 ^ (min (Int.toNat 8) IntKind.u32.bits)) = ((a / 256 : Nat) : Int) := by
  have : (2 : Int) ^ (min (Int.toNat 8) IntKind.u32.bits) = ((256 : Nat) : Int) := by decide
  rw [this, Int.fdiv_eq_ediv_of_nonneg _ (by omega)]
  rfl

/-- One step of the sum, one bit. -/
def one (n : Nat) : Nat := if n % 2 = 1 then (n / 2) ^^^ 3988292384 else n / 2
def ones : Nat → Nat → Nat
  | 0, n => n
  | k + 1, n => ones k (one n)
def eight (n : Nat) : Nat := ones 8 n
theorem one_xor (a b : Nat) : one (a ^^^ b) = one a ^^^ one b := by
  have h1 : (a ^^^ b) / 2 = a / 2 ^^^ b / 2 := Nat.xor_div_two
  have h2 : (a ^^^ b) % 2 = a % 2 ^^^ b % 2 := by
    have := @Nat.xor_mod_two_pow a b 1
    simpa using this
  unfold one
  rw [h1, h2]
  rcases Nat.mod_two_eq_zero_or_one a with ha | ha <;> rcases Nat.mod_two_eq_zero_or_one b with hb | hb <;> rw [ha, hb] <;> simp
  · ac_rfl
  · ac_rfl
  · rw [show a / 2 ^^^ 3988292384 ^^^ (b / 2 ^^^ 3988292384) = a / 2 ^^^ b / 2 ^^^ (3988292384 ^^^ 3988292384) from by ac_rfl]
    simp
theorem ones_xor : ∀ (k a b : Nat), ones k (a ^^^ b) = ones k a ^^^ ones k b
  | 0, _, _ => rfl
  | k + 1, a, b => by simp only [ones, one_xor, ones_xor k]
theorem one_lt {n : Nat} (h : n < 4294967296) : one n < 4294967296 := by
  unfold one
  split
  · exact Nat.xor_lt_two_pow (n := 32) (by omega) (by decide)
  · omega
theorem ones_lt : ∀ (k : Nat) {n : Nat}, n < 4294967296 → ones k n < 4294967296
  | 0, _, h => h
  | k + 1, n, h => ones_lt k (one_lt h)
theorem one_even (n : Nat) : one (2 * n) = n := by unfold one; rw [if_neg (by omega)]; omega
theorem eight_high (y : Nat) : eight (y * 256) = y := by
  have e : ∀ k n, ones k (2 ^ k * n) = n := by
    intro k
    induction k with
    | zero => intro n; simp [ones]
    | succ k ih => intro n; rw [ones, show 2 ^ (k + 1) * n = 2 * (2 ^ k * n) from by rw [Nat.pow_succ]; ac_rfl, one_even, ih]
  have := e 8 y
  rw [Nat.mul_comm] at this
  exact this
/-- A byte more: the table's step. -/
def stepT (x c : Nat) : Nat := eight ((x % 256) ^^^ c) ^^^ (x / 256)
theorem step_eq (x c : Nat) (hc : c < 256) : eight (x ^^^ c) = stepT x c := by
  have h : x = (x % 256) ^^^ (x / 256 * 256) := by
    apply Nat.eq_of_testBit_eq
    intro i
    rw [Nat.testBit_xor, show (256 : Nat) = 2 ^ 8 from rfl, Nat.testBit_mod_two_pow, Nat.testBit_mul_two_pow, Nat.testBit_div_two_pow]
    by_cases hi : i < 8
    · simp [hi, show ¬ 8 ≤ i from by omega]
    · simp [hi, show 8 ≤ i from by omega]
  unfold stepT
  conv => lhs; rw [h]
  rw [show x % 256 ^^^ x / 256 * 256 ^^^ c = (x % 256 ^^^ c) ^^^ (x / 256 * 256) from by ac_rfl]
  unfold eight
  rw [ones_xor]
  congr 1
  exact eight_high _
/-- Bytes more. -/
def addN (x : Nat) (b : List UInt8) : Nat := b.foldl (fun x c => eight (x ^^^ c.toNat)) x
theorem addN_lt {x : Nat} (hx : x < 4294967296) (b : List UInt8) : addN x b < 4294967296 := by
  induction b generalizing x with
  | nil => exact hx
  | cons c b ih => exact ih (ones_lt 8 (Nat.xor_lt_two_pow (n := 32) (by omega) (by have := c.toNat_lt; omega)))
theorem addN_take {x : Nat} {b : List UInt8} {i : Nat} (h : i < b.length) : addN x (b.take (i + 1)) = eight (addN x (b.take i) ^^^ (b[i]'h).toNat) := by
  unfold addN
  rw [List.take_succ_eq_append_getElem h, List.foldl_append]; rfl
theorem addN_append (x : Nat) (a b : List UInt8) : addN x (a ++ b) = addN (addN x a) b := by unfold addN; rw [List.foldl_append]
end Go.Proofs.Ythioccbgjkbmdaa.AM

/-
  Whole numbers behind 'A'.
-/
set_option linter.unusedVariables false
set_option linter.unusedSimpArgs false
namespace Go.Proofs.Ythioccbgjkbmdaa.AM
open Go Go.RowKit
set_option maxRecDepth 100000
set_option maxHeartbeats 4000000

theorem w64_id {n : Int} (h : -9223372036854775808 ≤ n ∧ n ≤ 9223372036854775807) : w64 n = n := wrap_i64 h.1 h.2
section
variable {A : Prim} {P : Program} {R : List (Nat × AObj) → List D → Prop} (hA : A = std P R)
include hA
theorem zltT {a b : Int} (h : A.ilt a b = true) : a < b := by subst hA; simpa [std] using h
theorem zltF {a b : Int} (h : A.ilt a b = false) : ¬ a < b := by subst hA; simpa [std] using h
theorem zleT {a b : Int} (h : A.ile a b = true) : a ≤ b := by subst hA; simpa [std] using h
theorem zleF {a b : Int} (h : A.ile a b = false) : ¬ a ≤ b := by subst hA; simpa [std] using h
theorem zeqT {a b : Int} (h : A.ieq a b = true) : a = b := by subst hA; simpa [std] using h
theorem zeqF {a b : Int} (h : A.ieq a b = false) : a ≠ b := by subst hA; simpa [std] using h
theorem zneT {a b : Int} (h : A.ine a b = true) : a ≠ b := by subst hA; simpa [std] using h
theorem zneF {a b : Int} (h : A.ine a b = false) : a = b := by subst hA; simpa [std] using h
theorem zlt_f {a b : Int} (h : ¬ a < b) : A.ilt a b = false := by subst hA; simpa [std] using h
theorem zeq_t {a b : Int} (h : a = b) : A.ieq a b = true := by subst hA; simpa [std] using h
theorem zne_f {a b : Int} (h : a = b) : A.ine a b = false := by subst hA; simpa [std] using h
theorem zadd (a b : Int) : A.wrap .i64 (A.add a b) = w64 (a + b) := by subst hA; rfl
theorem zsub (a b : Int) : A.wrap .i64 (A.sub a b) = w64 (a - b) := by subst hA; rfl
theorem znotT {b : Bool} (h : A.not b = true) : b = false := by subst hA; simpa [std] using h
theorem znotF {b : Bool} (h : A.not b = false) : b = true := by subst hA; simpa [std] using h
theorem zbeqT {a b : Bool} (h : A.beq a b = true) : a = b := by subst hA; simpa [std] using h
theorem zbeqF {a b : Bool} (h : A.beq a b = false) : a ≠ b := by subst hA; simpa [std] using h
end
section
variable {A : Prim} {R : List (Nat × AObj) → List D → Prop} (hA : A = std Try.prog R)
include hA
theorem gixN {t e : TypeId} {x i : Operand} {gh : GH} {id : Nat} {n m j : Int} {k : IntKind} {K : V → Prop} (hm : m = j) (h0 : 0 ≤ j ∧ j < n) (hK : K (.ge id (tyOf e).size m 0)) (ht : (tyOf t).k = .slice e := by rfl) (hkn : known (tyOf e).k = true := by rfl) : A.gq (.indexAddr t x i) [.gs id n, .int k m] gh K :=
  gixI hA (hm ▸ h0) hK ht hkn
theorem gldRN {t : TypeId} {x : Operand} {gh : GH} {id z off : Nat} {i j : Int} {K : V → Prop} {y v : V} (hi : i = j) (l : List V) (hg : gh.get id = some (.row z l) ∨ gh.get id = some (.frow z l) ∨ gh.get id = some (.arow z l)) (hy : l[j.toNat]? = some y) (hK : K v) (hv : y.flat[off]? = some v := by rfl) (hkn : known (tyOf t).k = true := by rfl) (hag : isAggT (tyOf t).k = false := by rfl) : A.gq (.load t x) [.ge id z i off] gh K :=
  gldRI hA l hg (hi ▸ hy) hK hv hkn hag
theorem gldRAN {t : TypeId} {x : Operand} {gh : GH} {id z off : Nat} {i j : Int} {K : V → Prop} {y : V} (hi : i = j) (l : List V) (hg : gh.get id = some (.row z l) ∨ gh.get id = some (.frow z l) ∨ gh.get id = some (.arow z l)) (hy : l[j.toNat]? = some y) (hK : K (.agg ((y.flat.drop off).take (tyOf t).size))) (hle : off + (tyOf t).size ≤ y.flat.length := by first | decide | exact Nat.le_of_ble_eq_true rfl) (hag : isAggT (tyOf t).k = true := by rfl) : A.gq (.load t x) [.ge id z i off] gh K :=
  gqI hA _ (gq_loadRA T_ok hag hg (hi ▸ hy) hle) hK
theorem glnSN {c : Call} {t e : Nat} {x : Operand} {gh : GH} {y : V} {s : List V} {m : Int} {K : V → Prop} (hy : SlIs gh (tyOf e).size s y) (hm : m = (s.length : Nat)) (hK : K (.int .i64 m)) (hc : c.callee = .builtin .len := by rfl) (ha : c.args = #[x] := by rfl) (hat : c.argTypes = #[t] := by rfl) (ht : (tyOf t).k = .slice e := by rfl) : A.gq (.call c) [y] gh K :=
  glnSI hA hy (hm ▸ hK) hc ha hat ht
end
theorem weak_pubN (S : St) (t : Nat) {id0 z nx : Nat} {n : Int} {l : List V} {ex : Bool} {gh g : GH} {pub : List Nat} (hg : g = gh.new (.arow z l)) (hx : nx = gh.next) (hn : n = (l.length : Nat)) (hh : look S.ob hk = some (.heap gh pub)) (ht : S.get t = .own id0) (ho : look S.ob id0 = some (.row z l ex)) :
    Weak S ((({ S with ob := remOb id0 S.ob } : St).setOb hk (.heap g pub)).put (some t) (.v (.gs nx n))) := by
  subst hg hx hn; exact weak_pub S t hh ht ho
theorem weak_refN (S : St) (t : Nat) {id : Nat} {l : List V} {gh g : GH} {pub : List Nat} (hgg : g = gh.del id) (hh : look S.ob hk = some (.heap gh pub)) (ht : S.get t = .v (.gp id 0)) (hg : gh.get id = some (.box l)) :
    Weak S ((S.setOb hk (.heap g pub)).put (some t) (.v (.ref l))) := by
  subst hgg; exact weak_ref S t hh ht hg
/-- Bytes of a disk, with names for what they are. -/
theorem ByV.open {gh : GH} {lab : Lab} {r : Nat × Nat} {v : V} {b : Bs} (h : ByV gh lab r v b) : (v = .nils ∧ b = []) ∨ (∃ l, v = .xs l ∧ l = bytesV b) ∨ ∃ (id : Nat) (n : Int) (l : List V), v = .gs id n ∧ n = (b.length : Nat) ∧ l = bytesV b ∧ lab id = some r ∧ gh.get id = some (.arow 1 l) := by
  rcases h with h | h | ⟨id, h1, h2, h3⟩
  · exact .inl h
  · exact .inr (.inl ⟨_, h, rfl⟩)
  · exact .inr (.inr ⟨id, _, _, h1, rfl, rfl, h2, h3⟩)
end Go.Proofs.Ythioccbgjkbmdaa.AM

/-
  Contracts: the disk's nodes.
-/
set_option linter.unusedVariables false
set_option linter.unusedSimpArgs false
namespace Go.Proofs.Ythioccbgjkbmdaa.AM
open Go Go.RowKit
set_option maxRecDepth 100000
set_option maxHeartbeats 4000000

def upE (k : Dk) : Int := if k.down then 12 else 0
theorem gUp (gh : GH) (p : Nat) (v : V) (k : Dk) (hg : gh.get p = some (boxD v k)) : FnG Try.prog 57 [.gp p 0] gh fun rs g => ∃ e : Int, rs = [.v (.int .i64 e)] ∧ e = upE k ∧ gh = g := by
  refine FnG.of' T_ok M_ok [] (fn := Try.f57) (by kernel_rfl) rfl rfl rfl rfl (Nat.le_of_ble_eq_true rfl) fun A hA => ?_
  cbv
  refine gldI hA _ (hg) ?_
  cbv
  refine condI hA (fun h => ?_) (fun h => ?_)
  · have h : k.down = true := h
    cbv
    exact retGI hA rfl [.v (.int .i64 12)] gh (⟨_, rfl, by simp [upE, h], rfl⟩) (by first | exact ⟨rfl, trivial⟩ | exact ⟨rfl, rfl, trivial⟩ | exact ⟨rfl, rfl, rfl, trivial⟩ | trivial)
  · have h : k.down = false := h
    cbv
    exact retGI hA rfl [.v (.int .i64 0)] gh (⟨_, rfl, by simp [upE, h], rfl⟩) (by first | exact ⟨rfl, trivial⟩ | exact ⟨rfl, rfl, trivial⟩ | exact ⟨rfl, rfl, rfl, trivial⟩ | trivial)
/-- A node's pointer, or none. -/
def anyP (k : Dk) (ids : List Nat) (i : Int) : V := if k.anyE i = 0 then match ids[(i - 1).toNat]? with
  | some id => .gp id 0
  | none => .nilp
  else .nilp
theorem gAny (gh : GH) (lab : Lab) (p : Nat) (v : V) (k : Dk) (ids : List Nat) (i : Int) (hg : gh.get p = some (boxD v k)) (hn : NsV gh lab v ids) (hl : ids.length = k.nodes.length) (h1 : 1 ≤ k.nodes.length) (hi : -9223372036854775808 ≤ i ∧ i ≤ 9223372036854775807) : FnG Try.prog 65 [.gp p 0, .int .i64 i] gh fun rs g => ∃ (x : V) (e : Int), rs = [.v x, .v (.int .i64 e)] ∧ x = anyP k ids i ∧ e = k.anyE i ∧ gh = g := by
  obtain ⟨nid, rfl, hlab, hnid⟩ : ∃ nid, v = .gs nid (ids.length : Int) ∧ lab nid = some (0, 7) ∧ gh.get nid = some (.arow 1 (ids.map fun i => V.gp i 0)) := by
    rcases hn with ⟨_, h⟩ | h
    · subst h; simp at hl; omega
    · exact h
  obtain ⟨n, hne⟩ : ∃ n : Int, n = (ids.length : Nat) := ⟨_, rfl⟩
  have f1 : n < i → ¬ (1 ≤ i ∧ i ≤ ids.length) := fun h => by omega
  have f2 : ¬ i < 1 → ¬ n < i → (1 ≤ i ∧ i ≤ ids.length) ∧ (i - 1).toNat < ids.length ∧ (0 ≤ i - 1 ∧ i - 1 < n) ∧ -9223372036854775808 ≤ i - 1 ∧ i - 1 ≤ 9223372036854775807 := fun h h' => by omega
  have f0 : i < 1 → ¬ (1 ≤ i ∧ i ≤ ids.length) := fun h => by omega
  rw [← hne] at hg
  refine FnG.of' T_ok M_ok [] (fn := Try.f65) (by kernel_rfl) rfl rfl rfl rfl (Nat.le_of_ble_eq_true rfl) fun A hA => ?_
  cbv
  refine callGI hA (gUp gh p _ k hg) ?_
  intro rs_ g_ h_
  obtain ⟨e, q_1, he, q_2⟩ := h_
  subst q_1
  subst q_2
  cbv
  have hk : k.anyE i = if k.down then 12 else if 1 ≤ i ∧ i ≤ ids.length then 0 else 8 := by
    unfold Dk.anyE Dk.node?
    by_cases q : 1 ≤ i
    · rw [if_pos q]
      by_cases q2 : i ≤ ids.length
      · rw [List.getElem?_eq_getElem (show (i - 1).toNat < k.nodes.length by omega), if_pos (⟨q, q2⟩ : 1 ≤ i ∧ i ≤ ids.length)]
      · rw [List.getElem?_eq_none (show k.nodes.length ≤ (i - 1).toNat by omega), if_neg (fun h : 1 ≤ i ∧ i ≤ ids.length => q2 h.2)]
    · rw [if_neg q, if_neg (fun h : 1 ≤ i ∧ i ≤ ids.length => q h.1)]
  refine condI hA (fun h => ?_) (fun h => ?_)
  · have h := zneT hA h
    have hdn : k.down = true := by
      cases q : k.down with
      | true => rfl
      | false => rw [he] at h; simp [upE, q] at h
    cbv
    exact retGI hA rfl [.v .nilp, .v (.int .i64 e)] gh (⟨_, _, rfl, by simp [anyP, hk, hdn], by rw [he, hk]; simp [upE, hdn], rfl⟩) (by first | exact ⟨rfl, trivial⟩ | exact ⟨rfl, rfl, trivial⟩ | exact ⟨rfl, rfl, rfl, trivial⟩ | trivial)
  · have h := zneF hA h
    have hdn : k.down = false := by
      cases q : k.down with
      | false => rfl
      | true => rw [he] at h; simp [upE, q] at h
    cbv
    refine condI hA (fun h2 => ?_) (fun h2 => ?_)
    · have h2 := zltT hA h2
      cbv
      exact retGI hA rfl [.v .nilp, .v (.int .i64 8)] gh (⟨_, _, rfl, by rw [anyP, hk, hdn, if_neg (f0 h2)]; rfl, by rw [hk, hdn, if_neg (f0 h2)]; rfl, rfl⟩) (by first | exact ⟨rfl, trivial⟩ | exact ⟨rfl, rfl, trivial⟩ | exact ⟨rfl, rfl, rfl, trivial⟩ | trivial)
    · have h2 := zltF hA h2
      cbv
      refine gldI hA _ (hg) ?_
      cbv
      refine glenI hA ?_
      cbv
      refine condI hA (fun h3 => ?_) (fun h3 => ?_)
      · have h3 := zltT hA h3
        cbv
        exact retGI hA rfl [.v .nilp, .v (.int .i64 8)] gh (⟨_, _, rfl, by rw [anyP, hk, hdn, if_neg (f1 h3)]; rfl, by rw [hk, hdn, if_neg (f1 h3)]; rfl, rfl⟩) (by first | exact ⟨rfl, trivial⟩ | exact ⟨rfl, rfl, trivial⟩ | exact ⟨rfl, rfl, rfl, trivial⟩ | trivial)
      · have h3 := zltF hA h3
        cbv
        refine gldI hA _ (hg) ?_
        cbv
        obtain ⟨g1, g2, g3, g4⟩ := f2 h2 h3
        have hs := (zsub hA i 1).trans (w64_id g4)
        refine gixN hA hs g3 ?_
        cbv
        obtain ⟨id, hid⟩ : ∃ id, ids[(i - 1).toNat]? = some id := ⟨_, List.getElem?_eq_getElem g2⟩
        refine gldRN hA (y := .gp id 0) hs _ (.inr (.inr hnid)) (by rw [List.getElem?_map, hid]; rfl) ?_
        cbv
        exact retGI hA rfl [.v (.gp id 0), .v (.int .i64 0)] gh (⟨_, _, rfl, by rw [anyP, hk, hdn, if_pos g1, hid]; rfl, by rw [hk, hdn, if_pos g1]; rfl, rfl⟩) (by first | exact ⟨rfl, trivial⟩ | exact ⟨rfl, rfl, trivial⟩ | exact ⟨rfl, rfl, rfl, trivial⟩ | trivial)
theorem anyP_ok {k : Dk} {ids : List Nat} {i : Int} (hl : ids.length = k.nodes.length) (h : k.anyE i = 0) : ∃ id nd, k.down = false ∧ k.node? i = some nd ∧ 1 ≤ i ∧ ids[(i - 1).toNat]? = some id ∧ k.nodes[(i - 1).toNat]? = some nd ∧ anyP k ids i = .gp id 0 := by
  have h' := h
  unfold Dk.anyE at h'
  cases hd : k.down with
  | true => rw [hd] at h'; cases h'
  | false =>
    rw [hd, if_neg (by simp)] at h'
    split at h'
    · rename_i nd hn
      have hn2 := hn
      unfold Dk.node? at hn2
      split at hn2
      · rename_i q
        have hlt := (List.getElem?_eq_some_iff.1 hn2).1
        refine ⟨ids[(i - 1).toNat], nd, rfl, hn, q, List.getElem?_eq_getElem (by omega), hn2, ?_⟩
        unfold anyP
        rw [if_pos h, List.getElem?_eq_getElem (by omega)]
      · cases hn2
    · cases h'
/-- A node that is there. -/
structure Got (k : Dk) (ids : List Nat) (i : Int) (x : V) (id : Nat) (nd : Nd) : Prop where
  x : x = .gp id 0
  up : k.down = false
  node : k.node? i = some nd
  pos : 1 ≤ i
  id : ids[(i - 1).toNat]? = some id
  nd : k.nodes[(i - 1).toNat]? = some nd
theorem got_any {k : Dk} {ids : List Nat} {i : Int} (hl : ids.length = k.nodes.length) (h : k.anyE i = 0) : ∃ id nd, Got k ids i (anyP k ids i) id nd := by
  obtain ⟨id, nd, h1, h2, h3, h4, h5, h6⟩ := anyP_ok hl h
  exact ⟨id, nd, h6, h1, h2, h3, h4, h5⟩
theorem ofE_any {k : Dk} {i : Int} {dir : Bool} (h : k.anyE i ≠ 0) : k.ofE i dir = k.anyE i := by
  unfold Dk.ofE Dk.anyE at *
  split
  · rfl
  · rename_i hd
    rw [if_neg hd] at h
    split
    · rename_i n hn; rw [hn] at h; exact absurd rfl h
    · rfl
theorem gOfS (gh : GH) (lab : Lab) (p : Nat) (v : V) (k : Dk) (ids : List Nat) (i : Int) (dir : Bool) (hg : gh.get p = some (boxD v k)) (hn : NsV gh lab v ids) (hl : ids.length = k.nodes.length) (hat : ∀ i id nd, ids[i]? = some id → k.nodes[i]? = some nd → NodeAt gh lab i id nd) (h1 : 1 ≤ k.nodes.length) (hi : -9223372036854775808 ≤ i ∧ i ≤ 9223372036854775807) :
    FnG Try.prog 41 [.gp p 0, .int .i64 i, .bool dir] gh fun rs g => ∃ (x : V) (e : Int), rs = [.v x, .v (.int .i64 e)] ∧ (e = 0 → ∃ id nd, Got k ids i x id nd ∧ nd.dir = dir) ∧ e = k.ofE i dir ∧ (e ≠ 0 → x = .nilp) ∧ gh = g := by
  refine FnG.of' T_ok M_ok [] (fn := Try.f41) (by kernel_rfl) rfl rfl rfl rfl (Nat.le_of_ble_eq_true rfl) fun A hA => ?_
  cbv
  refine callGI hA (gAny gh lab p v k ids i hg hn hl h1 hi) ?_
  intro rs_ g_ h_
  obtain ⟨x, e, q_1, hx, he, q_2⟩ := h_
  subst q_1
  subst q_2
  cbv
  refine condI hA (fun h => ?_) (fun h => ?_)
  · have h := zeqT hA h
    rw [he] at h
    obtain ⟨id, nd, hG⟩ := got_any hl h
    obtain ⟨vb, ve, wb, we, vl, hbox, _⟩ := hat _ _ _ hG.id hG.nd
    rw [hG.x] at hx
    have hof : k.ofE i dir = if nd.dir = dir then 0 else 10 := by unfold Dk.ofE; rw [hG.up, if_neg (by simp), hG.node]
    have hG2 : Got k ids i (.gp id 0) id nd := { hG with x := rfl }
    subst hx
    cbv
    refine gldI hA _ (hbox) ?_
    cbv
    refine condI hA (fun h2 => ?_) (fun h2 => ?_)
    · have h2 : nd.dir ≠ dir := zbeqF hA (znotT hA h2)
      cbv
      exact retGI hA rfl [.v .nilp, .v (.int .i64 10)] gh (⟨_, _, rfl, fun h => (nomatch h), by rw [hof, if_neg h2], fun _ => rfl, rfl⟩) (by first | exact ⟨rfl, trivial⟩ | exact ⟨rfl, rfl, trivial⟩ | exact ⟨rfl, rfl, rfl, trivial⟩ | trivial)
    · have h2 : nd.dir = dir := zbeqT hA (znotF hA h2)
      cbv
      exact retGI hA rfl [.v (.gp id 0), .v (.int .i64 e)] gh (⟨_, _, rfl, fun _ => ⟨id, nd, hG2, h2⟩, by rw [he, h, hof, if_pos h2], fun q => absurd (he.trans h) q, rfl⟩) (by first | exact ⟨rfl, trivial⟩ | exact ⟨rfl, rfl, trivial⟩ | exact ⟨rfl, rfl, rfl, trivial⟩ | trivial)
  · have h := zeqF hA h
    have hne : k.anyE i ≠ 0 := he ▸ h
    cbv
    exact retGI hA rfl [.v x, .v (.int .i64 e)] gh (⟨_, _, rfl, fun q => absurd q h, by rw [he, ofE_any hne], fun _ => by rw [hx]; unfold anyP; rw [if_neg hne], rfl⟩) (by first | exact ⟨rfl, trivial⟩ | exact ⟨rfl, rfl, trivial⟩ | exact ⟨rfl, rfl, rfl, trivial⟩ | trivial)
theorem gOf (gh : GH) (lab : Lab) (p : Nat) (v : V) (k : Dk) (ids : List Nat) (i : Int) (dir : Bool) (hg : gh.get p = some (boxD v k)) (hn : NsV gh lab v ids) (hl : ids.length = k.nodes.length) (hat : ∀ i id nd, ids[i]? = some id → k.nodes[i]? = some nd → NodeAt gh lab i id nd) (h1 : 1 ≤ k.nodes.length) (hi : -9223372036854775808 ≤ i ∧ i ≤ 9223372036854775807) :
    FnG Try.prog 41 [.gp p 0, .int .i64 i, .bool dir] gh fun rs g => ∃ (x : V) (e : Int), rs = [.v x, .v (.int .i64 e)] ∧ (e = 0 → ∃ id nd, Got k ids i x id nd ∧ nd.dir = dir) ∧ e = k.ofE i dir ∧ gh = g :=
  (gOfS gh lab p v k ids i dir hg hn hl hat h1 hi).mono fun rs g ⟨x, e, q1, q2, q3, _, q4⟩ => ⟨x, e, q1, q2, q3, q4⟩
end Go.Proofs.Ythioccbgjkbmdaa.AM

/-
  Contracts: a disk that is looked at.
-/
set_option linter.unusedVariables false
set_option linter.unusedSimpArgs false
namespace Go.Proofs.Ythioccbgjkbmdaa.AM
open Go Go.RowKit
set_option maxRecDepth 100000
set_option maxHeartbeats 4000000

theorem ByV.is {gh : GH} {lab : Lab} {r : Nat × Nat} {v : V} {b : Bs} (h : ByV gh lab r v b) : SlIs gh 1 (bytesV b) v := by
  rcases h with ⟨h1, h2⟩ | h | ⟨id, h1, _, h2⟩
  · exact .inl ⟨h1, by rw [h2]; rfl⟩
  · exact .inr (.inl h)
  · exact .inr (.inr (.inr ⟨id, by rw [h1, bytesV_len], h2⟩))
def I64 (i : Int) : Prop := -9223372036854775808 ≤ i ∧ i ≤ 9223372036854775807
/-- What a call has to know of a disk. -/
structure DkIn (gh : GH) (lab : Lab) (p : Nat) (k : Dk) : Prop where
  at_ : DiskAt gh lab p k
  one : 1 ≤ k.nodes.length
theorem gOf' {gh : GH} {lab : Lab} {p : Nat} {k : Dk} (h : DkIn gh lab p k) (i : Int) (dir : Bool) (hi : I64 i) : ∃ v ids, gh.get p = some (boxD v k) ∧ NsV gh lab v ids ∧ ids.length = k.nodes.length ∧ (∀ i id nd, ids[i]? = some id → k.nodes[i]? = some nd → NodeAt gh lab i id nd) ∧
    FnG Try.prog 41 [.gp p 0, .int .i64 i, .bool dir] gh fun rs g => ∃ (x : V) (e : Int), rs = [.v x, .v (.int .i64 e)] ∧ (e = 0 → ∃ id nd, Got k ids i x id nd ∧ nd.dir = dir) ∧ e = k.ofE i dir ∧ gh = g := by
  obtain ⟨⟨hd, hp, v, ids, h1, h2, h3, h4⟩, h5⟩ := h
  exact ⟨v, ids, h1, h2, h3, h4, gOf gh lab p v k ids i dir h1 h2 h3 h4 h5 hi⟩
theorem gIsDir {gh : GH} {lab : Lab} {p : Nat} {k : Dk} (h : DkIn gh lab p k) (i : Int) (hi : I64 i) : FnG Try.prog 27 [.gp p 0, .int .i64 i] gh fun rs g => ∃ c : Bool, rs = [.v (.bool c)] ∧ c = decide (k.ofE i true = 0) ∧ gh = g := by
  obtain ⟨v, ids, _, _, _, _, ho⟩ := gOf' h i true hi
  refine FnG.of' T_ok M_ok [] (fn := Try.f27) (by kernel_rfl) rfl rfl rfl rfl (Nat.le_of_ble_eq_true rfl) fun A hA => ?_
  cbv
  refine callGI hA (ho) ?_
  intro rs_ g_ h_
  obtain ⟨x, e, q_1, _, he, q_2⟩ := h_
  subst q_1
  subst q_2
  cbv
  exact retGI hA rfl [.v (.bool (A.ieq e 0))] gh (⟨_, rfl, by rw [hA, he, Bool.eq_iff_iff]; simp [std], rfl⟩) (by first | exact ⟨rfl, trivial⟩ | exact ⟨rfl, rfl, trivial⟩ | exact ⟨rfl, rfl, rfl, trivial⟩ | trivial)
def sizeM (k : Dk) (i : Int) : Int := if k.ofE i false = 0 then match k.node? i with
  | some nd => nd.seen.b.length
  | none => 0
  else 0
theorem gSize {gh : GH} {lab : Lab} {p : Nat} {k : Dk} (h : DkIn gh lab p k) (i : Int) (hi : I64 i) : FnG Try.prog 29 [.gp p 0, .int .i64 i] gh fun rs g => ∃ c : Int, rs = [.v (.int .i64 c)] ∧ c = sizeM k i ∧ gh = g := by
  obtain ⟨v, ids, _, _, _, hat, ho⟩ := gOf' h i false hi
  refine FnG.of' T_ok M_ok [] (fn := Try.f29) (by kernel_rfl) rfl rfl rfl rfl (Nat.le_of_ble_eq_true rfl) fun A hA => ?_
  cbv
  refine callGI hA (ho) ?_
  intro rs_ g_ h_
  obtain ⟨x, e, q_1, hx, he, q_2⟩ := h_
  subst q_1
  subst q_2
  cbv
  refine condI hA (fun h1 => ?_) (fun h1 => ?_)
  · have h1 := zneT hA h1
    cbv
    exact retGI hA rfl [.v (.int .i64 0)] gh (⟨_, rfl, by unfold sizeM; rw [if_neg (he ▸ h1)], rfl⟩) (by first | exact ⟨rfl, trivial⟩ | exact ⟨rfl, rfl, trivial⟩ | exact ⟨rfl, rfl, rfl, trivial⟩ | trivial)
  · have h1 := zneF hA h1
    obtain ⟨id, nd, hG, hdir⟩ := hx h1
    obtain ⟨vb, ve, wb, we, vl, hbox, _, _, _, hwb, _⟩ := hat _ _ _ hG.id hG.nd
    have hsz : sizeM k i = nd.seen.b.length := by unfold sizeM; rw [if_pos (he ▸ h1), hG.node]
    obtain ⟨b, hb⟩ : ∃ b, b = nd.seen.b := ⟨_, rfl⟩
    rw [← hb] at hwb hsz
    have hx2 := hG.x
    subst hx2
    cbv
    refine gldI hA _ (hbox) ?_
    cbv
    have fin : ∀ c : Int, c = b.length → ∃ c' : Int, [Rs.v (.int .i64 c)] = [.v (.int .i64 c')] ∧ c' = sizeM k i ∧ gh = gh := fun c hc => ⟨c, rfl, hc.trans hsz.symm, rfl⟩
    rcases hwb.open with ⟨rfl, hb0⟩ | ⟨l, rfl, hl⟩ | ⟨bid, n, l, rfl, hn, hl, hl2, hg2⟩
    · cbv
      exact retGI hA rfl [.v (.int .i64 0)] gh (fin 0 (by rw [hb0]; rfl)) (by first | exact ⟨rfl, trivial⟩ | exact ⟨rfl, rfl, trivial⟩ | exact ⟨rfl, rfl, rfl, trivial⟩ | trivial)
    · obtain ⟨n, hn⟩ : ∃ n : Int, n = (l.length : Nat) := ⟨_, rfl⟩
      refine glnSN hA (.inr (.inl rfl)) hn ?_
      cbv
      exact retGI hA rfl [.v (.int .i64 n)] gh (fin _ (by rw [natEq hn, hl, bytesV_len])) (by first | exact ⟨rfl, trivial⟩ | exact ⟨rfl, rfl, trivial⟩ | exact ⟨rfl, rfl, rfl, trivial⟩ | trivial)
    · refine glenI hA ?_
      cbv
      exact retGI hA rfl [.v (.int .i64 n)] gh (fin _ hn) (by first | exact ⟨rfl, trivial⟩ | exact ⟨rfl, rfl, trivial⟩ | exact ⟨rfl, rfl, rfl, trivial⟩ | trivial)
end Go.Proofs.Ythioccbgjkbmdaa.AM

/-
  Contracts: pack, part 1: numbers.
-/
set_option linter.unusedVariables false
set_option linter.unusedSimpArgs false
namespace Go.Proofs.Ythioccbgjkbmdaa.AM
open Go Go.RowKit
set_option maxRecDepth 100000
set_option maxHeartbeats 4000000

/-- Part of a list turned round: the first k with the last k. -/
def Turned (b l : List UInt8) (k : Nat) : Prop := l.length = b.length ∧ ∀ m (h : m < b.length) (h' : m < l.length), l[m]'h' = if m < k ∨ b.length - k ≤ m then b[b.length - 1 - m]'(by omega) else b[m]'h
theorem GH.set_set (gh : GH) (id : Nat) (o p : GObj) : (gh.set id o).set id p = gh.set id p := by
  simp only [GH.set]; congr 1; funext j; split <;> rfl
theorem GH.set_same (gh : GH) (id : Nat) (o : GObj) (h : gh.get id = some o) : gh.set id o = gh := by
  obtain ⟨n, g⟩ := gh
  simp only [GH.set]; congr 1; funext j; split
  · rename_i e; subst e; exact h.symm
  · rfl
theorem Turned.zero (b : List UInt8) : Turned b b 0 := ⟨rfl, fun m h h' => by rw [if_neg (by omega)]⟩
theorem Turned.done {b l : List UInt8} {k : Nat} (h : Turned b l k) (hk : b.length ≤ 2 * k + 1) : l = b.reverse := by
  apply List.ext_getElem (by simp [h.1])
  intro m h1 h2
  rw [h.2 m (by rw [← h.1]; exact h1) h1, List.getElem_reverse]
  split
  · rfl
  · have := h.1
    congr 1; omega
theorem Turned.step {b l : List UInt8} {k : Nat} (h : Turned b l k) (hk : 2 * k + 1 < b.length) (h1 : k < l.length) (h2 : b.length - 1 - k < l.length) : Turned b ((l.set k (l[b.length - 1 - k]'h2)).set (b.length - 1 - k) (l[k]'h1)) (k + 1) := by
  refine ⟨by simp [h.1], fun m hm hm' => ?_⟩
  have e1 := h.2 k (by omega) h1
  have e2 := h.2 (b.length - 1 - k) (by omega) h2
  rw [if_neg (by omega)] at e1 e2
  simp only [List.getElem_set]
  split
  · rename_i e
    rw [e1, if_pos (by omega)]
    congr 1; omega
  · split
    · rename_i e e3
      rw [e2, if_pos (by omega)]
      congr 1; omega
    · rename_i e e3
      have hml : m < l.length := by simpa using hm'
      rw [h.2 m hm hml]
      by_cases hc : m < k ∨ b.length - k ≤ m
      · rw [if_pos hc, if_pos (by omega)]
      · rw [if_neg hc, if_neg (by omega)]
theorem ii_lt {i j : Int} {k n : Nat} (hi : i = (k : Int)) (hj : j = (n : Int) - 1 - (k : Int)) : (i < j) ↔ 2 * k + 1 < n := by omega
theorem ii_dn {j : Int} {k n : Nat} (hj : j = (n : Int) - 1 - (k : Int)) (hk : k < n) (hn : n ≤ 140737488355328) : IntKind.i64.wrap (j - 1) = (n : Int) - 1 - ((k + 1 : Nat) : Int) := by
  rw [hj, wrap_i64 (by omega) (by omega)]; omega
theorem ii_n1 {n : Nat} (hn : n ≤ 140737488355328) : IntKind.i64.wrap ((n : Int) - 1) = (n : Int) - 1 - ((0 : Nat) : Int) := by
  rw [wrap_i64 (by omega) (by omega)]; omega
theorem bytesV_set' (b : List UInt8) (k : Nat) (c : UInt8) : (bytesV b).set k (.int .u8 (c.toNat : Nat)) = bytesV (b.set k c) := by simp [bytesV]
theorem i64_up {i : Int} {j : Nat} (hi : i = j) (hj : j ≤ 140737488355328) : IntKind.i64.wrap (i + 1) = ((j + 1 : Nat) : Int) := by
  rw [hi, wrap_i64 (by omega) (by omega)]; rfl
theorem ii_i {i n : Int} {k m : Nat} (hi : i = (k : Int)) (hn : n = (m : Int)) (h : 2 * k + 1 < m) : 0 ≤ i ∧ i < n := by omega
theorem ii_j {j n : Int} {k m : Nat} (hj : j = (m : Int) - 1 - (k : Int)) (hn : n = (m : Int)) (h : 2 * k + 1 < m) : 0 ≤ j ∧ j < n := by omega
theorem ii_j2 {j : Int} {k m : Nat} (hj : j = (m : Int) - 1 - (k : Int)) (h : 2 * k + 1 < m) : j = ((m - 1 - k : Nat) : Int) := by omega
theorem cReverse (id : Nat) (n : Int) (b : List UInt8) (gh : GH) (hg : gh.get id = some (.row 1 (bytesV b))) (hn : n = b.length) (hb : b.length ≤ 140737488355328) : FnG Try.prog 85 [.gs id n] gh fun rs gh' => rs = [] ∧ gh' = gh.set id (.row 1 (bytesV b.reverse)) := by
  refine FnG.of' T_ok M_ok [] (fn := Try.f85) (by kernel_rfl) rfl rfl rfl rfl (Nat.le_of_ble_eq_true rfl) fun A hA => ?_
  cbv
  refine glenI hA  ?_
  cbv
  refine loopF hA (ι := Int × Int × GH) (fun p => { n := 28, sl := [(0, .v (.gs id n)), (2, .v (.int .i64 p.1)), (3, .v (.int .i64 p.2.1))], ob := [(hk, .heap p.2.2 [])] })
    (fun p => ∃ (k : Nat) (l : List UInt8), p.1 = k ∧ p.2.1 = (b.length : Int) - 1 - (k : Int) ∧ Turned b l k ∧ p.2.2 = gh.set id (.row 1 (bytesV l))) (fun p => b.length - p.1.toNat) (_, _, _) (weakI rfl ⟨rfl, rfl, rfl, trivial⟩ ⟨rfl, trivial⟩) ⟨0, b, rfl, ?_, Turned.zero b, (GH.set_same gh id _ hg).symm⟩ ?_
  · change A.wrap .i64 (A.sub n 1) = _
    rw [hA, hn]; exact ii_n1 hb
  rintro ⟨i, j, g⟩ ⟨k, l, hi, hj, hT, hgg⟩
  dsimp only at hi hj hgg
  cbv
  refine condI hA (fun hc => ?_) (fun hc => ?_)
  · have hk2 : 2 * k + 1 < b.length := by
      rw [hA] at hc
      exact (ii_lt hi hj).1 (of_decide_eq_true hc)
    have hl := hT.1
    have h1 : k < l.length := by omega
    have h2 : b.length - 1 - k < l.length := by omega
    have hi1 := ii_i hi hn hk2
    have hj1 := ii_j hj hn hk2
    have hj2 := ii_j2 hj hk2
    have hg0 : g.get id = some (.row 1 (bytesV l)) := by rw [hgg]; simp
    replace hi := natEq hi
    replace hj2 := natEq hj2
    cbv
    refine chkI hA (by kernel_rfl) ?_
    cbv
    refine gixI hA hj1 ?_
    cbv
    refine gldBI hA l hg0 hj2 h2 ?_
    rintro x hx
    cbv
    refine gixI hA hi1 ?_
    cbv
    refine gldBI hA l hg0 hi h1 ?_
    rintro y hy
    cbv
    refine gixI hA hi1 ?_
    cbv
    refine gstRI hA (bytesV l) hg0 (bytesV_at rfl hi h1).2 rfl ?_
    rintro g1 hg1
    cbv
    refine gixI hA hj1 ?_
    cbv
    have hg1' : g1.get id = some (.row 1 (bytesV (l.set k (l[b.length - 1 - k]'h2)))) := by
      rw [hg1, natEq hx, natEq hi, Int.toNat_natCast, bytesV_set']; simp
    have h3 : b.length - 1 - k < (l.set k (l[b.length - 1 - k]'h2)).length := by simpa using h2
    refine gstRI hA _ hg1' (bytesV_at rfl hj2 h3).2 rfl ?_
    rintro g2 hg2
    refine ⟨(_, _, _), weakI rfl ⟨rfl, rfl, rfl, trivial⟩ ⟨rfl, trivial⟩, ⟨k + 1, _, ?_, ?_, hT.step hk2 h1 h2, ?_⟩, ?_⟩
    · change A.wrap .i64 (A.add i 1) = _
      rw [hA]; exact i64_up hi (by omega)
    · change A.wrap .i64 (A.sub j 1) = _
      rw [hA]; exact ii_dn hj (by omega) hb
    · rw [hg2, hg1, natEq hy, natEq hj2, Int.toNat_natCast, bytesV_set', hgg, GH.set_set, GH.set_set]
    · change b.length - (A.wrap .i64 (A.add i 1)).toNat < b.length - i.toNat
      rw [hA]; simp only [std]; rw [i64_up (natEq hi) (by omega), natEq hi]; omega
  · have hk2 : ¬ 2 * k + 1 < b.length := by
      rw [hA] at hc
      exact fun h => (of_decide_eq_false hc) ((ii_lt hi hj).2 h)
    cbv
    refine retGI hA rfl [] _ ⟨rfl, ?_⟩ trivial
    rw [hgg, hT.done (by omega)]
end Go.Proofs.Ythioccbgjkbmdaa.AM

/-
  Contracts: pack, part 2: a number's bytes.
-/
set_option linter.unusedVariables false
set_option linter.unusedSimpArgs false
namespace Go.Proofs.Ythioccbgjkbmdaa.AM
open Go Go.RowKit
set_option maxRecDepth 100000
set_option maxHeartbeats 4000000

def leB (n : Nat) : List UInt8 := if h : n = 0 then [] else UInt8.ofNat (n % 256) :: leB (n / 256)
termination_by n
decreasing_by omega
def numB (n : Nat) : List UInt8 := (leB n).reverse
theorem leB_zero : leB 0 = [] := by unfold leB; rfl
theorem leB_pos {n : Nat} (h : 0 < n) : leB n = UInt8.ofNat (n % 256) :: leB (n / 256) := by rw [leB, dif_neg (by omega)]
theorem leB_len (k : Nat) : ∀ n, n < 256 ^ k → (leB n).length ≤ k := by
  induction k with
  | zero => intro n h; have : n = 0 := by simpa using h
            subst this; rw [leB_zero]; simp
  | succ k ih =>
    intro n h
    rcases Nat.eq_zero_or_pos n with h0 | h0
    · subst h0; rw [leB_zero]; simp
    · rw [leB_pos h0]
      have := ih (n / 256) (by rw [Nat.pow_succ] at h; omega)
      simp; omega
theorem numB_len {n : Nat} (h : n < 18446744073709551616) : (numB n).length ≤ 8 := by
  unfold numB; rw [List.length_reverse]; exact leB_len 8 n (by simpa using h)
theorem wrap_u8 (n : Nat) : IntKind.u8.wrap (n : Int) = ((n % 256 : Nat) : Int) := by
  simp only [IntKind.wrap, IntKind.bits, IntKind.signed, Bool.false_and, Bool.false_eq_true, if_false]
  omega
theorem shr_u64_8 (a : Nat) : Int.fdiv (a : Int) (2 ^ (min (Int.toNat 8) IntKind.u64.bits)) = ((a / 256 : Nat) : Int) := by
  have : (2 : Int) ^ (min (Int.toNat 8) IntKind.u64.bits) = ((256 : Nat) : Int) := by decide
  rw [this, Int.fdiv_eq_ediv_of_nonneg _ (by omega)]
  rfl
theorem byteV {x : Int} {n : Nat} (h : x = ((n % 256 : Nat) : Int)) : V.int .u8 x = .int .u8 ((UInt8.ofNat (n % 256)).toNat : Nat) := by
  rw [h]; congr 2; rw [UInt8.toNat_ofNat']; omega
theorem pos_of {x : Int} {k : Nat} (hx : x = (k : Int)) (h : 0 < x) : 0 < k := by omega
theorem zero_of {x : Int} {k : Nat} (hx : x = (k : Int)) (h : ¬ 0 < x) : k = 0 := by omega
theorem cNum (v : Int) (n : Nat) (hv : v = n) (hn : n < 18446744073709551616) : CallR Try.prog 67 [.int .u64 v] fun rs => ∃ l, rs = [.v (.slice l)] ∧ l = bytesV (numB n) := by
  obtain ⟨l, hl⟩ : ∃ l, l = bytesV (numB n) := ⟨_, rfl⟩
  refine ⟨[.v (.slice l)], FnR.ofG (fun r hr => by simp at hr; subst hr; rw [hl]; exact noG_bytes _) fun nx => FnG.frz (post0 := fun rs gh' => ∃ (id : Nat) (m : Int), rs = [.v (.gs id m)] ∧ gh'.get id = some (.row 1 l) ∧ m = l.length) ?_ ?_, _, rfl, hl⟩
  · obtain ⟨g0, hg0⟩ : ∃ g0 : GH, g0 = ⟨nx, fun _ => none⟩ := ⟨_, rfl⟩
    rw [← hg0]
    refine FnG.of' T_ok M_ok [12] (fn := Try.f67) (by kernel_rfl) rfl rfl rfl rfl (Nat.le_of_ble_eq_true rfl) fun A hA => ?_
    cbv
    refine loopF hA (ι := Int × Nat × Int × GH) (fun p => { n := 16, sl := [(0, .v (.int .u64 p.1)), (3, .v (.gs p.2.1 p.2.2.1))], ob := [(hk, .heap p.2.2.2 [12])] })
      (fun p => ∃ (k : Nat) (a : List UInt8), p.1 = k ∧ k ≤ n ∧ a ++ leB k = leB n ∧ p.2.2.1 = a.length ∧ p.2.2.2.get p.2.1 = some (.row 1 (bytesV a))) (fun p => p.1.toNat) (v, g0.next, 0, g0.new (.row 1 [])) ((weak_gnil _ 3 1 rfl rfl).trans (weakI rfl ⟨rfl, rfl, trivial⟩ ⟨rfl, trivial⟩)) ⟨n, [], hv, Nat.le_refl _, rfl, rfl, by simp [bytesV]⟩ ?_
    rintro ⟨x, id, m, g⟩ ⟨k, a, hx, hkn, ha, hm, hg⟩
    dsimp only at hx hm hg
    have hal : a.length + (leB k).length ≤ 8 := by
      have := leB_len 8 n (by simpa using hn); rw [← ha] at this; simpa using this
    cbv
    refine condI hA (fun hc => ?_) (fun hc => ?_)
    · have hk0 : 0 < k := by
        rw [hA] at hc
        have h : (0 : Int) < x := of_decide_eq_true hc
        exact pos_of hx h
      cbv
      have hml : m = ((bytesV a).length : Int) := by rw [bytesV_len]; exact hm
      refine gappI hA (bytesV a) [.int .u8 (A.wrap .u8 x)] hg hml ⟨rfl, by simp [V.flat]⟩ (by rw [bytesV_len]; change (a.length + 1) * 1 ≤ _; omega) ?_
      rintro g1 m1 hg1 hm1
      cbv
      refine nnegI hA (by decide) ?_
      cbv
      have hx8 : A.wrap .u8 x = ((k % 256 : Nat) : Int) := by rw [hA, natEq hx]; exact wrap_u8 k
      refine ⟨(_, _, _, _), weakI rfl ⟨rfl, rfl, trivial⟩ ⟨rfl, trivial⟩, ⟨k / 256, a ++ [UInt8.ofNat (k % 256)], ?_, by omega, ?_, ?_, ?_⟩, ?_⟩
      · change A.shr .u64 x 8 = _
        rw [hA, natEq hx]; exact shr_u64_8 k
      · rw [← ha, leB_pos hk0]; simp
      · exact (natEq hm1).trans (by simp [bytesV])
      · change g1.get g.next = _
        rw [hg1, byteV hx8]; simp [bytesV]
      · change (A.shr .u64 x 8).toNat < x.toNat
        rw [hA, natEq hx]; simp only [std]; rw [shr_u64_8]; omega
    · have hk0 : k = 0 := by
        rw [hA] at hc
        have h : ¬ (0 : Int) < x := of_decide_eq_false hc
        exact zero_of hx h
      subst hk0
      rw [leB_zero, List.append_nil] at ha
      cbv
      refine callGI hA (cReverse id m a g hg (natEq hm) (by omega)) ?_
      intro rs_ g1 h_
      obtain ⟨q_1, hg1⟩ := h_
      subst q_1
      cbv
      refine retGI hA rfl [.v (.gs id m)] g1 ⟨id, m, rfl, ?_, ?_⟩ ⟨rfl, trivial⟩
      · rw [hg1, hl, ha]; simp [numB]
      · rw [hl, bytesV_len]; unfold numB; rw [List.length_reverse, ← ha]; exact natEq hm
  · rintro rs gh' ⟨id, m, rfl, h1, h2⟩
    exact ⟨0, id, 1, m, l, rfl, h1, by omega, by rw [h2, Int.toNat_natCast, List.take_length]; rfl⟩
end Go.Proofs.Ythioccbgjkbmdaa.AM

/-
  Contracts: lists compared and searched.
-/
set_option linter.unusedVariables false
set_option linter.unusedSimpArgs false
namespace Go.Proofs.Ythioccbgjkbmdaa.AM
open Go Go.RowKit
set_option maxRecDepth 100000
set_option maxHeartbeats 4000000

section
variable {A : Prim} {P : Program} {R : List (Nat × AObj) → List D → Prop} (hA : A = std P R)
include hA
theorem ltL {i : Int} {j n : Nat} {l : List V} (hi : i = (j : Int)) (hl : l.length = n) (h : A.ilt i (A.lenL l) = true) : j < n := by
  subst hA; have := of_decide_eq_true h; simp only [std] at this; omega
theorem geL {i : Int} {j n : Nat} {l : List V} (hi : i = (j : Int)) (hl : l.length = n) (h : A.ilt i (A.lenL l) = false) (hj : j ≤ n) : j = n := by
  subst hA; have := of_decide_eq_false h; simp only [std] at this; omega
theorem upI {i : Int} {j : Nat} (hi : i = (j : Int)) (hj : j ≤ 140737488355328) : A.wrap .i64 (A.add i 1) = ((j + 1 : Nat) : Int) := by subst hA; exact i64_up hi hj
theorem upM {i : Int} {j n : Nat} (hi : i = (j : Int)) (hj : j < n) (hn : n ≤ 140737488355328) : n - (A.wrap .i64 (A.add i 1)).toNat < n - i.toNat := by
  rw [upI hA hi (by omega), hi]; omega
end
theorem lenB {l : List V} {b : List UInt8} (h : l = bytesV b) : l.length = b.length := by rw [h, bytesV_len]
theorem lenS' {l : List V} {b : List (List UInt8)} (h : l = strsV b) : l.length = b.length := by rw [h, strsV_len]
theorem lenLs {l : List V} {b : List (List UInt8)} (h : l = listsV b) : l.length = b.length := by rw [h, listsV_len]
theorem eq_of_take {α : Type} {a b : List α} (hl : a.length = b.length) (h : a.take a.length = b.take a.length) : a = b := by
  rwa [List.take_length, hl, List.take_length] at h
theorem take_step {α : Type} {a b : List α} {j : Nat} (ha : j < a.length) (hb : j < b.length) (h : a.take j = b.take j) (he : a[j] = b[j]) : a.take (j + 1) = b.take (j + 1) := by
  rw [List.take_succ_eq_append_getElem ha, List.take_succ_eq_append_getElem hb, h, he]

theorem cEqualB (a b : List UInt8) (la lb : List V) (ha : la = bytesV a) (hb : lb = bytesV b) (hal : a.length ≤ 140737488355328) : CallR Try.prog 61 [.slice la, .slice lb] fun rs => ∃ c, rs = [.v (.bool c)] ∧ c = (a == b) := by
  obtain ⟨c, hcv⟩ : ∃ c, c = (a == b) := ⟨_, rfl⟩
  refine .of _ ⟨c, rfl, hcv⟩ ?_
  refine FnR.of' T_ok M_ok (fn := Try.f61) (by kernel_rfl) rfl rfl rfl rfl (Nat.le_of_ble_eq_true rfl) fun A hA => ?_
  cbv
  refine condI hA (fun h1 => ?_) (fun h1 => ?_)
  · cbv
    refine retI hA ?_
    have : ¬ a = b := fun e => by
      rw [hA] at h1
      subst e; subst ha; subst hb
      exact absurd h1 (by simp [std])
    simp only [retOk, rsOk, retIds, idsD, idsDs, softOb, toV, Option.some.injEq, V.bool.injEq, and_true]
    exact (hcv.trans (beq_eq_false_iff_ne.2 this)).symm
  · have hlen : a.length = b.length := by
      have h : (A.ine (A.lenL la) (A.lenL lb)) = false := h1
      rw [hA, ha, hb] at h; simp only [std, bytesV_len, bne_eq_false_iff_eq] at h
      exact_mod_cast h
    cbv
    refine loopF hA (ι := Int) (fun i => { n := 26, sl := [(0, .v (.slice la)), (1, .v (.slice lb)), (12, .v (.int .i64 (A.lenL la))), (13, .v (.int .i64 i))], ob := [] })
      (fun i => ∃ j : Nat, i = j ∧ j ≤ a.length ∧ a.take j = b.take j) (fun i => a.length - i.toNat) 0 (weakI rfl ⟨rfl, rfl, rfl, rfl, trivial⟩ trivial) ⟨0, rfl, Nat.zero_le _, by simp⟩ ?_
    rintro i ⟨j, hi, hj, ht⟩
    cbv
    refine condI hA (fun hc => ?_) (fun hc => ?_)
    · have hja := ltL hA (natEq hi) (lenB ha) hc
      have hjb : j < b.length := hlen ▸ hja
      cbv
      refine chkI hA (by kernel_rfl) ?_
      cbv
      refine getBN hA ha (natEq hi) hja ?_
      rintro x hx
      cbv
      refine getBN hA hb (natEq hi) hjb ?_
      rintro y hy
      cbv
      refine condI hA (fun h2 => ?_) (fun h2 => ?_)
      · cbv
        refine retI hA ?_
        have : ¬ a = b := fun e => by
          subst e
          rw [hA, natEq hx, natEq hy] at h2
          exact absurd h2 (by simp [std])
        simp only [retOk, rsOk, retIds, idsD, idsDs, softOb, toV, Option.some.injEq, V.bool.injEq, and_true]
        exact (hcv.trans (beq_eq_false_iff_ne.2 this)).symm
      · have he : a[j]'hja = b[j]'hjb := by
          rw [hA, natEq hx, natEq hy] at h2
          have : (((a[j]'hja).toNat : Nat) : Int) = ((b[j]'hjb).toNat : Nat) := by simpa [std] using h2
          exact UInt8.toNat_inj.1 (by exact_mod_cast this)
        refine ⟨_, weakI rfl ⟨rfl, rfl, rfl, rfl, trivial⟩ trivial, ⟨j + 1, upI hA (natEq hi) (by omega), hja, take_step hja hjb ht he⟩, upM hA (natEq hi) hja hal⟩
    · have hja := geL hA (natEq hi) (lenB ha) hc hj
      cbv
      refine retI hA ?_
      have : a = b := by rw [hja] at ht; exact eq_of_take hlen ht
      simp only [retOk, rsOk, retIds, idsD, idsDs, softOb, toV, Option.some.injEq, V.bool.injEq, and_true]
      exact (hcv.trans (beq_iff_eq.2 this)).symm

theorem cEqualS (a b : List (List UInt8)) (la lb : List V) (ha : la = strsV a) (hb : lb = strsV b) (hal : a.length ≤ 140737488355328) : CallR Try.prog 50 [.slice la, .slice lb] fun rs => ∃ c, rs = [.v (.bool c)] ∧ c = (a == b) := by
  obtain ⟨c, hcv⟩ : ∃ c, c = (a == b) := ⟨_, rfl⟩
  refine .of _ ⟨c, rfl, hcv⟩ ?_
  refine FnR.of' T_ok M_ok (fn := Try.f50) (by kernel_rfl) rfl rfl rfl rfl (Nat.le_of_ble_eq_true rfl) fun A hA => ?_
  cbv
  refine condI hA (fun h1 => ?_) (fun h1 => ?_)
  · cbv
    refine retI hA ?_
    have : ¬ a = b := fun e => by
      rw [hA] at h1
      subst e; subst ha; subst hb
      exact absurd h1 (by simp [std])
    simp only [retOk, rsOk, retIds, idsD, idsDs, softOb, toV, Option.some.injEq, V.bool.injEq, and_true]
    exact (hcv.trans (beq_eq_false_iff_ne.2 this)).symm
  · have hlen : a.length = b.length := by
      have h : (A.ine (A.lenL la) (A.lenL lb)) = false := h1
      rw [hA, ha, hb] at h; simp only [std, strsV_len, bne_eq_false_iff_eq] at h
      exact_mod_cast h
    cbv
    refine loopF hA (ι := Int) (fun i => { n := 26, sl := [(0, .v (.slice la)), (1, .v (.slice lb)), (12, .v (.int .i64 (A.lenL la))), (13, .v (.int .i64 i))], ob := [] })
      (fun i => ∃ j : Nat, i = j ∧ j ≤ a.length ∧ a.take j = b.take j) (fun i => a.length - i.toNat) 0 (weakI rfl ⟨rfl, rfl, rfl, rfl, trivial⟩ trivial) ⟨0, rfl, Nat.zero_le _, by simp⟩ ?_
    rintro i ⟨j, hi, hj, ht⟩
    cbv
    refine condI hA (fun hc => ?_) (fun hc => ?_)
    · have hja := ltL hA (natEq hi) (lenS' ha) hc
      have hjb : j < b.length := hlen ▸ hja
      cbv
      refine chkI hA (by kernel_rfl) ?_
      cbv
      refine getSN hA ha (natEq hi) hja ?_
      rintro x hx
      cbv
      refine getSN hA hb (natEq hi) hjb ?_
      rintro y hy
      cbv
      refine condI hA (fun h2 => ?_) (fun h2 => ?_)
      · cbv
        refine retI hA ?_
        have : ¬ a = b := fun e => by
          subst e
          rw [hA, hx, hy] at h2
          exact absurd h2 (by simp [std])
        simp only [retOk, rsOk, retIds, idsD, idsDs, softOb, toV, Option.some.injEq, V.bool.injEq, and_true]
        exact (hcv.trans (beq_eq_false_iff_ne.2 this)).symm
      · have he : a[j]'hja = b[j]'hjb := by
          rw [hA, hx, hy] at h2
          simpa [std] using h2
        refine ⟨_, weakI rfl ⟨rfl, rfl, rfl, rfl, trivial⟩ trivial, ⟨j + 1, upI hA (natEq hi) (by omega), hja, take_step hja hjb ht he⟩, upM hA (natEq hi) hja hal⟩
    · have hja := geL hA (natEq hi) (lenS' ha) hc hj
      cbv
      refine retI hA ?_
      have : a = b := by rw [hja] at ht; exact eq_of_take hlen ht
      simp only [retOk, rsOk, retIds, idsD, idsDs, softOb, toV, Option.some.injEq, V.bool.injEq, and_true]
      exact (hcv.trans (beq_iff_eq.2 this)).symm

end Go.Proofs.Ythioccbgjkbmdaa.AM

/-
  Contracts: marks compared.
-/
set_option linter.unusedVariables false
set_option linter.unusedSimpArgs false
namespace Go.Proofs.Ythioccbgjkbmdaa.AM
open Go Go.RowKit
set_option maxRecDepth 100000
set_option maxHeartbeats 4000000

theorem run_part1 {t : Nat} (hk : isAggT (tyOf t).k = false) (hkn : known (tyOf t).k = true) (cs : Array Value) (off : Nat) (v : Value) (w : World) (h : cs[off]? = some v) : (part t cs off).run Try.prog w = .ok v w := by
  simp [part, ty_isAgg T_ok (known_ne' hkn), hk, h]
theorem eqMark (a1 a2 a3 a4 b1 b2 b3 b4 : Int) : EqOk Try.prog 27 [.int .i64 a1, .int .i64 a2, .int .u32 a3, .int .u32 a4] [.int .i64 b1, .int .i64 b2, .int .u32 b3, .int .u32 b4] (a1 == b1 && (a2 == b2 && (a3 == b3 && a4 == b4))) := by
  intro ok w u v hu hv
  obtain ⟨cs, rfl, h1, _, h2⟩ := rep_agg hu
  obtain ⟨ds, rfl, k1, _, k2⟩ := rep_agg hv
  match cs, h1, h2 with
  | [c1, c2, c3, c4], _, h2 =>
    match ds, k1, k2 with
    | [d1, d2, d3, d4], _, k2 =>
      have e1 := rep_int (h2 0 (by simp) (by simp))
      have e2 := rep_int (h2 1 (by simp) (by simp))
      have e3 := rep_int (h2 2 (by simp) (by simp))
      have e4 := rep_int (h2 3 (by simp) (by simp))
      have f1 := rep_int (k2 0 (by simp) (by simp))
      have f2 := rep_int (k2 1 (by simp) (by simp))
      have f3 := rep_int (k2 2 (by simp) (by simp))
      have f4 := rep_int (k2 3 (by simp) (by simp))
      simp only [List.getElem_cons_zero, List.getElem_cons_succ] at e1 e2 e3 e4 f1 f2 f3 f4
      subst e1 e2 e3 e4 f1 f2 f3 f4
      refine ⟨fun op x y => ?_, ?_⟩
      · have st : Try.prog.eqGuardType Try.prog.depth 27 = false := by kernel_rfl
        unfold eqGuard
        cases op <;> simp [program, Sem.run, st]
      · have h : ∀ d, (Op.equalIn (d + 2) 27 (.agg #[.int .i64 a1, .int .i64 a2, .int .u32 a3, .int .u32 a4]) (.agg #[.int .i64 b1, .int .i64 b2, .int .u32 b3, .int .u32 b4])).run Try.prog w = .ok (a1 == b1 && (a2 == b2 && (a3 == b3 && a4 == b4))) w := fun d => by
          have p := fun t hk hkn cs off v h => run_part1 (t := t) hk hkn cs off v w h
          have st : Try.prog.stoodInHeld 27 = false := by kernel_rfl
          simp [Op.equalIn, run_underlying Try.underlying27, st, run_underlying Try.underlying3, run_underlying Try.underlying25, p 3 rfl rfl, p 25 rfl rfl]
          by_cases q1 : a1 = b1 <;> by_cases q2 : a2 = b2 <;> by_cases q3 : a3 = b3 <;> by_cases q4 : a4 = b4 <;> simp [q1, q2, q3, q4]
        exact h 9998
end Go.Proofs.Ythioccbgjkbmdaa.AM

/-
  Contracts: records compared; numbers laid.
-/
set_option linter.unusedVariables false
set_option linter.unusedSimpArgs false
namespace Go.Proofs.Ythioccbgjkbmdaa.AM
open Go Go.RowKit
set_option maxRecDepth 100000
set_option maxHeartbeats 4000000

/-- A record. -/
structure RecM where
  k : Int
  path : List (List UInt8)
  sz : Int
  sm : Int
  mi : Int
  mo : Int
  si : Int
  so : Int
deriving DecidableEq
def sameM (a b : RecM) : Bool := a.k == b.k && (a.path == b.path && (a.sz == b.sz && (a.sm == b.sm && (a.mi == b.mi && (a.mo == b.mo && (a.si == b.si && a.so == b.so))))))
def recCells (k : Int) (l : List V) (sz sm mi mo si so : Int) : List V := [.int .u8 k, .slice l, .int .i64 sz, .int .u32 sm, .int .i64 mi, .int .i64 mo, .int .u32 si, .int .u32 so]
section
variable {A : Prim} {P : Program} {R : List (Nat × AObj) → List D → Prop} (hA : A = std P R)
include hA
theorem eqT {a b : Int} (h : A.ieq a b = true) : a = b := by subst hA; simpa [std] using h
theorem eqF {a b : Int} (h : A.ieq a b = false) : ¬ a = b := by subst hA; simpa [std] using h
end
end Go.Proofs.Ythioccbgjkbmdaa.AM

/-
  Contracts: records compared, II; four bytes.
-/
set_option linter.unusedVariables false
set_option linter.unusedSimpArgs false
namespace Go.Proofs.Ythioccbgjkbmdaa.AM
open Go Go.RowKit
set_option maxRecDepth 100000
set_option maxHeartbeats 4000000

theorem cSameR (a b : RecM) (la lb : List V) (ha : la = strsV a.path) (hb : lb = strsV b.path) (hal : a.path.length ≤ 140737488355328) : CallR Try.prog 15 [.agg [.int .u8 a.k, .slice la, .int .i64 a.sz, .int .u32 a.sm, .int .i64 a.mi, .int .i64 a.mo, .int .u32 a.si, .int .u32 a.so], .agg [.int .u8 b.k, .slice lb, .int .i64 b.sz, .int .u32 b.sm, .int .i64 b.mi, .int .i64 b.mo, .int .u32 b.si, .int .u32 b.so]] fun rs => ∃ c, rs = [.v (.bool c)] ∧ c = sameM a b := by
  obtain ⟨c, hcv⟩ : ∃ c, c = sameM a b := ⟨_, rfl⟩
  refine .of _ ⟨c, rfl, hcv⟩ ?_
  obtain ⟨k, p, sz, sm, mi, mo, si, so⟩ := a
  obtain ⟨k', p', sz', sm', mi', mo', si', so'⟩ := b
  dsimp only at *
  refine FnR.of' T_ok M_ok (fn := Try.f15) (by kernel_rfl) rfl rfl rfl rfl (Nat.le_of_ble_eq_true rfl) fun A hA => ?_
  cbv
  refine condI hA (fun h1 => ?_) (fun h1 => ?_)
  · replace h1 := eqT hA h1
    cbv
    refine callI hA (cEqualS p p' la lb ha hb hal) ?_
    intro rs_ h_
    obtain ⟨c2, q_1, hc2⟩ := h_
    subst q_1
    cbv
    refine condI hA (fun h2 => ?_) (fun h2 => ?_)
    · rw [h2] at hc2
      replace hc2 := beq_iff_eq.1 hc2.symm
      cbv
      refine condI hA (fun h3 => ?_) (fun h3 => ?_)
      · replace h3 := eqT hA h3
        cbv
        refine condI hA (fun h4 => ?_) (fun h4 => ?_)
        · replace h4 := eqT hA h4
          cbv
          refine eqAI hA _ (eqMark mi mo si so mi' mo' si' so') ?_
          obtain ⟨c3, hc3⟩ : ∃ c3, c3 = (mi == mi' && (mo == mo' && (si == si' && so == so'))) := ⟨_, rfl⟩
          rw [← hc3]
          cbv
          refine retI hA ?_
          simp only [retOk, rsOk, retIds, idsD, idsDs, softOb, toV, Option.some.injEq, V.bool.injEq, and_true]
          rw [hcv, hc3]
          simp [sameM, h1, hc2, h3, h4]
        · replace h4 := eqF hA h4
          cbv
          refine retI hA ?_
          simp only [retOk, rsOk, retIds, idsD, idsDs, softOb, toV, Option.some.injEq, V.bool.injEq, and_true]
          rw [hcv]; simp [sameM, h4]
      · replace h3 := eqF hA h3
        cbv
        refine retI hA ?_
        simp only [retOk, rsOk, retIds, idsD, idsDs, softOb, toV, Option.some.injEq, V.bool.injEq, and_true]
        rw [hcv]; simp [sameM, h3]
    · rw [h2] at hc2
      replace hc2 := beq_eq_false_iff_ne.1 hc2.symm
      cbv
      refine retI hA ?_
      simp only [retOk, rsOk, retIds, idsD, idsDs, softOb, toV, Option.some.injEq, V.bool.injEq, and_true]
      rw [hcv]; simp [sameM, hc2]
  · replace h1 := eqF hA h1
    cbv
    refine retI hA ?_
    simp only [retOk, rsOk, retIds, idsD, idsDs, softOb, toV, Option.some.injEq, V.bool.injEq, and_true]
    rw [hcv]; simp [sameM, h1]


/-- Four bytes of a number. -/
def fourB (n : Nat) : List UInt8 := [UInt8.ofNat (n / 16777216 % 256), UInt8.ofNat (n / 65536 % 256), UInt8.ofNat (n / 256 % 256), UInt8.ofNat (n % 256)]
theorem shr_u32_k (a k : Nat) (hk : k ≤ 32) : Int.fdiv (a : Int) (2 ^ (min (Int.toNat (k : Int)) IntKind.u32.bits)) = ((a / 2 ^ k : Nat) : Int) := by
  have h : min (Int.toNat (k : Int)) IntKind.u32.bits = k := by
    have : IntKind.u32.bits = 32 := rfl
    rw [this, Int.toNat_natCast]; omega
  rw [h, Int.fdiv_eq_ediv_of_nonneg _ (Int.pow_nonneg (by omega))]
  rw [show ((2 : Int) ^ k) = ((2 ^ k : Nat) : Int) from by simp]
  rfl
theorem keyFour {v : Int} {n : Nat} {l : List V} (hv : v = n) (hl : l = bytesV (fourB n)) {A : Prim} {R : List (Nat × AObj) → List D → Prop} (hA : A = std Try.prog R) : [V.int .u8 (A.wrap .u8 (A.shr .u32 v 24)), .int .u8 (A.wrap .u8 (A.shr .u32 v 16)), .int .u8 (A.wrap .u8 (A.shr .u32 v 8)), .int .u8 (A.wrap .u8 v)] = l := by
  rw [hA, hl, hv]
  simp only [std]
  rw [show (24 : Int) = ((24 : Nat) : Int) from rfl, show (16 : Int) = ((16 : Nat) : Int) from rfl, show (8 : Int) = ((8 : Nat) : Int) from rfl, shr_u32_k n 24 (by omega), shr_u32_k n 16 (by omega), shr_u32_k n 8 (by omega), wrap_u8, wrap_u8, wrap_u8, wrap_u8]
  rw [byteV (x := _) (n := n / 2 ^ 24) rfl, byteV (x := _) (n := n / 2 ^ 16) rfl, byteV (x := _) (n := n / 2 ^ 8) rfl, byteV (x := _) (n := n) rfl]
  rfl
theorem cFour (v : Int) (n : Nat) (hv : v = n) : CallR Try.prog 72 [.int .u32 v] fun rs => ∃ l, rs = [.o 1 l] ∧ l = bytesV (fourB n) := by
  obtain ⟨l, hl⟩ : ∃ l, l = bytesV (fourB n) := ⟨_, rfl⟩
  refine .of [.o 1 l] ⟨l, rfl, hl⟩ ?_
  refine FnR.of' T_ok M_ok (fn := Try.f72) (by kernel_rfl) rfl rfl rfl rfl (Nat.le_of_ble_eq_true rfl) fun A hA => ?_
  cbv
  refine nnegI hA (by decide) ?_
  cbv
  refine nnegI hA (by decide) ?_
  cbv
  refine nnegI hA (by decide) ?_
  cbv
  refine retI hA ?_
  exact ⟨rfl, congrArg (fun q => some (AObj.row 1 q true)) (keyFour hv hl hA), trivial⟩
end Go.Proofs.Ythioccbgjkbmdaa.AM
