/-
  A disk with its sizes: all calls.
-/
import Derived.Test.YthioccbgjkbmdaaM225dfcc846
import Derived.Test.YthioccbgjkbmdaaM17754d1613
import Derived.Shelf.Spec.SlicesGrow
set_option linter.unusedVariables false
set_option linter.unusedSimpArgs false
namespace Go.Proofs.Ythioccbgjkbmdaa.AM
open Go Go.RowKit
set_option maxRecDepth 100000
set_option maxHeartbeats 4000000

structure DI (gh : GH) (lab : Lab) (p : Nat) (k : Dk) (B : Nat) : Prop where
  i : DkIn gh lab p k
  ok : PkOk k B
  cap : w64 k.cap = k.cap
theorem DI.mono {gh : GH} {lab : Lab} {p : Nat} {k : Dk} {B B' : Nat} (h : DI gh lab p k B) (hB : B ≤ B') : DI gh lab p k B' := ⟨h.i, h.ok.mono hB, h.cap⟩
/-- What a call leaves of a disk. -/
def Did (gh : GH) (lab : Lab) (p : Nat) (k : Dk) (B : Nat) (g : GH) : Prop := ∃ lab', Upd gh g lab lab' (fun _ => True) (fun _ => False) ∧ DI g lab' p k B
/-- What does not belong to the disk stays. -/
structure Side (gh : GH) (lab : Lab) (x : Nat) (o : GObj) : Prop where
  at_ : gh.get x = some o
  no : lab x = none
  lt : x < gh.next
theorem Side.upd {gh g : GH} {lab lab' : Lab} {x : Nat} {o : GObj} {T : Nat × Nat → Prop} (h : Side gh lab x o) (u : Upd gh g lab lab' T (fun _ => False)) : Side g lab' x o :=
  ⟨(u.get x h.lt (fun q => q) (fun r e => by rw [h.no] at e; cases e)).trans h.at_, (u.old x h.lt).trans h.no, Nat.lt_of_lt_of_le h.lt u.next⟩
theorem PkOk.sz' {k : Dk} {B : Nat} (h : PkOk k B) (hB : B ≤ 1000000000) : ∀ nd ∈ k.nodes, nd.seen.b.length ≤ 140737488355328 := fun nd hn => by
  have h1 := h.sz nd hn
  have h2 := seen_len nd
  omega
theorem op_cap (k : Dk) (c : Bool) (i : Int) (f : Nd → Nd) : (k.op c i f).cap = k.cap := by
  unfold Dk.op; split
  · split <;> rfl
  · rfl
theorem cap_app (k : Dk) (i : Int) (b : Bs) : (k.appD i b).1.cap = k.cap := by
  unfold Dk.appD; dsimp only
  split
  · rfl
  · split
    · rfl
    · split
      · rfl
      · exact op_cap _ _ _ _
theorem cap_sync (k : Dk) (i : Int) : (k.syncD i).1.cap = k.cap := by
  unfold Dk.syncD; split
  · rfl
  · exact op_cap _ _ _ _
theorem cap_cut (k : Dk) (i n : Int) : (k.cutD i n).1.cap = k.cap := by
  unfold Dk.cutD; split
  · rfl
  · split
    · split
      · rfl
      · exact op_cap _ _ _ _
    · rfl
theorem cap_unl (k : Dk) (i : Int) (s : Bs) : (k.unlD i s).1.cap = k.cap := by
  unfold Dk.unlD; split
  · rfl
  · split
    · split
      · rfl
      · exact op_cap _ _ _ _
    · rfl
theorem cap_make (k : Dk) (i : Int) (s : Bs) (d : Bool) : (k.makeD i s d).1.cap = k.cap := by
  unfold Dk.makeD; dsimp only
  split
  · rfl
  · split
    · rfl
    · split
      · rfl
      · split
        · rfl
        · split
          · rfl
          · split
            · rfl
            · dsimp only; split <;> rfl
section
variable {gh : GH} {lab : Lab} {p : Nat} {k : Dk} {B : Nat} (h : DI gh lab p k B)
include h
theorem dFind (i : Int) (hi : I64 i) (s : Bs) : FnG Try.prog 13 [.gp p 0, .int .i64 i, .str s] gh fun rs g => ∃ j e : Int, rs = [.v (.int .i64 j), .v (.int .i64 e)] ∧ j = (k.findE i s).1 ∧ e = (k.findE i s).2 ∧ gh = g := gFind h.i i hi s
theorem dRead (hB : B ≤ 1000000000) (i a n : Int) (hi : I64 i) (ha : I64 a) (hn : I64 n) : FnG Try.prog 28 [.gp p 0, .int .i64 i, .int .i64 a, .int .i64 n] gh fun rs g => ∃ (r : List V) (e : Int), rs = [.v (.slice r), .v (.int .i64 e)] ∧ r = bytesV (k.readM i a n).1 ∧ e = (k.readM i a n).2 ∧ gh = g := gRead h.i i a n hi ha hn (h.ok.sz' hB)
theorem dAppend (i : Int) (hi : I64 i) (b : Bs) (l : List V) (hl : l = bytesV b) (hB : B + b.length ≤ 1000000000) : FnG Try.prog 14 [.gp p 0, .int .i64 i, .slice l] gh fun rs g => ∃ e : Int, rs = [.v (.int .i64 e)] ∧ e = (k.appD i b).2 ∧ Did gh lab p (k.appD i b).1 (B + b.length) g :=
  (gAppend h.i h.ok i hi b l hl hB h.cap).mono fun rs g ⟨e, lab', q1, q2, q3, q4, q5⟩ => ⟨e, q1, q2, lab', q3, q4, q5, by rw [cap_app]; exact h.cap⟩
theorem dSync (hB : B ≤ 1000000000) (i : Int) (hi : I64 i) : FnG Try.prog 34 [.gp p 0, .int .i64 i] gh fun rs g => ∃ e : Int, rs = [.v (.int .i64 e)] ∧ e = (k.syncD i).2 ∧ Did gh lab p (k.syncD i).1 B g :=
  (gSync h.i h.ok hB i hi).mono fun rs g ⟨e, lab', q1, q2, q3, q4, q5⟩ => ⟨e, q1, q2, lab', q3, q4, q5, by rw [cap_sync]; exact h.cap⟩
theorem dCut (hB : B ≤ 1000000000) (i : Int) (hi : I64 i) (n : Int) : FnG Try.prog 32 [.gp p 0, .int .i64 i, .int .i64 n] gh fun rs g => ∃ e : Int, rs = [.v (.int .i64 e)] ∧ e = (k.cutD i n).2 ∧ Did gh lab p (k.cutD i n).1 (B + 1) g :=
  (gCut h.i h.ok hB i hi n).mono fun rs g ⟨e, lab', q1, q2, q3, q4, q5⟩ => ⟨e, q1, q2, lab', q3, q4, q5, by rw [cap_cut]; exact h.cap⟩
theorem dUnl (hB : B ≤ 1000000000) (i : Int) (hi : I64 i) (s : Bs) : FnG Try.prog 53 [.gp p 0, .int .i64 i, .str s] gh fun rs g => ∃ e : Int, rs = [.v (.int .i64 e)] ∧ e = (k.unlD i s).2 ∧ Did gh lab p (k.unlD i s).1 (B + 1) g :=
  (gUnl h.i h.ok hB i hi s).mono fun rs g ⟨e, lab', q1, q2, q3, q4, q5⟩ => ⟨e, q1, q2, lab', q3, q4, q5, by rw [cap_unl]; exact h.cap⟩
theorem dCreate (hB : B ≤ 1000000000) (i : Int) (hi : I64 i) (s : Bs) : FnG Try.prog 75 [.gp p 0, .int .i64 i, .str s] gh fun rs g => ∃ n e : Int, rs = [.v (.int .i64 n), .v (.int .i64 e)] ∧ n = (k.makeD i s false).2.1 ∧ e = (k.makeD i s false).2.2 ∧ Did gh lab p (k.makeD i s false).1 (B + 1) g :=
  (gCreate h.i h.ok hB i hi s).mono fun rs g ⟨n, e, lab', q1, q2, q2', q3, q4, q5⟩ => ⟨n, e, q1, q2, q2', lab', q3, q4, q5, by rw [cap_make]; exact h.cap⟩
end
theorem crashL_get : ∀ (l : List Nd) (keep : Bs) (i : Nat) (x : Nd), (crashL l keep)[i]? = some x → ∃ nd m, l[i]? = some nd ∧ m ≤ nd.parts ∧ x = nd.crash m
  | [], _, i, x, h => by simp [crashL] at h
  | nd :: r, keep, 0, x, h => ⟨nd, _, rfl, keepN_le nd keep, by simp [crashL] at h; exact h.symm⟩
  | nd :: r, keep, i + 1, x, h => by
    simp only [crashL, List.getElem?_cons_succ] at h
    obtain ⟨n, m, h1, h2, h3⟩ := crashL_get r _ i x h
    exact ⟨n, m, by simpa using h1, h2, h3⟩
theorem PkOk.crash {k : Dk} {B : Nat} (h : PkOk k B) (keep : Bs) : PkOk (k.crash keep) B := by
  have hl : (k.crash keep).nodes.length = k.nodes.length := crashL_len _ _
  have hg : ∀ (i : Nat) (x : Nd), (k.crash keep).nodes[i]? = some x → ∃ nd m, k.nodes[i]? = some nd ∧ m ≤ nd.parts ∧ x = nd.crash m := fun i x q => crashL_get _ _ i x q
  refine ⟨by rw [hl]; exact h.one, by rw [hl]; exact h.most, fun x hx => ?_, fun x hx => ?_, ?_, fun i x hx => ?_⟩
  · obtain ⟨i, hi⟩ := List.mem_iff_getElem?.1 hx
    obtain ⟨nd, m, h1, h2, rfl⟩ := hg i x hi
    trivial
  · obtain ⟨i, hi⟩ := List.mem_iff_getElem?.1 hx
    obtain ⟨nd, m, h1, h2, rfl⟩ := hg i x hi
    have q1 := h.sz nd (List.mem_of_getElem? h1)
    have q2 := runs_len nd.loose nd.safe m
    simp only [Nd.crash, Nd.parts, List.map_nil, List.sum_nil] at *; omega
  · obtain ⟨r, hr, hd⟩ := h.root
    have h0 : 0 < (k.crash keep).nodes.length := by rw [hl]; exact h.one
    obtain ⟨x, hx⟩ : ∃ x, (k.crash keep).nodes[0]? = some x := ⟨_, List.getElem?_eq_getElem h0⟩
    obtain ⟨nd, m, h1, h2, rfl⟩ := hg 0 x hx
    rw [hr] at h1; cases h1
    exact ⟨_, hx, hd⟩
  · obtain ⟨nd, m, h1, h2, rfl⟩ := hg i x hx
    rw [hl]
    obtain ⟨q1, q2⟩ := h.en i nd h1
    exact ⟨runs_en (P := fun j => i + 1 < j ∧ j ≤ k.nodes.length) m (h.ls nd (List.mem_of_getElem? h1)) q1 (fun t j q => q2 t j q), fun t j q => by simp [Nd.crash] at q⟩
theorem dCrash {gh : GH} {lab : Lab} {p : Nat} {k : Dk} {B : Nat} (h : DI gh lab p k B) (hB : B ≤ 1000000000) (keep : Bs) (l : List V) (hl : l = bytesV keep) (hkl : keep.length ≤ 140737488355328) : FnG Try.prog 19 [.gp p 0, .slice l] gh fun rs g => rs = [] ∧ Did gh lab p (k.crash keep) B g :=
  (gCrash h.i (fun nd hn => ⟨h.ok.ls nd hn, Nat.le_trans (h.ok.sz nd hn) hB⟩) (Nat.le_trans h.ok.most (by decide)) keep l hl hkl).mono fun rs g ⟨q1, lab', q2, q3⟩ => ⟨q1, lab', q2, q3, h.ok.crash keep, h.cap⟩
theorem PkOk.new (c : Int) : PkOk (dkNew c) 0 := ⟨Nat.le_refl _, Nat.le_of_ble_eq_true rfl, fun x hx => by simp [dkNew] at hx; subst hx; trivial, fun x hx => by simp [dkNew] at hx; subst hx; simp [nd0, Nd.parts], ⟨nd0 true, rfl, rfl⟩, fun i x hx => by
  cases i with
  | zero => simp [dkNew] at hx; subst hx; exact ⟨fun e he => by simp [nd0] at he, fun t j q => by simp [nd0] at q⟩
  | succ i => simp [dkNew] at hx⟩
/-- A new disk, beside what there is. -/
theorem dNew (gh : GH) (c : Int) (hc : 0 ≤ c) (hc2 : c ≤ 9223372036854775807) : FnG Try.prog 9 [.int .i64 c] gh fun rs g => ∃ (p : Nat) (lab' : Lab), rs = [.v (.gp p 0)] ∧ gh.next ≤ p ∧ gh.next ≤ g.next ∧ (∀ x, x < gh.next → lab' x = none ∧ g.get x = gh.get x) ∧ DI g lab' p (dkNew c) 0 :=
  (gNew gh lab0 (fun _ _ => rfl) (fun _ e => nomatch e) c hc).mono fun rs g ⟨p, lab', q1, q2, q3, q4⟩ => ⟨p, lab', q1, q2, q3.next, fun x hx => ⟨(q3.old x hx).trans rfl, q3.get x hx (fun h => h) (fun r e => nomatch e)⟩, q4, PkOk.new c, w64_id (by show -9223372036854775808 ≤ c ∧ c ≤ _; omega)⟩
def Dk.failD (k : Dk) (n : Int) (done : Bool) : Dk × Int := if k.down then (k, 12) else if n < 0 then (k, 2) else ({ k with fail := ⟨true, n⟩, done := done }, 0)
theorem dFail {gh : GH} {lab : Lab} {p : Nat} {k : Dk} {B : Nat} (h : DI gh lab p k B) (n : Int) (d : Bool) : FnG Try.prog 20 [.gp p 0, .int .i64 n, .bool d] gh fun rs g => ∃ e : Int, rs = [.v (.int .i64 e)] ∧ e = (k.failD n d).2 ∧ Did gh lab p (k.failD n d).1 B g := by
  obtain ⟨v, ids, hX⟩ := h.i.at_.x
  have hbox := hX.box
  have hup := gUp gh p v k hbox
  have htl := gTell (d := .gp p 0) (o := 6) hbox (by simp) n k.fail.is k.fail.after rfl rfl
  have stay : ∀ e, k.failD n d = (k, e) → ∃ e' : Int, [Rs.v (.int .i64 e)] = [.v (.int .i64 e')] ∧ e' = (k.failD n d).2 ∧ Did gh lab p (k.failD n d).1 B gh := fun e q => ⟨e, rfl, by rw [q], lab, Upd.refl hX.dom _ _, by rw [q]; exact h⟩
  refine FnG.of' T_ok M_ok [] (fn := Try.f20) (by kernel_rfl) rfl rfl rfl rfl (Nat.le_of_ble_eq_true rfl) fun A hA => ?_
  cbv
  refine callGI hA (hup) ?_
  intro rs_ g_ h_
  obtain ⟨e, q_1, he, q_2⟩ := h_
  subst q_1
  subst q_2
  cbv
  refine condI hA (fun h1 => ?_) (fun h1 => ?_)
  · have h1 := zneT hA h1
    have hd : k.down = true := by
      cases q : k.down with
      | true => rfl
      | false => exact absurd (he.trans (by unfold upE; rw [q]; rfl)) h1
    have he : e = 12 := he.trans (by unfold upE; rw [hd]; rfl)
    cbv
    exact retGI hA rfl [.v (.int .i64 e)] gh (stay e (by unfold Dk.failD; rw [if_pos hd, he])) (by first | exact ⟨rfl, trivial⟩ | exact ⟨rfl, rfl, trivial⟩ | exact ⟨rfl, rfl, rfl, trivial⟩ | trivial)
  · have h1 := zneF hA h1
    have hd : ¬ k.down = true := fun q => by rw [he] at h1; unfold upE at h1; rw [q] at h1; cases h1
    cbv
    refine callGI hA (htl) ?_
    intro rs_ g1 h_
    obtain ⟨e1, q_1, he1, hg1⟩ := h_
    subst q_1
    cbv
    have hE : n < 0 → k.failD n d = (k, 2) := fun q => by unfold Dk.failD; rw [if_neg hd, if_pos q]
    have hF : ¬ n < 0 → k.failD n d = ({ k with fail := ⟨true, n⟩, done := d }, 0) := fun q => by unfold Dk.failD; rw [if_neg hd, if_neg q]
    refine condI hA (fun h2 => ?_) (fun h2 => ?_)
    · have h2 : e1 = 0 := zeqT hA h2
      have hn : ¬ n < 0 := fun q => by rw [if_pos q] at he1; rw [h2] at he1; cases he1
      rw [if_neg hn] at hg1
      have b1 : g1.get p = some (boxD v { k with fail := ⟨true, n⟩ }) := by rw [hg1]; simp; rfl
      cbv
      refine gstI hA _ b1 ?_
      intro g2 hg2
      have hg2 : g2 = gh.set p (boxD v { k with fail := ⟨true, n⟩, done := d }) := by rw [hg2, hg1, set_set]; rfl
      obtain ⟨hX2, u2⟩ := hX.cells (k' := { k with fail := ⟨true, n⟩, done := d }) hg2 rfl
      cbv
      exact retGI hA rfl [.v (.int .i64 e1)] g2 (⟨e1, rfl, by rw [hF hn]; exact h2, lab, u2.weak (fun _ _ => trivial) (fun _ h => h.elim), by rw [hF hn]; exact ⟨⟨hX2.at, h.i.one⟩, h.ok.same rfl, h.cap⟩⟩) (by first | exact ⟨rfl, trivial⟩ | exact ⟨rfl, rfl, trivial⟩ | exact ⟨rfl, rfl, rfl, trivial⟩ | trivial)
    · have h2 : e1 ≠ 0 := zeqF hA h2
      have hn : n < 0 := Classical.byContradiction fun q => by rw [if_neg q] at he1; exact h2 he1
      rw [if_pos hn] at hg1 he1
      subst hg1
      cbv
      exact retGI hA rfl [.v (.int .i64 e1)] g1 (stay e1 (by rw [hE hn, he1])) (by first | exact ⟨rfl, trivial⟩ | exact ⟨rfl, rfl, trivial⟩ | exact ⟨rfl, rfl, rfl, trivial⟩ | trivial)
end Go.Proofs.Ythioccbgjkbmdaa.AM

/-
  Contracts: numbers read.
-/
set_option linter.unusedVariables false
set_option linter.unusedSimpArgs false
namespace Go.Proofs.Ythioccbgjkbmdaa.AM
open Go Go.RowKit
set_option maxRecDepth 100000
set_option maxHeartbeats 4000000

def beN (b : List UInt8) : Nat := b.foldl (fun n c => n * 256 + c.toNat) 0
def numberM (b : List UInt8) : Option Nat := if 8 < b.length ∨ b.head? = some 0 then none else some (beN b)
def numberN (b : List UInt8) : Nat := match numberM b with
  | some n => n
  | none => 0
def numberE (b : List UInt8) : Int := match numberM b with
  | some _ => 0
  | none => 4
theorem beN_take {b : List UInt8} {j : Nat} (h : j < b.length) : beN (b.take (j + 1)) = beN (b.take j) * 256 + (b[j]).toNat := by
  unfold beN; rw [List.take_succ_eq_append_getElem h, List.foldl_append]; rfl
theorem beN_lt' : ∀ (b : List UInt8) (n : Nat), b.foldl (fun n c => n * 256 + c.toNat) n < (n + 1) * 256 ^ b.length
  | [], n => by simp
  | c :: b, n => by
    have h := beN_lt' b (n * 256 + c.toNat)
    have c8 := c.toNat_lt
    rw [List.foldl_cons, List.length_cons, Nat.pow_succ, Nat.mul_comm (256 ^ b.length) 256, ← Nat.mul_assoc]
    exact Nat.lt_of_lt_of_le h (Nat.mul_le_mul_right _ (by omega))
theorem beN_lt (b : List UInt8) : beN b < 256 ^ b.length := by have := beN_lt' b 0; simpa [beN] using this
theorem beN_ge {b : List UInt8} {j : Nat} (hj : j < b.length) (h : b.head? ≠ some 0) : 256 ^ j ≤ beN (b.take (j + 1)) := by
  induction j with
  | zero =>
    rw [beN_take hj]
    have h0 : b[0] ≠ 0 := fun e => h (by rw [List.head?_eq_getElem?, List.getElem?_eq_getElem hj, e])
    have : b[0].toNat ≠ 0 := fun e => h0 (UInt8.toNat_inj.1 (by simpa using e))
    simp [beN]; omega
  | succ j ih =>
    have := ih (by omega)
    rw [beN_take hj, Nat.pow_succ]
    omega
theorem number_bad {b : List UInt8} (h : 8 < b.length ∨ b.head? = some 0) : numberN b = 0 ∧ numberE b = 4 := by
  have : numberM b = none := if_pos h
  simp [numberN, numberE, this]
theorem number_good {b : List UInt8} (h : ¬ (8 < b.length ∨ b.head? = some 0)) : numberN b = beN b ∧ numberE b = 0 := by
  have : numberM b = some (beN b) := if_neg h
  simp [numberN, numberE, this]
theorem bits_or_u64_nat (a b : Nat) (ha : a < 18446744073709551616) (hb : b < 18446744073709551616) : bits .or .u64 (a : Int) (b : Int) = ((a ||| b : Nat) : Int) := by
  have hx : a ||| b < 2 ^ 64 := Nat.or_lt_two_pow (by omega) (by omega)
  have h1 : (BitVec.ofInt 64 (a : Int)).toNat = a := by
    rw [BitVec.ofInt_natCast, BitVec.toNat_ofNat]; exact Nat.mod_eq_of_lt (by omega)
  have h2 : (BitVec.ofInt 64 (b : Int)).toNat = b := by
    rw [BitVec.ofInt_natCast, BitVec.toNat_ofNat]; exact Nat.mod_eq_of_lt (by omega)
  show IntKind.u64.wrap ((BitVec.ofInt 64 (a : Int) ||| BitVec.ofInt 64 (b : Int)).toNat : Int) = _
  rw [BitVec.toNat_or, h1, h2]
  exact wrap_u64n (by omega)
section
variable {A : Prim} {P : Program} {R : List (Nat × AObj) → List D → Prop} (hA : A = std P R)
include hA
theorem acc64 {n m : Int} {x y : Nat} (hn : n = x) (hm : m = y) (hx : x < 72057594037927936) (hy : y < 256) : A.bits .or .u64 (A.shl .u64 n 8) (A.wrap .u64 m) = ((x * 256 + y : Nat) : Int) := by
  rw [hA, hn, hm]; simp only [std]
  have e2 : (2 : Int) ^ (min (Int.toNat 8) IntKind.u64.bits) = 256 := by decide
  rw [e2, show (x : Int) * 256 = ((x * 256 : Nat) : Int) from by simp, wrap_u64n (by omega), wrap_u64n (by omega), bits_or_u64_nat _ _ (by omega) (by omega), or_256 _ _ hy]
theorem shr56T {n : Int} {x : Nat} (hn : n = x) (h : A.ine (A.shr .u64 n 56) 0 = true) : 72057594037927936 ≤ x := by
  rw [hA, hn] at h; simp only [std] at h
  have e2 : (2 : Int) ^ (min (Int.toNat 56) IntKind.u64.bits) = ((72057594037927936 : Nat) : Int) := by decide
  rw [e2, Int.fdiv_eq_ediv_of_nonneg _ (by omega)] at h
  have h2 : ((x : Int) / ((72057594037927936 : Nat) : Int)) ≠ 0 := by simpa using h
  omega
theorem shr56F {n : Int} {x : Nat} (hn : n = x) (h : A.ine (A.shr .u64 n 56) 0 = false) : x < 72057594037927936 := by
  rw [hA, hn] at h; simp only [std] at h
  have e2 : (2 : Int) ^ (min (Int.toNat 56) IntKind.u64.bits) = ((72057594037927936 : Nat) : Int) := by decide
  rw [e2, Int.fdiv_eq_ediv_of_nonneg _ (by omega)] at h
  have h2 : ((x : Int) / ((72057594037927936 : Nat) : Int)) = 0 := by simpa using h
  omega
theorem eq0T {n : Int} {x : Nat} (hn : n = x) (h : A.ieq n 0 = true) : x = 0 := by have := eqT hA h; omega
theorem eq0F {n : Int} {x : Nat} (hn : n = x) (h : A.ieq n 0 = false) : x ≠ 0 := by have := eqF hA h; omega
end
theorem pow56 {j n : Nat} (h : n < 256 ^ j) (hn : 72057594037927936 ≤ n) : 8 ≤ j := by
  refine Nat.le_of_not_lt fun hj => ?_
  have : 256 ^ j ≤ 256 ^ 7 := Nat.pow_le_pow_right (by decide) (by omega)
  have e : (256 : Nat) ^ 7 = 72057594037927936 := by decide
  omega
theorem cNumber (b : List UInt8) (l : List V) (hl : l = bytesV b) (hb : b.length ≤ 140737488355328) : CallR Try.prog 83 [.slice l] fun rs => ∃ (v e : Int), rs = [.v (.int .u64 v), .v (.int .i64 e)] ∧ v = (numberN b : Nat) ∧ e = numberE b := by
  obtain ⟨v, hv⟩ : ∃ v : Int, v = (numberN b : Nat) := ⟨_, rfl⟩
  obtain ⟨e, he⟩ : ∃ e, e = numberE b := ⟨_, rfl⟩
  refine .of [.v (.int .u64 v), .v (.int .i64 e)] ⟨v, e, rfl, hv, he⟩ ?_
  refine FnR.of' T_ok M_ok (fn := Try.f83) (by kernel_rfl) rfl rfl rfl rfl (Nat.le_of_ble_eq_true rfl) fun A hA => ?_
  cbv
  have bad : 8 < b.length ∨ b.head? = some 0 → (0 : Int) = v ∧ (4 : Int) = e := fun h => by
    rw [hv, he, (number_bad h).1, (number_bad h).2]; exact ⟨rfl, rfl⟩
  refine loopF hA (ι := Int × Int) (fun p => { n := 31, sl := [(4, .v (.int .u64 p.2)), (7, .v (.slice l)), (8, .v (.int .i64 (A.lenL l))), (9, .v (.int .i64 p.1))], ob := [] })
    (fun p => ∃ j : Nat, p.1 = j ∧ j ≤ b.length ∧ p.2 = (beN (b.take j) : Nat) ∧ (0 < j → b.head? ≠ some 0) ∧ j ≤ 8) (fun p => b.length - p.1.toNat) (_, _) (weakI rfl ⟨rfl, rfl, rfl, rfl, trivial⟩ trivial) ⟨0, rfl, Nat.zero_le _, rfl, by simp, by simp⟩ ?_
  rintro ⟨i, n⟩ ⟨j, hi, hj, hn, hd, h8⟩
  dsimp only at hi hn
  cbv
  refine condI hA (fun hc => ?_) (fun hc => ?_)
  · have hjl := ltL hA (natEq hi) (lenB hl) hc
    have hlt : beN (b.take j) < 256 ^ j := by have := beN_lt (b.take j); rwa [List.length_take, Nat.min_eq_left (by omega)] at this
    cbv
    refine getBN hA hl (natEq hi) hjl ?_
    rintro c hcv
    cbv
    have c8 : (b[j]'hjl).toNat < 256 := (b[j]'hjl).toNat_lt
    refine condI hA (fun g1 => ?_) (fun g1 => ?_)
    · have g1 := eq0T hA (natEq hn) g1
      have j0 : j = 0 := by
        rcases Nat.eq_zero_or_pos j with h | h
        · exact h
        · have := beN_ge (b := b) (j := j - 1) (by omega) (hd h)
          rw [show j - 1 + 1 = j from by omega, g1] at this
          have := Nat.pow_pos (n := j - 1) (show 0 < 256 from by decide)
          omega
      cbv
      refine condI hA (fun g2 => ?_) (fun g2 => ?_)
      · have g2 := eq0T hA (natEq hcv) g2
        have q := bad (.inr (by
          subst j0
          rw [List.head?_eq_getElem?, List.getElem?_eq_getElem hjl]
          exact congrArg some (UInt8.toNat_inj.1 g2)))
        cbv
        refine retI hA ?_
        exact ⟨congrArg (fun q => some (V.int .u64 q)) q.1, congrArg (fun q => some (V.int .i64 q)) q.2, trivial⟩
      · have g2 := eq0F hA (natEq hcv) g2
        cbv
        refine nnegI hA (by decide) ?_
        cbv
        refine condI hA (fun g3 => ?_) (fun g3 => ?_)
        · have g3 := shr56T hA (natEq hn) g3
          rw [g1] at g3; omega
        · have g3 := shr56F hA (natEq hn) g3
          cbv
          refine nnegI hA (by decide) ?_
          cbv
          refine ⟨(_, _), weakI rfl ⟨rfl, rfl, rfl, rfl, trivial⟩ trivial, ⟨j + 1, upI hA (natEq hi) (by omega), hjl, (acc64 hA (natEq hn) (natEq hcv) g3 c8).trans (congrArg Nat.cast (beN_take hjl).symm), fun _ h => ?_, by omega⟩, upM hA (natEq hi) hjl hb⟩
          subst j0
          rw [List.head?_eq_getElem?, List.getElem?_eq_getElem hjl] at h
          exact g2 (congrArg UInt8.toNat (Option.some.inj h))
    · have g1 := eq0F hA (natEq hn) g1
      have j0 : 0 < j := by
        rcases Nat.eq_zero_or_pos j with h | h
        · subst h; exact absurd rfl g1
        · exact h
      cbv
      refine nnegI hA (by decide) ?_
      cbv
      refine condI hA (fun g3 => ?_) (fun g3 => ?_)
      · have g3 := shr56T hA (natEq hn) g3
        have := pow56 hlt g3
        have q := bad (.inl (by omega))
        cbv
        refine retI hA ?_
        exact ⟨congrArg (fun q => some (V.int .u64 q)) q.1, congrArg (fun q => some (V.int .i64 q)) q.2, trivial⟩
      · have g3 := shr56F hA (natEq hn) g3
        have hj8 : j < 8 := Nat.lt_of_not_le fun h => by
          have h1 := beN_ge (b := b) (j := j - 1) (by omega) (hd j0)
          rw [show j - 1 + 1 = j from by omega] at h1
          have h2 : 256 ^ 7 ≤ 256 ^ (j - 1) := Nat.pow_le_pow_right (by decide) (by omega)
          have e : (256 : Nat) ^ 7 = 72057594037927936 := by decide
          omega
        cbv
        refine nnegI hA (by decide) ?_
        cbv
        exact ⟨(_, _), weakI rfl ⟨rfl, rfl, rfl, rfl, trivial⟩ trivial, ⟨j + 1, upI hA (natEq hi) (by omega), hjl, (acc64 hA (natEq hn) (natEq hcv) g3 c8).trans (congrArg Nat.cast (beN_take hjl).symm), fun _ => hd j0, by omega⟩, upM hA (natEq hi) hjl hb⟩
  · have hjl := geL hA (natEq hi) (lenB hl) hc hj
    cbv
    subst hjl
    rw [List.take_length] at hn
    have q := number_good (b := b) fun h => by
      rcases h with h | h
      · omega
      · rcases Nat.eq_zero_or_pos b.length with h0 | h0
        · rw [List.length_eq_zero_iff.1 h0] at h; cases h
        · exact hd h0 h
    refine retI hA ?_
    refine ⟨congrArg (fun q => some (V.int .u64 q)) ?_, congrArg (fun q => some (V.int .i64 q)) ?_, trivial⟩
    · rw [natEq hn, hv, q.1]
    · rw [he, q.2]
end Go.Proofs.Ythioccbgjkbmdaa.AM

/-
  Contracts: numbers read; fields.
-/
set_option linter.unusedVariables false
set_option linter.unusedSimpArgs false
namespace Go.Proofs.Ythioccbgjkbmdaa.AM
open Go Go.RowKit
set_option maxRecDepth 100000
set_option maxHeartbeats 4000000

theorem unpackM_len : ∀ (b : List UInt8) fs, unpackM b = some fs → fs.length ≤ b.length
  | [], fs, h => by rw [unpackM] at h; cases h; simp
  | [_], fs, h => by rw [unpackM] at h; cases h
  | x :: y :: r, fs, h => by
    rw [unpackM_cons] at h
    split at h
    · cases h
    · split at h
      · rename_i gs hg
        cases h
        have := unpackM_len _ _ hg
        simp at this ⊢; omega
      · cases h
termination_by b => b.length
decreasing_by simp only [List.length_drop, List.length_cons]; omega
theorem unpackL_len (b : List UInt8) : (unpackL b).length ≤ b.length := by
  unfold unpackL
  split
  · rename_i fs h; exact unpackM_len b fs h
  · simp
theorem app_ss {A : Prim} {P : Program} {R : List (Nat × AObj) → List D → Prop} (hA : A = std P R) {x y : List V} {a b : List (List UInt8)} (hx : x = strsV a) (hy : y = strsV b) : A.app x y = strsV (a ++ b) := by
  rw [hA]; simp only [std]; rw [hx, hy]; simp [strsV]
theorem cStrings (b : List UInt8) (l : List V) (hl : l = bytesV b) (hb : b.length ≤ 4000000000) : CallR Try.prog 84 [.slice l] fun rs => ∃ (r : List V) (e : Int), rs = [.v (.slice r), .v (.int .i64 e)] ∧ r = strsV (unpackL b) ∧ e = unpackE b := by
  obtain ⟨r, hr⟩ : ∃ r, r = strsV (unpackL b) := ⟨_, rfl⟩
  obtain ⟨e, he⟩ : ∃ e, e = unpackE b := ⟨_, rfl⟩
  refine .of [.v (.slice r), .v (.int .i64 e)] ⟨r, e, rfl, hr, he⟩ ?_
  refine FnR.of' T_ok M_ok (fn := Try.f84) (by kernel_rfl) rfl rfl rfl rfl (Nat.le_of_ble_eq_true rfl) fun A hA => ?_
  cbv
  refine callI hA (cUnpack b l hl hb) ?_
  intro rs_ h_
  obtain ⟨fs, e1, q_1, hfs, he1⟩ := h_
  subst q_1
  cbv
  have hle := unpackL_len b
  refine loopF hA (ι := Int × List V) (fun p => { n := 28, sl := [(5, .v (.int .i64 e1)), (6, .own 24), (14, .v (.slice fs)), (15, .v (.int .i64 (A.lenL fs))), (16, .v (.int .i64 p.1))], ob := [(24, .row 1 p.2 true)] })
    (fun p => ∃ j : Nat, p.1 = j ∧ j ≤ (unpackL b).length ∧ p.2 = strsV ((unpackL b).take j)) (fun p => (unpackL b).length - p.1.toNat) (_, _) ((weak_nils _ 6 24 1 true rfl).trans (weakI rfl ⟨rfl, rfl, rfl, rfl, rfl, trivial⟩ ⟨rfl, trivial⟩)) ⟨0, rfl, Nat.zero_le _, rfl⟩ ?_
  rintro ⟨i, x⟩ ⟨j, hi, hj, hx⟩
  dsimp only at hi hx
  cbv
  refine condI hA (fun hc => ?_) (fun hc => ?_)
  · have hjl := ltL hA (natEq hi) (lenLs hfs) hc
    cbv
    refine getLN hA hfs (natEq hi) hjl ?_
    rintro f hf
    cbv
    refine b2sN hA hf ?_
    rintro s hs
    cbv
    have h1 : [V.str s] = strsV [(unpackL b)[j]'hjl] := by rw [hs]; rfl
    refine roomI hA (by rw [hx, strsV_len]; simp; omega) ?_
    cbv
    refine ⟨(_, _), weakI rfl ⟨rfl, rfl, rfl, rfl, rfl, trivial⟩ ⟨rfl, trivial⟩, ⟨j + 1, upI hA (natEq hi) (by omega), hjl, ?_⟩, upM hA (natEq hi) hjl (by omega)⟩
    refine (app_ss hA hx h1).trans ?_
    rw [List.take_succ_eq_append_getElem hjl]
  · have hjl := geL hA (natEq hi) (lenLs hfs) hc hj
    cbv
    subst hjl
    rw [List.take_length] at hx
    refine retI hA ?_
    exact ⟨congrArg (fun q => some (V.slice q)) (hx.trans hr.symm), congrArg (fun q => some (V.int .i64 q)) (he1.trans he.symm), trivial⟩

theorem cutMid {l r : List V} {b : List UInt8} {lo hi : Int} {k m : Nat} (hlo : lo = (k : Int)) (hhi : hi = (m : Int)) (hl : l = bytesV b) (hr : r = (l.take hi.toNat).drop lo.toNat) : r = bytesV ((b.take m).drop k) := by
  subst hlo hhi hl hr; simp [bytesV]
end Go.Proofs.Ythioccbgjkbmdaa.AM

/-
  Contracts: a record read.
-/
set_option linter.unusedVariables false
set_option linter.unusedSimpArgs false
namespace Go.Proofs.Ythioccbgjkbmdaa.AM
open Go Go.RowKit
set_option maxRecDepth 100000
set_option maxHeartbeats 4000000

def zeroR : RecM := ⟨0, [], 0, 0, 0, 0, 0, 0⟩
def okNum (f : List UInt8) : Bool := numberE f == 0 && decide (numberN f < 4294967296)
def numF (fs : List (List UInt8)) (i : Nat) : Nat := numberN (fs.getD i [])
def recOf (fs : List (List UInt8)) : RecM := ⟨(numF fs 0 % 256 : Nat), unpackL (fs.getD 1 []), numF fs 2, numF fs 3, numF fs 4, numF fs 5, numF fs 6, numF fs 7⟩
def okNums (fs : List (List UInt8)) : Prop := ∀ m, m < 8 → m ≠ 1 → okNum (fs.getD m []) = true
instance (fs : List (List UInt8)) : Decidable (okNums fs) := by unfold okNums; infer_instance
def getOk (b : List UInt8) : Prop := unpackE b = 0 ∧ (unpackL b).length = 8 ∧ okNums (unpackL b) ∧ unpackE ((unpackL b).getD 1 []) = 0 ∧ putE (recOf (unpackL b)) = 0 ∧ putB (recOf (unpackL b)) = b
instance (b : List UInt8) : Decidable (getOk b) := by unfold getOk; infer_instance
def getR (b : List UInt8) : RecM := if getOk b then recOf (unpackL b) else zeroR
def getE (b : List UInt8) : Int := if getOk b then 0 else 4
def numsTo (fs : List (List UInt8)) (j : Nat) : List Nat := (List.range 8).map fun m => if m < j ∧ m ≠ 1 then numF fs m else 0
theorem numsTo_len (fs : List (List UInt8)) (j : Nat) : (numsTo fs j).length = 8 := by simp [numsTo]
theorem numsTo_zero (fs : List (List UInt8)) : numsTo fs 0 = List.replicate 8 0 := by simp [numsTo, List.range_succ]
theorem numsTo_one (fs : List (List UInt8)) : numsTo fs 2 = numsTo fs 1 := by simp [numsTo, List.range_succ]
theorem numsTo_set {fs : List (List UInt8)} {j : Nat} (h : j ≠ 1) : (numsTo fs j).set j (numF fs j) = numsTo fs (j + 1) := by
  apply List.ext_getElem
  · simp [numsTo]
  · intro m h1 h2
    rw [List.getElem_set]
    simp only [numsTo, List.getElem_map, List.getElem_range]
    split
    · rename_i e; subst e; rw [if_pos ⟨by omega, h⟩]
    · rename_i e
      by_cases q : m < j ∧ m ≠ 1
      · rw [if_pos q, if_pos ⟨by omega, q.2⟩]
      · rw [if_neg q, if_neg (by omega)]
theorem numsTo_at {fs : List (List UInt8)} {j m : Nat} (hm : m < j) (h1 : m ≠ 1) (h : m < (numsTo fs j).length) : (numsTo fs j)[m] = numF fs m := by
  simp only [numsTo, List.getElem_map, List.getElem_range]; rw [if_pos ⟨hm, h1⟩]
theorem numsV_len (ns : List Nat) : (numsV ns).length = ns.length := by simp [numsV]
theorem numsV_set (ns : List Nat) (j n : Nat) : (numsV ns).set j (.int .u64 (n : Int)) = numsV (ns.set j n) := by
  simp only [numsV, List.map_set]
theorem get_bad {b : List UInt8} (h : ¬ getOk b) : getR b = zeroR ∧ getE b = 4 := by simp [getR, getE, h]
theorem get_good {b : List UInt8} (h : getOk b) : getR b = recOf (unpackL b) ∧ getE b = 0 := by simp [getR, getE, h]
theorem ok_at {fs : List (List UInt8)} {j : Nat} (hj : j < fs.length) : fs.getD j [] = fs[j] := by simp [List.getD_eq_getElem?_getD, hj]
theorem okTo_succ {fs : List (List UInt8)} {j : Nat} (h : ∀ m, m < j → m ≠ 1 → okNum (fs.getD m []) = true) (hk : j ≠ 1 → okNum (fs.getD j []) = true) : ∀ m, m < j + 1 → m ≠ 1 → okNum (fs.getD m []) = true := fun m hm h1 => by
  by_cases e : m = j
  · subst e; exact hk h1
  · exact h m (by omega) h1
theorem okNum_of {f : List UInt8} (h1 : numberE f = 0) (h2 : numberN f < 4294967296) : okNum f = true := by simp [okNum, h1, h2]
theorem okNum_lt {f : List UInt8} (h : okNum f = true) : numberE f = 0 ∧ numberN f < 4294967296 := by
  simpa [okNum] using h
theorem unpackM_small : ∀ (b : List UInt8) fs, unpackM b = some fs → ∀ f ∈ fs, f.length ≤ b.length
  | [], fs, h, f, hf => by rw [unpackM] at h; cases h; simp at hf
  | [_], fs, h, f, hf => by rw [unpackM] at h; cases h
  | x :: y :: r, fs, h, f, hf => by
    rw [unpackM_cons] at h
    split at h
    · cases h
    · split at h
      · rename_i gs hg
        cases h
        rcases List.mem_cons.1 hf with rfl | hf
        · simp; omega
        · have := unpackM_small _ _ hg f hf
          simp at this ⊢; omega
      · cases h
termination_by b => b.length
decreasing_by simp only [List.length_drop, List.length_cons]; omega
theorem unpackL_small (b : List UInt8) : ∀ f ∈ unpackL b, f.length ≤ b.length := by
  unfold unpackL
  split
  · rename_i fs h; exact unpackM_small b fs h
  · simp
theorem getD_small (b : List UInt8) (i : Nat) : ((unpackL b).getD i []).length ≤ b.length := by
  rw [List.getD_eq_getElem?_getD]
  cases h : (unpackL b)[i]? with
  | none => simp
  | some f => exact unpackL_small b f (List.mem_of_getElem? h)
theorem recOf_ok {b : List UInt8} (hb : b.length ≤ 4000000000) (h : okNums (unpackL b)) : RecOk (recOf (unpackL b)) := by
  have l : ∀ m, m < 8 → m ≠ 1 → numF (unpackL b) m < 4294967296 := fun m hm h1 => (okNum_lt (h m hm h1)).2
  have l3 := l 3 (by omega) (by omega)
  have l6 := l 6 (by omega) (by omega)
  have l7 := l 7 (by omega) (by omega)
  have p1 := unpackL_len ((unpackL b).getD 1 [])
  have p2 := getD_small b 1
  exact ⟨by simp only [recOf]; omega, by simp only [recOf]; omega, by simp only [recOf]; omega, by simp only [recOf]; omega, by simp only [recOf]; omega, by simp only [recOf]; omega, by simp only [recOf]; omega, by simp only [recOf]; omega, by simp only [recOf]; omega,
    fun p hp => by have := unpackL_small _ p hp; simp only [recOf] at *; omega⟩
theorem inR_of {y : List V} {ns : List Nat} {i : Int} {j : Nat} (hy : y = numsV ns) (hi : i = j) (h : j < ns.length) : 0 ≤ i ∧ i < y.length := by
  rw [hy, hi, numsV_len]; omega
section
variable {A : Prim} {P : Program} {R : List (Nat × AObj) → List D → Prop} (hA : A = std P R)
include hA
theorem shr32T {n : Int} {x : Nat} (hn : n = x) (h : A.ine (A.shr .u64 n 32) 0 = true) : 4294967296 ≤ x := by
  rw [hA, hn] at h; simp only [std] at h
  have e2 : (2 : Int) ^ (min (Int.toNat 32) IntKind.u64.bits) = ((4294967296 : Nat) : Int) := by decide
  rw [e2, Int.fdiv_eq_ediv_of_nonneg _ (by omega)] at h
  have h2 : ((x : Int) / ((4294967296 : Nat) : Int)) ≠ 0 := by simpa using h
  omega
theorem shr32F {n : Int} {x : Nat} (hn : n = x) (h : A.ine (A.shr .u64 n 32) 0 = false) : x < 4294967296 := by
  rw [hA, hn] at h; simp only [std] at h
  have e2 : (2 : Int) ^ (min (Int.toNat 32) IntKind.u64.bits) = ((4294967296 : Nat) : Int) := by decide
  rw [e2, Int.fdiv_eq_ediv_of_nonneg _ (by omega)] at h
  have h2 : ((x : Int) / ((4294967296 : Nat) : Int)) = 0 := by simpa using h
  omega
theorem setN {x : List V} {i v : Int} {ns : List Nat} {j n : Nat} (hx : x = numsV ns) (hi : i = j) (hv : v = n) : A.setL x i (.int .u64 v) = numsV (ns.set j n) := by
  rw [hA, hx, hi, hv]; simp only [std, Int.toNat_natCast]; exact numsV_set ns j n
theorem wI {n : Int} {m : Nat} (hn : n = m) (hm : m < 4294967296) : A.wrap .i64 n = ((m : Nat) : Int) := by
  rw [hA, hn]; exact wrap_i64 (by omega) (by omega)
theorem wU {n : Int} {m : Nat} (hn : n = m) (hm : m < 4294967296) : A.wrap .u32 n = ((m : Nat) : Int) := by
  rw [hA, hn]
  simp only [std, IntKind.wrap, IntKind.bits, IntKind.signed, Bool.false_and, Bool.false_eq_true, if_false]
  omega
theorem wB {n : Int} {m : Nat} (hn : n = m) : A.wrap .u8 n = ((m % 256 : Nat) : Int) := by
  rw [hA, hn]; exact wrap_u8 m
theorem ineT {a : Int} {x y : Nat} (ha : a = x) {b : Int} (hb : b = y) (h : A.ine a b = true) : x ≠ y := by
  rw [hA, ha, hb] at h; simp only [std] at h
  intro e; subst e; simp at h
theorem ineF {a : Int} {x y : Nat} (ha : a = x) {b : Int} (hb : b = y) (h : A.ine a b = false) : x = y := by
  rw [hA, ha, hb] at h; simp only [std] at h
  have : (x : Int) = y := by simpa using h
  omega
theorem lenLs' {l : List V} {fs : List (List UInt8)} (h : l = listsV fs) : A.lenL l = (fs.length : Nat) := by rw [hA]; simp only [std]; rw [lenLs h]
end
theorem putB_len {a : RecM} (hr : RecOk a) : (putB a).length ≤ 140737488355328 := by
  unfold putB
  split
  · rename_i h
    have := packL_len (fields_small hr h)
    have e : (fieldsM a).length = 8 := rfl
    omega
  · simp
theorem cGet (b : List UInt8) (l : List V) (hl : l = bytesV b) (hb : b.length ≤ 4000000000) : CallR Try.prog 62 [.slice l] fun rs => ∃ (g : RecM) (lp : List V) (e : Int), rs = [.v (.agg [.int .u8 g.k, .slice lp, .int .i64 g.sz, .int .u32 g.sm, .int .i64 g.mi, .int .i64 g.mo, .int .u32 g.si, .int .u32 g.so]), .v (.int .i64 e)] ∧ g = getR b ∧ lp = strsV g.path ∧ e = getE b := by
  obtain ⟨g, hg⟩ : ∃ g, g = getR b := ⟨_, rfl⟩
  obtain ⟨lp, hlp⟩ : ∃ lp, lp = strsV g.path := ⟨_, rfl⟩
  obtain ⟨e, he⟩ : ∃ e, e = getE b := ⟨_, rfl⟩
  refine .of _ ⟨g, lp, e, rfl, hg, hlp, he⟩ ?_
  obtain ⟨fs0, hfs0⟩ : ∃ fs0, fs0 = unpackL b := ⟨_, rfl⟩
  have bad : ¬ (unpackE b = 0 ∧ fs0.length = 8 ∧ okNums fs0 ∧ unpackE (fs0.getD 1 []) = 0 ∧ putE (recOf fs0) = 0 ∧ putB (recOf fs0) = b) → g = zeroR ∧ lp = [] ∧ e = 4 := fun h => by
    rw [hfs0] at h
    have q := get_bad (b := b) h
    have h1 : g = zeroR := hg.trans q.1
    exact ⟨h1, by rw [hlp, h1]; rfl, he.trans q.2⟩
  have good : (unpackE b = 0 ∧ fs0.length = 8 ∧ okNums fs0 ∧ unpackE (fs0.getD 1 []) = 0 ∧ putE (recOf fs0) = 0 ∧ putB (recOf fs0) = b) → g = recOf fs0 ∧ e = 0 := fun h => by
    rw [hfs0] at h ⊢
    have q := get_good (b := b) h
    exact ⟨hg.trans q.1, he.trans q.2⟩
  refine FnR.of' T_ok M_ok (fn := Try.f62) (by kernel_rfl) rfl rfl rfl rfl (Nat.le_of_ble_eq_true rfl) fun A hA => ?_
  cbv
  refine callI hA (cUnpack b l hl hb) ?_
  intro rs_ h_
  obtain ⟨fs, e1, q_1, hfs, he1⟩ := h_
  subst q_1
  cbv
  rw [← hfs0] at hfs
  refine condI hA (fun h1 => ?_) (fun h1 => ?_)
  · have h1 := ine_err hA h1
    have q := bad fun h => h1 (he1.trans h.1)
    cbv
    refine retI hA ?_
    refine ⟨?_, ?_, trivial⟩
    · rw [q.2.1, q.1]; rfl
    · rw [q.2.2]; rfl
  · have h1 := ine_ok hA h1
    have hE : unpackE b = 0 := he1.symm.trans h1
    cbv
    refine condI hA (fun h2 => ?_) (fun h2 => ?_)
    · have h2 := ineT hA (y := 8) (lenLs' hA hfs) rfl h2
      have q := bad fun h => h2 h.2.1
      cbv
      refine retI hA ?_
      refine ⟨?_, ?_, trivial⟩
      · rw [q.2.1, q.1]; rfl
      · rw [q.2.2]; rfl
    · have hL : fs0.length = 8 := ineF hA (y := 8) (lenLs' hA hfs) rfl h2
      cbv
      refine loopF hA (ι := Int × List V) (fun p => { n := 103, sl := [(0, .v (.slice l)), (2, .ptr 2 0), (4, .v (.slice fs)), (6, .ptr 6 0), (26, .v (.slice fs)), (27, .v (.int .i64 (A.lenL fs))), (28, .v (.int .i64 p.1))], ob := [(2, .box (tyOf 29).zero), (6, .row 1 p.2 true)] })
        (fun p => ∃ j : Nat, p.1 = j ∧ j ≤ 8 ∧ p.2 = numsV (numsTo fs0 j) ∧ ∀ m, m < j → m ≠ 1 → okNum (fs0.getD m []) = true) (fun p => 8 - p.1.toNat) (_, _) (weakI rfl ⟨rfl, rfl, rfl, rfl, rfl, rfl, rfl, trivial⟩ ⟨rfl, rfl, trivial⟩) ⟨0, rfl, Nat.zero_le _, by rw [numsTo_zero]; rfl, fun m h => by omega⟩ ?_
      rintro ⟨i, x⟩ ⟨j, hi, hj, hx, ho⟩
      dsimp only at hi hx
      have hx8 : x.length = 8 := by rw [hx, numsV_len, numsTo_len]
      cbv
      refine condI hA (fun hc => ?_) (fun hc => ?_)
      · have hjl : j < fs0.length := ltL hA (natEq hi) (lenLs hfs) hc
        cbv
        refine getLN hA hfs (natEq hi) hjl ?_
        rintro f hf
        have hf' : f = bytesV (fs0.getD j []) := by rw [hf, ok_at]
        cbv
        refine condI hA (fun k1 => ?_) (fun k1 => ?_)
        · have k1 : j = 1 := by have := eqT hA k1; rw [natEq hi] at this; omega
          exact ⟨(_, _), weakI rfl ⟨rfl, rfl, rfl, rfl, rfl, rfl, rfl, trivial⟩ ⟨rfl, rfl, trivial⟩, ⟨j + 1, upI hA (natEq hi) (by omega), by omega, by subst k1; rw [numsTo_one]; exact hx, okTo_succ ho fun h => absurd k1 h⟩, by rw [← hL]; exact upM hA (natEq hi) hjl (by omega)⟩
        · have k1 : j ≠ 1 := fun h => by have := eqF hA k1; rw [natEq hi, h] at this; exact this rfl
          cbv
          refine callI hA (cNumber _ f hf' (by have := getD_small b j; rw [← hfs0] at this; omega)) ?_
          intro rs_ h_
          obtain ⟨v, e2, q_1, hv, he2⟩ := h_
          subst q_1
          cbv
          refine inRI hA (by rw [natEq hi, hx8]; omega) ?_
          cbv
          refine inRI hA (by rw [natEq hi]; simp; omega) ?_
          cbv
          refine inRI hA (by rw [natEq hi, hx8]; omega) ?_
          cbv
          have hset := setN hA hx (natEq hi) (natEq hv)
          have hset2 := hset.trans (congrArg numsV (numsTo_set k1))
          refine condI hA (fun k2 => ?_) (fun k2 => ?_)
          · have k2 := ine_err hA k2
            have q := bad fun h => k2 (he2.trans (okNum_lt (h.2.2.1 j (by omega) k1)).1)
            cbv
            refine retI hA ?_
            refine ⟨?_, ?_, trivial⟩
            · rw [q.2.1, q.1]; rfl
            · rw [q.2.2]; rfl
          · have k2 := ine_ok hA k2
            cbv
            refine inRI hA (inR_of hset2 (natEq hi) (by rw [numsTo_len]; omega)) ?_
            cbv
            refine inRI hA (by rw [natEq hi]; simp; omega) ?_
            cbv
            refine getIN hA (numsV_at hset2 (natEq hi) (by rw [numsTo_len]; omega)) ?_
            rintro v2 hv2
            have hv2 : v2 = ((numberN (fs0.getD j []) : Nat) : Int) := by rw [natEq hv2, numsTo_at (by omega) k1]; rfl
            cbv
            refine nnegI hA (by decide) ?_
            cbv
            refine condI hA (fun k3 => ?_) (fun k3 => ?_)
            · have k3 := shr32T hA hv2 k3
              have q := bad fun h => by have := (okNum_lt (h.2.2.1 j (by omega) k1)).2; omega
              cbv
              refine retI hA ?_
              refine ⟨?_, ?_, trivial⟩
              · rw [q.2.1, q.1]; rfl
              · rw [q.2.2]; rfl
            · have k3 := shr32F hA hv2 k3
              exact ⟨(_, _), weakI rfl ⟨rfl, rfl, rfl, rfl, rfl, rfl, rfl, trivial⟩ ⟨rfl, rfl, trivial⟩, ⟨j + 1, upI hA (natEq hi) (by omega), by omega, hset2, okTo_succ ho fun _ => okNum_of (he2.symm.trans k2) k3⟩, by rw [← hL]; exact upM hA (natEq hi) hjl (by omega)⟩
      · have hjl : j = fs0.length := geL hA (natEq hi) (lenLs hfs) hc (by omega)
        have hj8 : j = 8 := hjl.trans hL
        subst hj8
        cbv
        have hF : okNums fs0 := ho
        have w : ∀ m, m < 8 → m ≠ 1 → numF fs0 m < 4294967296 := fun m hm h1 => (okNum_lt (hF m hm h1)).2
        refine getLN hA hfs (j := 1) rfl (by omega) ?_
        rintro p1 hp1
        have hp1' : p1 = bytesV (fs0.getD 1 []) := by rw [hp1, ok_at]
        cbv
        refine callI hA (cStrings _ p1 hp1' (by have := getD_small b 1; rw [← hfs0] at this; omega)) ?_
        intro rs_ h_
        obtain ⟨pl, e3, q_1, hpl, he3⟩ := h_
        subst q_1
        cbv
        refine inRI hA (by rw [hx8]; decide) ?_
        cbv
        refine inRI hA (by decide) ?_
        cbv
        refine getIN hA (numsV_at hx (j := 0) rfl (by rw [numsTo_len]; omega)) ?_
        rintro v0 hv0
        cbv
        refine inRI hA (by rw [hx8]; decide) ?_
        cbv
        refine inRI hA (by decide) ?_
        cbv
        refine getIN hA (numsV_at hx (j := 2) rfl (by rw [numsTo_len]; omega)) ?_
        rintro v2 hv2
        cbv
        refine inRI hA (by rw [hx8]; decide) ?_
        cbv
        refine inRI hA (by decide) ?_
        cbv
        refine getIN hA (numsV_at hx (j := 3) rfl (by rw [numsTo_len]; omega)) ?_
        rintro v3 hv3
        cbv
        refine inRI hA (by rw [hx8]; decide) ?_
        cbv
        refine inRI hA (by decide) ?_
        cbv
        refine getIN hA (numsV_at hx (j := 4) rfl (by rw [numsTo_len]; omega)) ?_
        rintro v4 hv4
        cbv
        refine inRI hA (by rw [hx8]; decide) ?_
        cbv
        refine inRI hA (by decide) ?_
        cbv
        refine getIN hA (numsV_at hx (j := 5) rfl (by rw [numsTo_len]; omega)) ?_
        rintro v5 hv5
        cbv
        refine inRI hA (by rw [hx8]; decide) ?_
        cbv
        refine inRI hA (by decide) ?_
        cbv
        refine getIN hA (numsV_at hx (j := 6) rfl (by rw [numsTo_len]; omega)) ?_
        rintro v6 hv6
        cbv
        refine inRI hA (by rw [hx8]; decide) ?_
        cbv
        refine inRI hA (by decide) ?_
        cbv
        refine getIN hA (numsV_at hx (j := 7) rfl (by rw [numsTo_len]; omega)) ?_
        rintro v7 hv7
        cbv
        have hrec : RecOk (recOf fs0) := by rw [hfs0]; exact recOf_ok hb (hfs0 ▸ hF)
        have ek : A.wrap .u8 v0 = (recOf fs0).k := (wB hA hv0).trans (by rw [numsTo_at (by omega) (by omega)]; rfl)
        have es : A.wrap .i64 v2 = (recOf fs0).sz := by rw [wI hA hv2 (by rw [numsTo_at (by omega) (by omega)]; exact w 2 (by omega) (by omega)), numsTo_at (by omega) (by omega)]; rfl
        have em : A.wrap .u32 v3 = (recOf fs0).sm := by rw [wU hA hv3 (by rw [numsTo_at (by omega) (by omega)]; exact w 3 (by omega) (by omega)), numsTo_at (by omega) (by omega)]; rfl
        have ei : A.wrap .i64 v4 = (recOf fs0).mi := by rw [wI hA hv4 (by rw [numsTo_at (by omega) (by omega)]; exact w 4 (by omega) (by omega)), numsTo_at (by omega) (by omega)]; rfl
        have eo : A.wrap .i64 v5 = (recOf fs0).mo := by rw [wI hA hv5 (by rw [numsTo_at (by omega) (by omega)]; exact w 5 (by omega) (by omega)), numsTo_at (by omega) (by omega)]; rfl
        have ea : A.wrap .u32 v6 = (recOf fs0).si := by rw [wU hA hv6 (by rw [numsTo_at (by omega) (by omega)]; exact w 6 (by omega) (by omega)), numsTo_at (by omega) (by omega)]; rfl
        have eb : A.wrap .u32 v7 = (recOf fs0).so := by rw [wU hA hv7 (by rw [numsTo_at (by omega) (by omega)]; exact w 7 (by omega) (by omega)), numsTo_at (by omega) (by omega)]; rfl
        have er : (⟨A.wrap .u8 v0, unpackL (fs0.getD 1 []), A.wrap .i64 v2, A.wrap .u32 v3, A.wrap .i64 v4, A.wrap .i64 v5, A.wrap .u32 v6, A.wrap .u32 v7⟩ : RecM) = recOf fs0 := by rw [ek, es, em, ei, eo, ea, eb]; rfl
        refine callI hA (cPut ⟨A.wrap .u8 v0, unpackL (fs0.getD 1 []), A.wrap .i64 v2, A.wrap .u32 v3, A.wrap .i64 v4, A.wrap .i64 v5, A.wrap .u32 v6, A.wrap .u32 v7⟩ pl hpl (er ▸ hrec)) ?_
        intro rs_ h_
        obtain ⟨pb, e4, q_1, hpb, he4⟩ := h_
        subst q_1
        cbv
        rw [er] at hpb he4
        refine condI hA (fun z1 => ?_) (fun z1 => ?_)
        · have z1 := ine_err hA z1
          have q := bad fun h => z1 (he3.trans h.2.2.2.1)
          cbv
          refine retI hA ?_
          refine ⟨?_, ?_, trivial⟩
          · rw [q.2.1, q.1]; rfl
          · rw [q.2.2]; rfl
        · have z1 := ine_ok hA z1
          cbv
          refine condI hA (fun z2 => ?_) (fun z2 => ?_)
          · have z2 := ine_err hA z2
            have q := bad fun h => z2 (he4.trans h.2.2.2.2.1)
            cbv
            refine retI hA ?_
            refine ⟨?_, ?_, trivial⟩
            · rw [q.2.1, q.1]; rfl
            · rw [q.2.2]; rfl
          · have z2 := ine_ok hA z2
            cbv
            refine callI hA (cEqualB _ b pb l hpb hl (putB_len hrec)) ?_
            intro rs_ h_
            obtain ⟨c5, q_1, hc5⟩ := h_
            subst q_1
            cbv
            refine condI hA (fun z3 => ?_) (fun z3 => ?_)
            · have z3 : ¬ putB (recOf fs0) = b := fun h => by have := notT hA z3; rw [hc5, h] at this; simp at this
              have q := bad fun h => z3 h.2.2.2.2.2
              cbv
              refine retI hA ?_
              refine ⟨?_, ?_, trivial⟩
              · rw [q.2.1, q.1]; rfl
              · rw [q.2.2]; rfl
            · have z3 : putB (recOf fs0) = b := by have := notF hA z3; rw [hc5] at this; simpa using this
              have q := good ⟨hE, hL, hF, he3.symm.trans z1, he4.symm.trans z2, z3⟩
              cbv
              refine retI hA ?_
              refine ⟨?_, ?_, trivial⟩
              · change some (V.agg [.int .u8 (A.wrap .u8 v0), .slice pl, .int .i64 (A.wrap .i64 v2), .int .u32 (A.wrap .u32 v3), .int .i64 (A.wrap .i64 v4), .int .i64 (A.wrap .i64 v5), .int .u32 (A.wrap .u32 v6), .int .u32 (A.wrap .u32 v7)]) = some (V.agg [.int .u8 g.k, .slice lp, .int .i64 g.sz, .int .u32 g.sm, .int .i64 g.mi, .int .i64 g.mo, .int .u32 g.si, .int .u32 g.so])
                rw [ek, es, em, ei, eo, ea, eb, hlp, q.1, hpl]; rfl
              · rw [q.2]; rfl
end Go.Proofs.Ythioccbgjkbmdaa.AM

/-
  Contracts: a record read by the reference.
-/
set_option linter.unusedVariables false
set_option linter.unusedSimpArgs false
namespace Go.Proofs.Ythioccbgjkbmdaa.AM
open Go Go.RowKit
set_option maxRecDepth 100000
set_option maxHeartbeats 4000000

end Go.Proofs.Ythioccbgjkbmdaa.AM

/-
  Contracts: slices.Grow at nil; slices.Concat.
-/
set_option linter.unusedVariables false
set_option linter.unusedSimpArgs false
namespace Go.Proofs.Ythioccbgjkbmdaa.AM
open Go Go.RowKit
set_option maxRecDepth 100000
set_option maxHeartbeats 4000000

/-- The library's own contract of slices.Grow, at this program. -/
def growRen : Go.Shelf.Ren := ⟨fun | 4 => 90 | n => n, fun | 0 => 0 | 3 => 3 | 4 => 4 | 9 => 9 | 20 => 20 | 22 => 23 | 25 => 5 | n => n, fun n => n⟩
theorem growLays : Lays8.n4 Try.prog growRen where
  mixed := by kernel_rfl
  f4 := ⟨"slices.Grow[[]byte,byte]", rfl, (by kernel_rfl)⟩
  t0 := Try.underlying0
  a0 := Try.isAgg0
  z0 := Try.sizeOf0
  v0 := Try.zeroValue0
  t3 := Try.underlying3
  a3 := Try.isAgg3
  z3 := Try.sizeOf3
  v3 := Try.zeroValue3
  t4 := Try.underlying4
  a4 := Try.isAgg4
  z4 := Try.sizeOf4
  v4 := Try.zeroValue4
  t9 := Try.underlying9
  a9 := Try.isAgg9
  z9 := Try.sizeOf9
  v9 := Try.zeroValue9
  t20 := Try.underlying20
  a20 := Try.isAgg20
  z20 := Try.sizeOf20
  v20 := Try.zeroValue20
  t22 := Try.underlying23
  a22 := Try.isAgg23
  z22 := Try.sizeOf23
  v22 := Try.zeroValue23
theorem cGrow (v : Int) (n : Nat) (hv : v = n) (hn : n ≤ 1000000000) : CallR Try.prog 90 [.nils, .int .i64 v] fun rs => rs = [.o 1 []] := by
  refine ⟨_, ⟨⟨_, Try.func90, rfl, rfl⟩, fun w ok vs hok hl hr => ?_⟩, rfl⟩
  match vs, hl, hr with
  | [a, b], _, hr =>
    have h0 := hr 0 (by simp) (by simp)
    have h1 := hr 1 (by simp) (by simp)
    simp only [List.getElem_cons_zero, List.getElem_cons_succ] at h0 h1
    have ha : a = .slice none 0 0 := by cases h0; rfl
    have hb : b = .int .i64 v := rep_int h1
    subst ha hb hv
    rcases Nat.eq_zero_or_pos n with hz | hz
    · subst hz
      refine (Any8.slices_Grow_room growLays none 0 0 0 w (by omega) (by omega) (by omega) (by omega)).mono fun e w' ⟨he, hw⟩ => ?_
      subst he hw
      exact ⟨[.slice none 0 0], [none], ok, rfl, Below.refl _ _, fun _ _ h => h, EnvEq.refl _, fun _ _ h => .inl h, rfl, rfl, fun i h _ _ => by
        match i, h with
        | 0, _ => exact .inl ⟨rfl, rfl, rfl⟩, fun i j b h1 _ => by
        match i, h1 with
        | 0, h1 => simp at h1⟩
    · refine (Any8.slices_Grow_grow growLays Try.t5 (.int .u8 0) (by kernel_rfl) rfl (by decide) none 0 0 n [] w (by omega) (by omega) (by rw [show TypeInfo.bytes Try.t5 = 1 from rfl]; omega) (by omega) rfl (fun _ => rfl) (by simp)).mono fun e w' ⟨he, hw⟩ => ?_
      have hc := grownCap_ge w (0 + n) 0 (growRen.t 25)
      have hm := grownCap_le_maxLen w (0 + n) 0 (growRen.t 25) (by unfold maxLen; omega)
      obtain ⟨G, hG⟩ : ∃ G, G = grownCap w (0 + n) 0 (growRen.t 25) := ⟨_, rfl⟩
      rw [← hG] at he hw hc hm
      subst he
      refine ⟨[_], [some w.heap.size], ok, rfl, ?_, fun _ _ h => h, EnvEq.refl _, fun _ _ h => .inl h, rfl, rfl, fun i h _ _ => ?_, fun i j b h1 h2 => ?_⟩
      · rw [hw]; exact ((Below.refl _ w).drew).alloc (Nat.le_refl _) _
      · match i, h with
        | 0, _ =>
          refine .inr ⟨w.heap.size, G, _, _, rfl, Nat.le_refl _, rfl, by rw [hw]; exact heap_alloc_new w.drew _, ?_, Nat.zero_le _, hm, ⟨fun i h => by simp at h, fun i h => by simp at h, fun i h => by simp at h⟩, fun o ho => absurd (hok _ _ ho) (by omega)⟩
          simp [Builtin.zeroCells, Value.cells]
          omega
      · match i, j, h1, h2 with
        | 0, 0, _, _ => rfl
        | 0, _ + 1, _, h2 => simp at h2
        | _ + 1, _, h1, _ => simp at h1
theorem flat_take {fs : List (List UInt8)} {j : Nat} (h : j < fs.length) : (fs.take (j + 1)).flatten = (fs.take j).flatten ++ fs[j] := by
  rw [List.take_succ_eq_append_getElem h, List.flatten_append]; simp
theorem flat_le {fs : List (List UInt8)} (j : Nat) : (fs.take j).flatten.length ≤ fs.flatten.length := by
  conv => rhs; rw [← List.take_append_drop j fs, List.flatten_append, List.length_append]
  omega
theorem addI {A : Prim} {P : Program} {R : List (Nat × AObj) → List D → Prop} (hA : A = std P R) {a b : Int} {m n : Nat} (ha : a = m) (hb : b = n) (hm : m + n ≤ 4000000000000000000) : A.wrap .i64 (A.add a b) = ((m + n : Nat) : Int) := by
  rw [hA, ha, hb]; simp only [std]
  rw [show (m : Int) + (n : Int) = ((m + n : Nat) : Int) from by simp]; exact wrap_i64 (by omega) (by omega)
theorem ltNat {A : Prim} {P : Program} {R : List (Nat × AObj) → List D → Prop} (hA : A = std P R) {a : Int} {m : Nat} (ha : a = m) : A.ilt a 0 = false := by
  rw [hA, ha]; simp only [std]; exact decide_eq_false (by omega)
theorem cConcat (fs : List (List UInt8)) (l : List V) (hl : l = listsV fs) (hfs : fs.length ≤ 1000000) (hb : fs.flatten.length ≤ 1000000000) : CallR Try.prog 74 [.slice l] fun rs => ∃ r, rs = [.v (.slice r)] ∧ r = bytesV fs.flatten := by
  obtain ⟨r, hr⟩ : ∃ r, r = bytesV fs.flatten := ⟨_, rfl⟩
  refine .of _ ⟨r, rfl, hr⟩ ?_
  refine FnR.of' T_ok M_ok (fn := Try.f74) (by kernel_rfl) rfl rfl rfl rfl (Nat.le_of_ble_eq_true rfl) fun A hA => ?_
  cbv
  refine loopF hA (ι := Int × Int) (fun p => { n := 36, sl := [(0, .v (.slice l)), (3, .v (.int .i64 p.2)), (9, .v (.slice l)), (10, .v (.int .i64 (A.lenL l))), (11, .v (.int .i64 p.1))], ob := [] })
    (fun p => ∃ j : Nat, p.1 = j ∧ j ≤ fs.length ∧ p.2 = ((fs.take j).flatten.length : Nat)) (fun p => fs.length - p.1.toNat) (_, _) (weakI rfl ⟨rfl, rfl, rfl, rfl, rfl, trivial⟩ trivial) ⟨0, rfl, Nat.zero_le _, rfl⟩ ?_
  rintro ⟨i, n⟩ ⟨j, hi, hj, hn⟩
  dsimp only at hi hn
  cbv
  refine condI hA (fun hc => ?_) (fun hc => ?_)
  · have hjl := ltL hA (natEq hi) (lenLs hl) hc
    cbv
    refine getLN hA hl (natEq hi) hjl ?_
    rintro f hf
    cbv
    have hle := flat_le (fs := fs) (j + 1)
    rw [flat_take hjl, List.length_append] at hle
    have ha := addI hA (natEq hn) (lenI hA hf) (by omega)
    refine condF hA (ltNat hA ha) ?_
    cbv
    exact ⟨(_, _), weakI rfl ⟨rfl, rfl, rfl, rfl, rfl, trivial⟩ trivial, ⟨j + 1, upI hA (natEq hi) (by omega), hjl, ha.trans (by rw [flat_take hjl, List.length_append])⟩, upM hA (natEq hi) hjl (by omega)⟩
  · have hjl := geL hA (natEq hi) (lenLs hl) hc hj
    cbv
    subst hjl
    rw [List.take_length] at hn
    refine callI hA (cGrow n _ (natEq hn) hb) ?_
    intro rs_ h_
    subst h_
    cbv
    clear hi hj hc hn
    refine loopF hA (ι := Int × List V) (fun p => { n := 36, sl := [(6, .own 33), (25, .v (.slice l)), (26, .v (.int .i64 (A.lenL l))), (27, .v (.int .i64 p.1))], ob := [(33, .row 1 p.2 true)] })
      (fun p => ∃ j : Nat, p.1 = j ∧ j ≤ fs.length ∧ p.2 = bytesV (fs.take j).flatten) (fun p => fs.length - p.1.toNat) (_, _) ((weak_ren _ 6 1192 33 1 _ true rfl rfl).trans (weakI rfl ⟨rfl, rfl, rfl, rfl, trivial⟩ ⟨rfl, trivial⟩)) ⟨0, rfl, Nat.zero_le _, rfl⟩ ?_
    rintro ⟨i, x⟩ ⟨j, hi, hj, hx⟩
    dsimp only at hi hx
    cbv
    refine condI hA (fun hc => ?_) (fun hc => ?_)
    · have hjl := ltL hA (natEq hi) (lenLs hl) hc
      cbv
      refine getLN hA hl (natEq hi) hjl ?_
      rintro f hf
      cbv
      have hle := flat_le (fs := fs) (j + 1)
      rw [flat_take hjl, List.length_append] at hle
      refine sizedI hA (bytesV_flat hf) ?_
      cbv
      refine roomI hA (room_of hx hf (by omega)) ?_
      cbv
      exact ⟨(_, _), weakI rfl ⟨rfl, rfl, rfl, rfl, trivial⟩ ⟨rfl, trivial⟩, ⟨j + 1, upI hA (natEq hi) (by omega), hjl, (app_of hA hx hf).trans (by rw [flat_take hjl])⟩, upM hA (natEq hi) hjl (by omega)⟩
    · have hjl := geL hA (natEq hi) (lenLs hl) hc hj
      cbv
      subst hjl
      rw [List.take_length] at hx
      refine retI hA ?_
      exact ⟨congrArg (fun q => some (V.slice q)) (hx.trans hr.symm), trivial⟩
end Go.Proofs.Ythioccbgjkbmdaa.AM
