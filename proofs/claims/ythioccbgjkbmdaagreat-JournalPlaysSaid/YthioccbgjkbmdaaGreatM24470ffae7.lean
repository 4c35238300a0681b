/-
 A disk with its sizes: all calls.
-/
import Derived.Test.YthioccbgjkbmdaaGreatM2324030516
import Derived.Test.YthioccbgjkbmdaaGreatM19adf3db9e
set_option linter.unusedVariables false
set_option linter.unusedSimpArgs false
set_option maxRecDepth 100000
set_option maxHeartbeats 4000000
namespace Go.Proofs.YthioccbgjkbmdaaGreat.AM
open Go Go.RowKit
structure DI (gh : GH) (lab : Lab) (p : Nat) (k : Dk) (B : Nat) : Prop where
 i : DkIn gh lab p k
 ok : PkOk k B
 cap : w64 k.cap = k.cap
theorem DI.mono {gh : GH} {lab : Lab} {p : Nat} {k : Dk} {B B' : Nat} (h : DI gh lab p k B) (hB : B ≤ B') : DI gh lab p k B' := ⟨h.i, h.ok.mono hB, h.cap⟩
def Did (gh : GH) (lab : Lab) (p : Nat) (k : Dk) (B : Nat) (g : GH) : Prop := ∃ lab', Upd gh g lab lab' (fun _ => True) (fun _ => False) ∧ DI g lab' p k B
structure Side (gh : GH) (lab : Lab) (x : Nat) (o : GObj) : Prop where
 at_ : gh.get x = some o
 no : lab x = none
 lt : x < gh.next
theorem Side.upd {gh g : GH} {lab lab' : Lab} {x : Nat} {o : GObj} {T : Nat × Nat → Prop} (h : Side gh lab x o) (u : Upd gh g lab lab' T (fun _ => False)) : Side g lab' x o :=
 ⟨(u.get x h.lt (fun q => q) (fun r e => by rw [h.no] at e; cases e)).trans h.at_, (u.old x h.lt).trans h.no, Nat.lt_of_lt_of_le h.lt u.next⟩
theorem PkOk.sz' {k : Dk} {B : Nat} (h : PkOk k B) (hB : B ≤ 1000000000) : ∀ nd ∈ k.nodes, nd.seen.b.length ≤ 140737488355328 := fun nd hn => by
 have h1 := h.sz nd hn
 have h2 := seen_len nd
 omega
theorem op_cap (k : Dk) (c : Bool) (i : Int) (f : Nd → Nd) : (k.op c i f).cap = k.cap := by
 unfold Dk.op; split
 ·split <;> rfl
 ·rfl
theorem cap_app (k : Dk) (i : Int) (b : Bs) : (k.appD i b).1.cap = k.cap := by
 unfold Dk.appD; dsimp only
 split
 ·rfl
 ·split
  ·rfl
  ·split
   ·rfl
   ·exact op_cap _ _ _ _
theorem cap_sync (k : Dk) (i : Int) : (k.syncD i).1.cap = k.cap := by
 unfold Dk.syncD; split
 ·rfl
 ·exact op_cap _ _ _ _
theorem cap_cut (k : Dk) (i n : Int) : (k.cutD i n).1.cap = k.cap := by
 unfold Dk.cutD; split
 ·rfl
 ·split
  ·split
   ·rfl
   ·exact op_cap _ _ _ _
  ·rfl
theorem cap_unl (k : Dk) (i : Int) (s : Bs) : (k.unlD i s).1.cap = k.cap := by
 unfold Dk.unlD; split
 ·rfl
 ·split
  ·split
   ·rfl
   ·exact op_cap _ _ _ _
  ·rfl
theorem cap_make (k : Dk) (i : Int) (s : Bs) (d : Bool) : (k.makeD i s d).1.cap = k.cap := by
 unfold Dk.makeD; dsimp only
 split
 ·rfl
 ·split
  ·rfl
  ·split
   ·rfl
   ·split
    ·rfl
    ·split
     ·rfl
     ·split
      ·rfl
      ·dsimp only; split <;> rfl
section
variable {gh : GH} {lab : Lab} {p : Nat} {k : Dk} {B : Nat} (h : DI gh lab p k B)
include h
theorem dFind (i : Int) (hi : I64 i) (s : Bs) : FnG Tryz.prog 23 [.gp p 0, .int .i64 i, .str s] gh fun rs g => ∃ j e : Int, rs = [.v (.int .i64 j), .v (.int .i64 e)] ∧ j = (k.findE i s).1 ∧ e = (k.findE i s).2 ∧ gh = g := gFind h.i i hi s
theorem dRead (hB : B ≤ 1000000000) (i a n : Int) (hi : I64 i) (ha : I64 a) (hn : I64 n) : FnG Tryz.prog 25 [.gp p 0, .int .i64 i, .int .i64 a, .int .i64 n] gh fun rs g => ∃ (r : List V) (e : Int), rs = [.v (.slice r), .v (.int .i64 e)] ∧ r = bytesV (k.readM i a n).1 ∧ e = (k.readM i a n).2 ∧ gh = g := gRead h.i i a n hi ha hn (h.ok.sz' hB)
theorem dAppend (i : Int) (hi : I64 i) (b : Bs) (l : List V) (hl : l = bytesV b) (hB : B + b.length ≤ 1000000000) : FnG Tryz.prog 34 [.gp p 0, .int .i64 i, .slice l] gh fun rs g => ∃ e : Int, rs = [.v (.int .i64 e)] ∧ e = (k.appD i b).2 ∧ Did gh lab p (k.appD i b).1 (B + b.length) g :=
 (gAppend h.i h.ok i hi b l hl hB h.cap).mono fun rs g ⟨e, lab', q1, q2, q3, q4, q5⟩ => ⟨e, q1, q2, lab', q3, q4, q5, by rw [cap_app]; exact h.cap⟩
theorem dSync (hB : B ≤ 1000000000) (i : Int) (hi : I64 i) : FnG Tryz.prog 44 [.gp p 0, .int .i64 i] gh fun rs g => ∃ e : Int, rs = [.v (.int .i64 e)] ∧ e = (k.syncD i).2 ∧ Did gh lab p (k.syncD i).1 B g :=
 (gSync h.i h.ok hB i hi).mono fun rs g ⟨e, lab', q1, q2, q3, q4, q5⟩ => ⟨e, q1, q2, lab', q3, q4, q5, by rw [cap_sync]; exact h.cap⟩
theorem dCut (hB : B ≤ 1000000000) (i : Int) (hi : I64 i) (n : Int) : FnG Tryz.prog 42 [.gp p 0, .int .i64 i, .int .i64 n] gh fun rs g => ∃ e : Int, rs = [.v (.int .i64 e)] ∧ e = (k.cutD i n).2 ∧ Did gh lab p (k.cutD i n).1 (B + 1) g :=
 (gCut h.i h.ok hB i hi n).mono fun rs g ⟨e, lab', q1, q2, q3, q4, q5⟩ => ⟨e, q1, q2, lab', q3, q4, q5, by rw [cap_cut]; exact h.cap⟩
theorem dUnl (hB : B ≤ 1000000000) (i : Int) (hi : I64 i) (s : Bs) : FnG Tryz.prog 52 [.gp p 0, .int .i64 i, .str s] gh fun rs g => ∃ e : Int, rs = [.v (.int .i64 e)] ∧ e = (k.unlD i s).2 ∧ Did gh lab p (k.unlD i s).1 (B + 1) g :=
 (gUnl h.i h.ok hB i hi s).mono fun rs g ⟨e, lab', q1, q2, q3, q4, q5⟩ => ⟨e, q1, q2, lab', q3, q4, q5, by rw [cap_unl]; exact h.cap⟩
theorem dCreate (hB : B ≤ 1000000000) (i : Int) (hi : I64 i) (s : Bs) : FnG Tryz.prog 100 [.gp p 0, .int .i64 i, .str s] gh fun rs g => ∃ n e : Int, rs = [.v (.int .i64 n), .v (.int .i64 e)] ∧ n = (k.makeD i s false).2.1 ∧ e = (k.makeD i s false).2.2 ∧ Did gh lab p (k.makeD i s false).1 (B + 1) g :=
 (gCreate h.i h.ok hB i hi s).mono fun rs g ⟨n, e, lab', q1, q2, q2', q3, q4, q5⟩ => ⟨n, e, q1, q2, q2', lab', q3, q4, q5, by rw [cap_make]; exact h.cap⟩
end
theorem crashL_get : ∀ (l : List Nd) (keep : Bs) (i : Nat) (x : Nd), (crashL l keep)[i]? = some x → ∃ nd m, l[i]? = some nd ∧ m ≤ nd.parts ∧ x = nd.crash m
 | [], _, i, x, h => by simp [crashL] at h
 | nd :: r, keep, 0, x, h => ⟨nd, _, rfl, keepN_le nd keep, by simp [crashL] at h; exact h.symm⟩
 | nd :: r, keep, i + 1, x, h => by
  simp only [crashL, List.getElem?_cons_succ] at h
  obtain ⟨n, m, h1, h2, h3⟩ := crashL_get r _ i x h
  exact ⟨n, m, by simpa using h1, h2, h3⟩
theorem PkOk.crash {k : Dk} {B : Nat} (h : PkOk k B) (keep : Bs) : PkOk (k.crash keep) B := by
 have hl : (k.crash keep).nodes.length = k.nodes.length := crashL_len _ _
 have hg : ∀ (i : Nat) (x : Nd), (k.crash keep).nodes[i]? = some x → ∃ nd m, k.nodes[i]? = some nd ∧ m ≤ nd.parts ∧ x = nd.crash m := fun i x q => crashL_get _ _ i x q
 refine ⟨by rw [hl]; exact h.one, by rw [hl]; exact h.most, fun x hx => ?_, fun x hx => ?_, ?_, fun i x hx => ?_⟩
 ·obtain ⟨i, hi⟩ := List.mem_iff_getElem?.1 hx
  obtain ⟨nd, m, h1, h2, rfl⟩ := hg i x hi
  trivial
 ·obtain ⟨i, hi⟩ := List.mem_iff_getElem?.1 hx
  obtain ⟨nd, m, h1, h2, rfl⟩ := hg i x hi
  have q1 := h.sz nd (List.mem_of_getElem? h1)
  have q2 := runs_len nd.loose nd.safe m
  simp only [Nd.crash, Nd.parts, List.map_nil, List.sum_nil] at *; omega
 ·obtain ⟨r, hr, hd⟩ := h.root
  have h0 : 0 < (k.crash keep).nodes.length := by rw [hl]; exact h.one
  obtain ⟨x, hx⟩ : ∃ x, (k.crash keep).nodes[0]? = some x := ⟨_, List.getElem?_eq_getElem h0⟩
  obtain ⟨nd, m, h1, h2, rfl⟩ := hg 0 x hx
  rw [hr] at h1; cases h1
  exact ⟨_, hx, hd⟩
 ·obtain ⟨nd, m, h1, h2, rfl⟩ := hg i x hx
  rw [hl]
  obtain ⟨q1, q2⟩ := h.en i nd h1
  exact ⟨runs_en (P := fun j => i + 1 < j ∧ j ≤ k.nodes.length) m (h.ls nd (List.mem_of_getElem? h1)) q1 (fun t j q => q2 t j q), fun t j q => by simp [Nd.crash] at q⟩
theorem dCrash {gh : GH} {lab : Lab} {p : Nat} {k : Dk} {B : Nat} (h : DI gh lab p k B) (hB : B ≤ 1000000000) (keep : Bs) (l : List V) (hl : l = bytesV keep) (hkl : keep.length ≤ 140737488355328) : FnG Tryz.prog 30 [.gp p 0, .slice l] gh fun rs g => rs = [] ∧ Did gh lab p (k.crash keep) B g :=
 (gCrash h.i (fun nd hn => ⟨h.ok.ls nd hn, Nat.le_trans (h.ok.sz nd hn) hB⟩) (Nat.le_trans h.ok.most (by decide)) keep l hl hkl).mono fun rs g ⟨q1, lab', q2, q3⟩ => ⟨q1, lab', q2, q3, h.ok.crash keep, h.cap⟩
theorem PkOk.new (c : Int) : PkOk (dkNew c) 0 := ⟨Nat.le_refl _, Nat.le_of_ble_eq_true rfl, fun x hx => by simp [dkNew] at hx; subst hx; trivial, fun x hx => by simp [dkNew] at hx; subst hx; simp [nd0, Nd.parts], ⟨nd0 true, rfl, rfl⟩, fun i x hx => by
 cases i with
 | zero => simp [dkNew] at hx; subst hx; exact ⟨fun e he => by simp [nd0] at he, fun t j q => by simp [nd0] at q⟩
 | succ i => simp [dkNew] at hx⟩
theorem dNew (gh : GH) (c : Int) (hc : 0 ≤ c) (hc2 : c ≤ 9223372036854775807) : FnG Tryz.prog 6 [.int .i64 c] gh fun rs g => ∃ (p : Nat) (lab' : Lab), rs = [.v (.gp p 0)] ∧ gh.next ≤ p ∧ gh.next ≤ g.next ∧ (∀ x, x < gh.next → lab' x = none ∧ g.get x = gh.get x) ∧ DI g lab' p (dkNew c) 0 :=
 (gNew gh lab0 (fun _ _ => rfl) (fun _ e => nomatch e) c hc).mono fun rs g ⟨p, lab', q1, q2, q3, q4⟩ => ⟨p, lab', q1, q2, q3.next, fun x hx => ⟨(q3.old x hx).trans rfl, q3.get x hx (fun h => h) (fun r e => nomatch e)⟩, q4, PkOk.new c, w64_id (by show -9223372036854775808 ≤ c ∧ c ≤ _; omega)⟩
def Dk.failD (k : Dk) (n : Int) (done : Bool) : Dk × Int := if k.down then (k, 12) else if n < 0 then (k, 2) else ({ k with fail := ⟨true, n⟩, done := done }, 0)
theorem dFail {gh : GH} {lab : Lab} {p : Nat} {k : Dk} {B : Nat} (h : DI gh lab p k B) (n : Int) (d : Bool) : FnG Tryz.prog 32 [.gp p 0, .int .i64 n, .bool d] gh fun rs g => ∃ e : Int, rs = [.v (.int .i64 e)] ∧ e = (k.failD n d).2 ∧ Did gh lab p (k.failD n d).1 B g := by
 obtain ⟨v, ids, hX⟩ := h.i.at_.x
 have hbox := hX.box
 have hup := gUp gh p v k hbox
 have htl := gTell (d := .gp p 0) (o := 6) hbox (by simp) n k.fail.is k.fail.after rfl rfl
 have stay : ∀ e, k.failD n d = (k, e) → ∃ e' : Int, [Rs.v (.int .i64 e)] = [.v (.int .i64 e')] ∧ e' = (k.failD n d).2 ∧ Did gh lab p (k.failD n d).1 B gh := fun e q => ⟨e, rfl, by rw [q], lab, Upd.refl hX.dom _ _, by rw [q]; exact h⟩
 refine FnG.of' T_ok M_ok [] (fn := Tryz.f32) (by kernel_rfl) rfl rfl rfl rfl (Nat.le_of_ble_eq_true rfl) fun A hA => ?_
 cbv
 refine callGI hA (hup) ?_
 intro rs_ g_ h_
 obtain ⟨e, q_1, he, q_2⟩ := h_
 subst q_1
 subst q_2
 cbv
 refine condI hA (fun h1 => ?_) (fun h1 => ?_)
 ·have h1 := zneT hA h1
  have hd : k.down = true := by
   cases q : k.down with
   | true => rfl
   | false => exact absurd (he.trans (by unfold upE; rw [q]; rfl)) h1
  have he : e = 12 := he.trans (by unfold upE; rw [hd]; rfl)
  cbv
  exact retGI hA rfl [.v (.int .i64 e)] gh (stay e (by unfold Dk.failD; rw [if_pos hd, he]))
 ·have h1 := zneF hA h1
  have hd : ¬ k.down = true := fun q => by rw [he] at h1; unfold upE at h1; rw [q] at h1; cases h1
  cbv
  refine callGI hA (htl) ?_
  intro rs_ g1 h_
  obtain ⟨e1, q_1, he1, hg1⟩ := h_
  subst q_1
  cbv
  have hE : n < 0 → k.failD n d = (k, 2) := fun q => by unfold Dk.failD; rw [if_neg hd, if_pos q]
  have hF : ¬ n < 0 → k.failD n d = ({ k with fail := ⟨true, n⟩, done := d }, 0) := fun q => by unfold Dk.failD; rw [if_neg hd, if_neg q]
  refine condI hA (fun h2 => ?_) (fun h2 => ?_)
  ·have h2 : e1 = 0 := zeqT hA h2
   have hn : ¬ n < 0 := fun q => by rw [if_pos q] at he1; rw [h2] at he1; cases he1
   rw [if_neg hn] at hg1
   have b1 : g1.get p = some (boxD v { k with fail := ⟨true, n⟩ }) := by rw [hg1]; simp; rfl
   cbv
   refine gstI hA _ b1 ?_
   intro g2 hg2
   have hg2 : g2 = gh.set p (boxD v { k with fail := ⟨true, n⟩, done := d }) := by rw [hg2, hg1, set_set]; rfl
   obtain ⟨hX2, u2⟩ := hX.cells (k' := { k with fail := ⟨true, n⟩, done := d }) hg2 rfl
   cbv
   exact retGI hA rfl [.v (.int .i64 e1)] g2 (⟨e1, rfl, by rw [hF hn]; exact h2, lab, u2.weak (fun _ _ => trivial) (fun _ h => h.elim), by rw [hF hn]; exact ⟨⟨hX2.at, h.i.one⟩, h.ok.same rfl, h.cap⟩⟩)
  ·have h2 : e1 ≠ 0 := zeqF hA h2
   have hn : n < 0 := Classical.byContradiction fun q => by rw [if_neg q] at he1; exact h2 he1
   rw [if_pos hn] at hg1 he1
   subst hg1
   cbv
   exact retGI hA rfl [.v (.int .i64 e1)] g1 (stay e1 (by rw [hE hn, he1]))
open Go Go.RowKit
def beN (b : List UInt8) : Nat := b.foldl (fun n c => n * 256 + c.toNat) 0
def numberM (b : List UInt8) : Option Nat := if 8 < b.length ∨ b.head? = some 0 then none else some (beN b)
def numberN (b : List UInt8) : Nat := match numberM b with
 | some n => n
 | none => 0
def numberE (b : List UInt8) : Int := match numberM b with
 | some _ => 0
 | none => 4
theorem beN_take {b : List UInt8} {j : Nat} (h : j < b.length) : beN (b.take (j + 1)) = beN (b.take j) * 256 + (b[j]).toNat := by
 unfold beN; rw [List.take_succ_eq_append_getElem h, List.foldl_append]; rfl
theorem beN_lt' : ∀ (b : List UInt8) (n : Nat), b.foldl (fun n c => n * 256 + c.toNat) n < (n + 1) * 256 ^ b.length
 | [], n => by simp
 | c :: b, n => by
  have h := beN_lt' b (n * 256 + c.toNat)
  have c8 := c.toNat_lt
  rw [List.foldl_cons, List.length_cons, Nat.pow_succ, Nat.mul_comm (256 ^ b.length) 256, ← Nat.mul_assoc]
  exact Nat.lt_of_lt_of_le h (Nat.mul_le_mul_right _ (by omega))
theorem beN_lt (b : List UInt8) : beN b < 256 ^ b.length := by have := beN_lt' b 0; simpa [beN] using this
theorem beN_ge {b : List UInt8} {j : Nat} (hj : j < b.length) (h : b.head? ≠ some 0) : 256 ^ j ≤ beN (b.take (j + 1)) := by
 induction j with
 | zero =>
  rw [beN_take hj]
  have h0 : b[0] ≠ 0 := fun e => h (by rw [List.head?_eq_getElem?, List.getElem?_eq_getElem hj, e])
  have : b[0].toNat ≠ 0 := fun e => h0 (UInt8.toNat_inj.1 (by simpa using e))
  simp [beN]; omega
 | succ j ih =>
  have := ih (by omega)
  rw [beN_take hj, Nat.pow_succ]
  omega
theorem number_bad {b : List UInt8} (h : 8 < b.length ∨ b.head? = some 0) : numberN b = 0 ∧ numberE b = 4 := by
 have : numberM b = none := if_pos h
 simp [numberN, numberE, this]
theorem number_good {b : List UInt8} (h : ¬ (8 < b.length ∨ b.head? = some 0)) : numberN b = beN b ∧ numberE b = 0 := by
 have : numberM b = some (beN b) := if_neg h
 simp [numberN, numberE, this]
theorem bits_or_u64_nat (a b : Nat) (ha : a < 18446744073709551616) (hb : b < 18446744073709551616) : bits .or .u64 (a : Int) (b : Int) = ((a ||| b : Nat) : Int) := by
 have hx : a ||| b < 2 ^ 64 := Nat.or_lt_two_pow (by omega) (by omega)
 have h1 : (BitVec.ofInt 64 (a : Int)).toNat = a := by
  rw [BitVec.ofInt_natCast, BitVec.toNat_ofNat]; exact Nat.mod_eq_of_lt (by omega)
 have h2 : (BitVec.ofInt 64 (b : Int)).toNat = b := by
  rw [BitVec.ofInt_natCast, BitVec.toNat_ofNat]; exact Nat.mod_eq_of_lt (by omega)
 show IntKind.u64.wrap ((BitVec.ofInt 64 (a : Int) ||| BitVec.ofInt 64 (b : Int)).toNat : Int) = _
 rw [BitVec.toNat_or, h1, h2]
 exact wrap_u64n (by omega)
section
variable {A : Prim} {P : Program} {R : List (Nat × AObj) → List D → Prop} (hA : A = std P R)
include hA
theorem acc64 {n m : Int} {x y : Nat} (hn : n = x) (hm : m = y) (hx : x < 72057594037927936) (hy : y < 256) : A.bits .or .u64 (A.shl .u64 n 8) (A.wrap .u64 m) = ((x * 256 + y : Nat) : Int) := by
 rw [hA, hn, hm]; simp only [std]
 have e2 : (2 : Int) ^ (min (Int.toNat 8) IntKind.u64.bits) = 256 := by decide
 rw [e2, show (x : Int) * 256 = ((x * 256 : Nat) : Int) from by simp, wrap_u64n (by omega), wrap_u64n (by omega), bits_or_u64_nat _ _ (by omega) (by omega), or_256 _ _ hy]
theorem acc64' {n m : Int} {x y : Nat} (hn : n = x) (hm : m = y) (hx : x < 72057594037927936) (hy : y < 256) : A.wrap .u64 (A.add (A.wrap .u64 (A.mul 256 n)) (A.wrap .u64 m)) = ((x * 256 + y : Nat) : Int) := by
 rw [hA, hn, hm]; simp only [std]
 rw [show 256 * (x : Int) = ((x * 256 : Nat) : Int) from by simp; omega, wrap_u64n (by omega), wrap_u64n (by omega)]
 rw [show ((x * 256 : Nat) : Int) + (y : Int) = ((x * 256 + y : Nat) : Int) from by simp]
 exact wrap_u64n (by omega)
theorem shr56T {n : Int} {x : Nat} (hn : n = x) (h : A.ine (A.shr .u64 n 56) 0 = true) : 72057594037927936 ≤ x := by
 rw [hA, hn] at h; simp only [std] at h
 have e2 : (2 : Int) ^ (min (Int.toNat 56) IntKind.u64.bits) = ((72057594037927936 : Nat) : Int) := by decide
 rw [e2, Int.fdiv_eq_ediv_of_nonneg _ (by omega)] at h
 have h2 : ((x : Int) / ((72057594037927936 : Nat) : Int)) ≠ 0 := by simpa using h
 omega
theorem shr56F {n : Int} {x : Nat} (hn : n = x) (h : A.ine (A.shr .u64 n 56) 0 = false) : x < 72057594037927936 := by
 rw [hA, hn] at h; simp only [std] at h
 have e2 : (2 : Int) ^ (min (Int.toNat 56) IntKind.u64.bits) = ((72057594037927936 : Nat) : Int) := by decide
 rw [e2, Int.fdiv_eq_ediv_of_nonneg _ (by omega)] at h
 have h2 : ((x : Int) / ((72057594037927936 : Nat) : Int)) = 0 := by simpa using h
 omega
theorem eq0T {n : Int} {x : Nat} (hn : n = x) (h : A.ieq n 0 = true) : x = 0 := by have := eqT hA h; omega
theorem eq0F {n : Int} {x : Nat} (hn : n = x) (h : A.ieq n 0 = false) : x ≠ 0 := by have := eqF hA h; omega
end
theorem pow56 {j n : Nat} (h : n < 256 ^ j) (hn : 72057594037927936 ≤ n) : 8 ≤ j := by
 refine Nat.le_of_not_lt fun hj => ?_
 have : 256 ^ j ≤ 256 ^ 7 := Nat.pow_le_pow_right (by decide) (by omega)
 have e : (256 : Nat) ^ 7 = 72057594037927936 := by decide
 omega
theorem cNumber (b : List UInt8) (l : List V) (hl : l = bytesV b) (hb : b.length ≤ 140737488355328) : CallR Tryz.prog 116 [.slice l] fun rs => ∃ (v e : Int), rs = [.v (.int .u64 v), .v (.int .i64 e)] ∧ v = (numberN b : Nat) ∧ e = numberE b := by
 obtain ⟨v, hv⟩ : ∃ v : Int, v = (numberN b : Nat) := ⟨_, rfl⟩
 obtain ⟨e, he⟩ : ∃ e, e = numberE b := ⟨_, rfl⟩
 refine .of [.v (.int .u64 v), .v (.int .i64 e)] ⟨v, e, rfl, hv, he⟩ ?_
 refine FnR.of' T_ok M_ok (fn := Tryz.f116) (by kernel_rfl) rfl rfl rfl rfl (Nat.le_of_ble_eq_true rfl) fun A hA => ?_
 cbv
 have bad : 8 < b.length ∨ b.head? = some 0 → (0 : Int) = v ∧ (4 : Int) = e := fun h => by
  rw [hv, he, (number_bad h).1, (number_bad h).2]; exact ⟨rfl, rfl⟩
 refine loopF hA (ι := Int × Int) (fun p => { n := 31, sl := [(4, .v (.int .u64 p.2)), (7, .v (.slice l)), (8, .v (.int .i64 (A.lenL l))), (9, .v (.int .i64 p.1))], ob := [] })
  (fun p => ∃ j : Nat, p.1 = j ∧ j ≤ b.length ∧ p.2 = (beN (b.take j) : Nat) ∧ (0 < j → b.head? ≠ some 0) ∧ j ≤ 8) (fun p => b.length - p.1.toNat) (_, _) (weakI rfl ⟨rfl, rfl, rfl, rfl, trivial⟩ trivial) ⟨0, rfl, Nat.zero_le _, rfl, by simp, by simp⟩ ?_
 rintro ⟨i, n⟩ ⟨j, hi, hj, hn, hd, h8⟩
 dsimp only at hi hn
 cbv
 refine condI hA (fun hc => ?_) (fun hc => ?_)
 ·have hjl := ltL hA (natEq hi) (lenB hl) hc
  have hlt : beN (b.take j) < 256 ^ j := by have := beN_lt (b.take j); rwa [List.length_take, Nat.min_eq_left (by omega)] at this
  cbv
  refine getBN hA hl (natEq hi) hjl ?_
  rintro c hcv
  cbv
  have c8 : (b[j]'hjl).toNat < 256 := (b[j]'hjl).toNat_lt
  refine condI hA (fun g1 => ?_) (fun g1 => ?_)
  ·have g1 := eq0T hA (natEq hn) g1
   have j0 : j = 0 := by
    rcases Nat.eq_zero_or_pos j with h | h
    ·exact h
    ·have := beN_ge (b := b) (j := j - 1) (by omega) (hd h)
     rw [show j - 1 + 1 = j from by omega, g1] at this
     have := Nat.pow_pos (n := j - 1) (show 0 < 256 from by decide)
     omega
   cbv
   refine condI hA (fun g2 => ?_) (fun g2 => ?_)
   ·have g2 := eq0T hA (natEq hcv) g2
    have q := bad (.inr (by
     subst j0
     rw [List.head?_eq_getElem?, List.getElem?_eq_getElem hjl]
     exact congrArg some (UInt8.toNat_inj.1 g2)))
    cbv
    refine retI hA ?_
    exact ⟨congrArg (fun q => some (V.int .u64 q)) q.1, congrArg (fun q => some (V.int .i64 q)) q.2, trivial⟩
   ·have g2 := eq0F hA (natEq hcv) g2
    cbv
    refine nnegI hA (by decide) ?_
    cbv
    refine condI hA (fun g3 => ?_) (fun g3 => ?_)
    ·have g3 := shr56T hA (natEq hn) g3
     rw [g1] at g3; omega
    ·have g3 := shr56F hA (natEq hn) g3
     cbv
     refine nnegI hA (by decide) ?_
     cbv
     refine ⟨(_, _), weakI rfl ⟨rfl, rfl, rfl, rfl, trivial⟩ trivial, ⟨j + 1, upI hA (natEq hi) (by omega), hjl, (acc64 hA (natEq hn) (natEq hcv) g3 c8).trans (congrArg Nat.cast (beN_take hjl).symm), fun _ h => ?_, by omega⟩, upM hA (natEq hi) hjl hb⟩
     subst j0
     rw [List.head?_eq_getElem?, List.getElem?_eq_getElem hjl] at h
     exact g2 (congrArg UInt8.toNat (Option.some.inj h))
  ·have g1 := eq0F hA (natEq hn) g1
   have j0 : 0 < j := by
    rcases Nat.eq_zero_or_pos j with h | h
    ·subst h; exact absurd rfl g1
    ·exact h
   cbv
   refine nnegI hA (by decide) ?_
   cbv
   refine condI hA (fun g3 => ?_) (fun g3 => ?_)
   ·have g3 := shr56T hA (natEq hn) g3
    have := pow56 hlt g3
    have q := bad (.inl (by omega))
    cbv
    refine retI hA ?_
    exact ⟨congrArg (fun q => some (V.int .u64 q)) q.1, congrArg (fun q => some (V.int .i64 q)) q.2, trivial⟩
   ·have g3 := shr56F hA (natEq hn) g3
    have hj8 : j < 8 := Nat.lt_of_not_le fun h => by
     have h1 := beN_ge (b := b) (j := j - 1) (by omega) (hd j0)
     rw [show j - 1 + 1 = j from by omega] at h1
     have h2 : 256 ^ 7 ≤ 256 ^ (j - 1) := Nat.pow_le_pow_right (by decide) (by omega)
     have e : (256 : Nat) ^ 7 = 72057594037927936 := by decide
     omega
    cbv
    refine nnegI hA (by decide) ?_
    cbv
    exact ⟨(_, _), weakI rfl ⟨rfl, rfl, rfl, rfl, trivial⟩ trivial, ⟨j + 1, upI hA (natEq hi) (by omega), hjl, (acc64 hA (natEq hn) (natEq hcv) g3 c8).trans (congrArg Nat.cast (beN_take hjl).symm), fun _ => hd j0, by omega⟩, upM hA (natEq hi) hjl hb⟩
 ·have hjl := geL hA (natEq hi) (lenB hl) hc hj
  cbv
  subst hjl
  rw [List.take_length] at hn
  have q := number_good (b := b) fun h => by
   rcases h with h | h
   ·omega
   ·rcases Nat.eq_zero_or_pos b.length with h0 | h0
    ·rw [List.length_eq_zero_iff.1 h0] at h; cases h
    ·exact hd h0 h
  refine retI hA ?_
  refine ⟨congrArg (fun q => some (V.int .u64 q)) ?_, congrArg (fun q => some (V.int .i64 q)) ?_, trivial⟩
  ·rw [natEq hn, hv, q.1]
  ·rw [he, q.2]
open Go Go.RowKit
theorem cNumber12 (b : List UInt8) (l : List V) (hl : l = bytesV b) (hb : b.length ≤ 140737488355328) : CallR Tryz.prog 131 [.slice l] fun rs => ∃ (v e : Int), rs = [.v (.int .u64 v), .v (.int .i64 e)] ∧ v = (numberN b : Nat) ∧ e = numberE b := by
 obtain ⟨v, hv⟩ : ∃ v : Int, v = (numberN b : Nat) := ⟨_, rfl⟩
 obtain ⟨e, he⟩ : ∃ e, e = numberE b := ⟨_, rfl⟩
 refine .of [.v (.int .u64 v), .v (.int .i64 e)] ⟨v, e, rfl, hv, he⟩ ?_
 refine FnR.of' T_ok M_ok (fn := Tryz.f131) (by kernel_rfl) rfl rfl rfl rfl (Nat.le_of_ble_eq_true rfl) fun A hA => ?_
 cbv
 have bad : 8 < b.length ∨ b.head? = some 0 → (0 : Int) = v ∧ (4 : Int) = e := fun h => by
  rw [hv, he, (number_bad h).1, (number_bad h).2]; exact ⟨rfl, rfl⟩
 refine condI hA (fun g1 => ?_) (fun g1 => ?_)
 ·have g1 := bGtT hA (m := 8) hl rfl g1
  have q := bad (.inl g1)
  cbv
  refine retI hA ?_
  exact ⟨congrArg (fun q => some (V.int .u64 q)) q.1, congrArg (fun q => some (V.int .i64 q)) q.2, trivial⟩
 ·have g1 := bGtF hA (m := 8) hl rfl g1
  cbv
  refine condI hA (fun g2 => ?_) (fun g2 => ?_)
  ·have g2 := bGtT hA (m := 0) hl rfl g2
   cbv
   refine getBN hA hl (j := 0) rfl g2 ?_
   rintro c0 hc0
   cbv
   have hd : b.head? = some b[0] := by rw [List.head?_eq_getElem?, List.getElem?_eq_getElem g2]
   refine condI hA (fun g3 => ?_) (fun g3 => ?_)
   ·have g3 := eq0T hA (natEq hc0) g3
    have q := bad (.inr (hd.trans (congrArg some (UInt8.toNat_inj.1 g3))))
    cbv
    refine retI hA ?_
    exact ⟨congrArg (fun q => some (V.int .u64 q)) q.1, congrArg (fun q => some (V.int .i64 q)) q.2, trivial⟩
   ·have g3 := eq0F hA (natEq hc0) g3
    have q := number_good (b := b) fun h => by
     rcases h with h | h
     ·exact g1 h
     ·rw [hd] at h; exact g3 (congrArg UInt8.toNat (Option.some.inj h))
    cbv
    refine loopF hA (ι := Int × Int) (fun p => { n := 35, sl := [(0, .v (.slice l)), (4, .v (.int .u64 p.2)), (5, .v (.int .i64 p.1))], ob := [] })
     (fun p => ∃ j : Nat, p.1 = j ∧ j ≤ b.length ∧ p.2 = (beN (b.take j) : Nat)) (fun p => b.length - p.1.toNat) (_, _) (weakI rfl ⟨rfl, rfl, rfl, trivial⟩ trivial) ⟨0, rfl, Nat.zero_le _, rfl⟩ ?_
    rintro ⟨i, n⟩ ⟨j, hi, hj, hn⟩
    dsimp only at hi hn
    cbv
    refine condI hA (fun hc => ?_) (fun hc => ?_)
    ·have hjl := ltL hA (natEq hi) (lenB hl) hc
     have hlt : beN (b.take j) < 256 ^ j := by have := beN_lt (b.take j); rwa [List.length_take, Nat.min_eq_left (by omega)] at this
     have h56 : beN (b.take j) < 72057594037927936 := Nat.lt_of_not_le fun h => by have := pow56 hlt h; omega
     cbv
     refine getBN hA hl (natEq hi) hjl ?_
     rintro c hcv
     cbv
     exact ⟨(_, _), weakI rfl ⟨rfl, rfl, rfl, trivial⟩ trivial, ⟨j + 1, upI hA (natEq hi) (by omega), hjl, (acc64' hA (natEq hn) (natEq hcv) h56 (b[j]'hjl).toNat_lt).trans (congrArg Nat.cast (beN_take hjl).symm)⟩, upM hA (natEq hi) hjl (by omega)⟩
    ·have hjl := geL hA (natEq hi) (lenB hl) hc hj
     cbv
     subst hjl
     rw [List.take_length] at hn
     refine retI hA ?_
     refine ⟨congrArg (fun q => some (V.int .u64 q)) ?_, congrArg (fun q => some (V.int .i64 q)) ?_, trivial⟩
     ·rw [natEq hn, hv, q.1]
     ·rw [he, q.2]
  ·have g2 := bGtF hA (m := 0) hl rfl g2
   have q := number_good (b := b) fun h => by
    rcases h with h | h
    ·exact g1 h
    ·rw [List.length_eq_zero_iff.1 (show b.length = 0 by omega)] at h; cases h
   cbv
   refine loopF hA (ι := Int × Int) (fun p => { n := 35, sl := [(0, .v (.slice l)), (4, .v (.int .u64 p.2)), (5, .v (.int .i64 p.1))], ob := [] })
    (fun p => ∃ j : Nat, p.1 = j ∧ j ≤ b.length ∧ p.2 = (beN (b.take j) : Nat)) (fun p => b.length - p.1.toNat) (_, _) (weakI rfl ⟨rfl, rfl, rfl, trivial⟩ trivial) ⟨0, rfl, Nat.zero_le _, rfl⟩ ?_
   rintro ⟨i, n⟩ ⟨j, hi, hj, hn⟩
   dsimp only at hi hn
   cbv
   refine condI hA (fun hc => ?_) (fun hc => ?_)
   ·have hjl := ltL hA (natEq hi) (lenB hl) hc
    have hlt : beN (b.take j) < 256 ^ j := by have := beN_lt (b.take j); rwa [List.length_take, Nat.min_eq_left (by omega)] at this
    have h56 : beN (b.take j) < 72057594037927936 := Nat.lt_of_not_le fun h => by have := pow56 hlt h; omega
    cbv
    refine getBN hA hl (natEq hi) hjl ?_
    rintro c hcv
    cbv
    exact ⟨(_, _), weakI rfl ⟨rfl, rfl, rfl, trivial⟩ trivial, ⟨j + 1, upI hA (natEq hi) (by omega), hjl, (acc64' hA (natEq hn) (natEq hcv) h56 (b[j]'hjl).toNat_lt).trans (congrArg Nat.cast (beN_take hjl).symm)⟩, upM hA (natEq hi) hjl (by omega)⟩
   ·have hjl := geL hA (natEq hi) (lenB hl) hc hj
    cbv
    subst hjl
    rw [List.take_length] at hn
    refine retI hA ?_
    refine ⟨congrArg (fun q => some (V.int .u64 q)) ?_, congrArg (fun q => some (V.int .i64 q)) ?_, trivial⟩
    ·rw [natEq hn, hv, q.1]
    ·rw [he, q.2]
theorem unpackM_len : ∀ (b : List UInt8) fs, unpackM b = some fs → fs.length ≤ b.length
 | [], fs, h => by rw [unpackM] at h; cases h; simp
 | [_], fs, h => by rw [unpackM] at h; cases h
 | x :: y :: r, fs, h => by
  rw [unpackM_cons] at h
  split at h
  ·cases h
  ·split at h
   ·rename_i gs hg
    cases h
    have := unpackM_len _ _ hg
    simp at this ⊢; omega
   ·cases h
termination_by b => b.length
decreasing_by simp only [List.length_drop, List.length_cons]; omega
theorem unpackL_len (b : List UInt8) : (unpackL b).length ≤ b.length := by
 unfold unpackL
 split
 ·rename_i fs h; exact unpackM_len b fs h
 ·simp
theorem app_ss {A : Prim} {P : Program} {R : List (Nat × AObj) → List D → Prop} (hA : A = std P R) {x y : List V} {a b : List (List UInt8)} (hx : x = strsV a) (hy : y = strsV b) : A.app x y = strsV (a ++ b) := by
 rw [hA]; simp only [std]; rw [hx, hy]; simp [strsV]
theorem cStrings (b : List UInt8) (l : List V) (hl : l = bytesV b) (hb : b.length ≤ 4000000000) : CallR Tryz.prog 117 [.slice l] fun rs => ∃ (r : List V) (e : Int), rs = [.v (.slice r), .v (.int .i64 e)] ∧ r = strsV (unpackL b) ∧ e = unpackE b := by
 obtain ⟨r, hr⟩ : ∃ r, r = strsV (unpackL b) := ⟨_, rfl⟩
 obtain ⟨e, he⟩ : ∃ e, e = unpackE b := ⟨_, rfl⟩
 refine .of [.v (.slice r), .v (.int .i64 e)] ⟨r, e, rfl, hr, he⟩ ?_
 refine FnR.of' T_ok M_ok (fn := Tryz.f117) (by kernel_rfl) rfl rfl rfl rfl (Nat.le_of_ble_eq_true rfl) fun A hA => ?_
 cbv
 refine callI hA (cUnpack b l hl hb) ?_
 intro rs_ h_
 obtain ⟨fs, e1, q_1, hfs, he1⟩ := h_
 subst q_1
 cbv
 have hle := unpackL_len b
 refine loopF hA (ι := Int × List V) (fun p => { n := 28, sl := [(5, .v (.int .i64 e1)), (6, .own 24), (14, .v (.slice fs)), (15, .v (.int .i64 (A.lenL fs))), (16, .v (.int .i64 p.1))], ob := [(24, .row 1 p.2 true)] })
  (fun p => ∃ j : Nat, p.1 = j ∧ j ≤ (unpackL b).length ∧ p.2 = strsV ((unpackL b).take j)) (fun p => (unpackL b).length - p.1.toNat) (_, _) ((weak_nils _ 6 24 1 true rfl).trans (weakI rfl ⟨rfl, rfl, rfl, rfl, rfl, trivial⟩ ⟨rfl, trivial⟩)) ⟨0, rfl, Nat.zero_le _, rfl⟩ ?_
 rintro ⟨i, x⟩ ⟨j, hi, hj, hx⟩
 dsimp only at hi hx
 cbv
 refine condI hA (fun hc => ?_) (fun hc => ?_)
 ·have hjl := ltL hA (natEq hi) (lenLs hfs) hc
  cbv
  refine getLN hA hfs (natEq hi) hjl ?_
  rintro f hf
  cbv
  refine b2sN hA hf ?_
  rintro s hs
  cbv
  have h1 : [V.str s] = strsV [(unpackL b)[j]'hjl] := by rw [hs]; rfl
  refine roomI hA (by rw [hx, strsV_len]; simp; omega) ?_
  cbv
  refine ⟨(_, _), weakI rfl ⟨rfl, rfl, rfl, rfl, rfl, trivial⟩ ⟨rfl, trivial⟩, ⟨j + 1, upI hA (natEq hi) (by omega), hjl, ?_⟩, upM hA (natEq hi) hjl (by omega)⟩
  refine (app_ss hA hx h1).trans ?_
  rw [List.take_succ_eq_append_getElem hjl]
 ·have hjl := geL hA (natEq hi) (lenLs hfs) hc hj
  cbv
  subst hjl
  rw [List.take_length] at hx
  refine retI hA ?_
  exact ⟨congrArg (fun q => some (V.slice q)) (hx.trans hr.symm), congrArg (fun q => some (V.int .i64 q)) (he1.trans he.symm), trivial⟩
theorem len16' {A : Prim} {P : Program} {R : List (Nat × AObj) → List D → Prop} (hA : A = std P R) {n m : Int} {x y : Nat} (hn : n = x) (hm : m = y) (hx : x < 256) (hy : y < 256) : A.wrap .i64 (A.add (A.wrap .i64 (A.mul 256 (A.wrap .i64 n))) (A.wrap .i64 m)) = ((x * 256 + y : Nat) : Int) := by
 rw [hA, hn, hm]; simp only [std]
 have e1 : IntKind.i64.wrap (x : Int) = (x : Int) := wrap_i64 (by omega) (by omega)
 have e2 : IntKind.i64.wrap (y : Int) = (y : Int) := wrap_i64 (by omega) (by omega)
 rw [e1, e2, show 256 * (x : Int) = ((x * 256 : Nat) : Int) from by simp; omega]
 rw [wrap_i64 (n := ((x * 256 : Nat) : Int)) (by omega) (by omega)]
 rw [show ((x * 256 : Nat) : Int) + (y : Int) = ((x * 256 + y : Nat) : Int) from by simp]
 exact wrap_i64 (by omega) (by omega)
theorem add2 {A : Prim} {P : Program} {R : List (Nat × AObj) → List D → Prop} (hA : A = std P R) {n : Int} {m : Nat} (hn : n = m) (hm : m ≤ 4100000000) : A.wrap .i64 (A.add 2 n) = ((2 + m : Nat) : Int) := by
 rw [hA, hn]; simp only [std]
 rw [show (2 : Int) + (m : Int) = ((2 + m : Nat) : Int) from by simp]; exact wrap_i64 (by omega) (by omega)
theorem sub2 {A : Prim} {P : Program} {R : List (Nat × AObj) → List D → Prop} (hA : A = std P R) {n : Int} {m : Nat} (hn : n = m) (h2 : 2 ≤ m) (hm : m ≤ 4100000000) : A.wrap .i64 (A.sub n 2) = ((m - 2 : Nat) : Int) := by
 rw [hA, hn]; simp only [std]
 rw [show (m : Int) - 2 = ((m - 2 : Nat) : Int) from by omega]; exact wrap_i64 (by omega) (by omega)
theorem cutMid {l r : List V} {b : List UInt8} {lo hi : Int} {k m : Nat} (hlo : lo = (k : Int)) (hhi : hi = (m : Int)) (hl : l = bytesV b) (hr : r = (l.take hi.toNat).drop lo.toNat) : r = bytesV ((b.take m).drop k) := by
 subst hlo hhi hl hr; simp [bytesV]
theorem cUnpack12 (b : List UInt8) (l : List V) (hl : l = bytesV b) (hb : b.length ≤ 4000000000) : CallR Tryz.prog 130 [.slice l] fun rs => ∃ (r : List V) (e : Int), rs = [.v (.slice r), .v (.int .i64 e)] ∧ r = listsV (unpackL b) ∧ e = unpackE b := by
 obtain ⟨r, hr⟩ : ∃ r, r = listsV (unpackL b) := ⟨_, rfl⟩
 obtain ⟨e, he⟩ : ∃ e, e = unpackE b := ⟨_, rfl⟩
 refine .of [.v (.slice r), .v (.int .i64 e)] ⟨r, e, rfl, hr, he⟩ ?_
 refine FnR.of' T_ok M_ok (fn := Tryz.f130) (by kernel_rfl) rfl rfl rfl rfl (Nat.le_of_ble_eq_true rfl) fun A hA => ?_
 cbv
 refine loopF hA (ι := List V × List V) (fun p => { n := 45, sl := [(0, .v (.slice p.1)), (4, .own 39)], ob := [(39, .row 1 p.2 true)] })
  (fun p => ∃ (b' : List UInt8) (a : List (List UInt8)), p.1 = bytesV b' ∧ p.2 = listsV a ∧ a.length + b'.length ≤ 4000000000 ∧ unpackM b = upTo a (unpackM b')) (fun p => p.1.length) (_, _) ((weak_nils _ 4 39 1 true rfl).trans (weakI rfl ⟨rfl, rfl, trivial⟩ ⟨rfl, trivial⟩)) ⟨b, [], hl, rfl, by simpa using hb, by unfold upTo; cases unpackM b <;> simp⟩ ?_
 rintro ⟨y, x⟩ ⟨b', a, hy, hx, hab, hu⟩
 dsimp only at hy hx
 have bad : unpackM b' = none → ([] : List V) = r ∧ (4 : Int) = e := fun h => by
  rw [h] at hu
  rw [hr, he]
  simp [unpackL, unpackE, hu, upTo, listsV]
 cbv
 refine condI hA (fun hc => ?_) (fun hc => ?_)
 ·have h0 := bGtT hA (m := 0) hy rfl hc
  cbv
  refine condI hA (fun h2 => ?_) (fun h2 => ?_)
  ·have h2 := bLtT hA (m := 2) hy rfl h2
   have q := bad (unpackM_short h0 h2)
   cbv
   refine retI hA ?_
   exact ⟨congrArg (fun q => some (V.slice q)) q.1, congrArg (fun q => some (V.int .i64 q)) q.2, trivial⟩
  ·have h2 : 2 ≤ b'.length := Nat.le_of_not_lt (bLtF hA (m := 2) hy rfl h2)
   match b', h2, hy, hab, hu, bad with
   | c :: d :: t, _, hy, hab, hu, bad =>
   rw [unpackM_cons] at hu bad
   obtain ⟨n, hn⟩ : ∃ n : Nat, n = c.toNat * 256 + d.toNat := ⟨_, rfl⟩
   rw [← hn] at hu bad
   have hc8 : c.toNat < 256 := c.toNat_lt
   have hd8 : d.toNat < 256 := d.toNat_lt
   cbv
   refine chkI hA (by kernel_rfl) ?_
   cbv
   refine getBN hA hy (j := 0) rfl (by simp) ?_
   rintro v0 hv0
   cbv
   refine getBN hA hy (j := 1) rfl (by simp) ?_
   rintro v1 hv1
   cbv
   have hn16 : A.wrap .i64 (A.add (A.wrap .i64 (A.mul 256 (A.wrap .i64 v0))) (A.wrap .i64 v1)) = ((n : Nat) : Int) := by
    rw [hn]; exact len16' hA hv0 hv1 hc8 hd8
   have hyl : (c :: d :: t).length = t.length + 2 := rfl
   have hs2 := sub2 hA (lenI hA hy) (by omega) (by omega)
   have ha2 := add2 hA hn16 (by omega)
   refine condI hA (fun g1 => ?_) (fun g1 => ?_)
   ·have g1 : 1024 < n := nGtT hA (c := 1024) rfl hn16 g1
    have q := bad (if_pos (.inl g1))
    cbv
    refine retI hA ?_
    exact ⟨congrArg (fun q => some (V.slice q)) q.1, congrArg (fun q => some (V.int .i64 q)) q.2, trivial⟩
   ·have g1 : ¬ 1024 < n := nGtF hA (c := 1024) rfl hn16 g1
    cbv
    refine condI hA (fun g2 => ?_) (fun g2 => ?_)
    ·have g2 := nGtT hA hs2 hn16 g2
     have q := bad (if_pos (.inr (by omega)))
     cbv
     refine retI hA ?_
     exact ⟨congrArg (fun q => some (V.slice q)) q.1, congrArg (fun q => some (V.int .i64 q)) q.2, trivial⟩
    ·have g2 := nGtF hA hs2 hn16 g2
     cbv
     refine sizedI hA (bytesV_flat hy) ?_
     cbv
     refine subLN hA (sub_of (a := 2) rfl ha2 hy (by omega) (by omega)) ?_
     rintro z hz
     have hz : z = bytesV (t.take n) := by
      rw [cutMid (k := 2) rfl ha2 hy hz]
      rw [show 2 + n = n + 2 from by omega]; rfl
     cbv
     refine sizedI hA (bytesV_flat hz) ?_
     cbv
     refine roomI hA (by rw [hz, bytesV_len, List.length_take]; simp; omega) ?_
     cbv
     have hz1 : [V.slice (A.app [] z)] = listsV [t.take n] := by
      have : A.app [] z = z := by rw [hA]; rfl
      rw [this, hz]; rfl
     refine roomI hA (by rw [hx, listsV_len]; simp; omega) ?_
     cbv
     refine sizedI hA (bytesV_flat hy) ?_
     cbv
     refine subLN hA (sub_of ha2 (lenI hA hy) hy (by omega) (Nat.le_refl _)) ?_
     rintro y3 hy3
     have hy3 : y3 = bytesV (t.drop n) := by
      rw [cutFrom ha2 hy (lenI hA hy) hy3]
      rw [show 2 + n = n + 2 from by omega]; rfl
     rw [if_neg (by omega)] at hu
     refine ⟨(_, _), weakI rfl ⟨rfl, rfl, trivial⟩ ⟨rfl, trivial⟩, ⟨t.drop n, a ++ [t.take n], hy3, app_ls hA hx hz1, ?_, ?_⟩, ?_⟩
     ·simp; omega
     ·rw [hu]
      cases unpackM (t.drop n) <;> simp [upTo]
     ·change y3.length < y.length
      rw [hy3, hy, bytesV_len, bytesV_len]; simp; omega
 ·have h0 := bGtF hA (m := 0) hy rfl hc
  have hb0 : b' = [] := List.length_eq_zero_iff.1 (by omega)
  rw [hb0, show unpackM [] = some [] from by rw [unpackM]] at hu
  cbv
  refine retI hA ?_
  refine ⟨congrArg (fun q => some (V.slice q)) ?_, congrArg (fun q => some (V.int .i64 q)) ?_, trivial⟩
  ·rw [hx, hr]; simp [unpackL, hu, upTo]
  ·rw [he]; simp [unpackE, hu, upTo]
theorem cStrings12 (b : List UInt8) (l : List V) (hl : l = bytesV b) (hb : b.length ≤ 4000000000) : CallR Tryz.prog 132 [.slice l] fun rs => ∃ (r : List V) (e : Int), rs = [.v (.slice r), .v (.int .i64 e)] ∧ r = strsV (unpackL b) ∧ e = unpackE b := by
 obtain ⟨r, hr⟩ : ∃ r, r = strsV (unpackL b) := ⟨_, rfl⟩
 obtain ⟨e, he⟩ : ∃ e, e = unpackE b := ⟨_, rfl⟩
 refine .of [.v (.slice r), .v (.int .i64 e)] ⟨r, e, rfl, hr, he⟩ ?_
 refine FnR.of' T_ok M_ok (fn := Tryz.f132) (by kernel_rfl) rfl rfl rfl rfl (Nat.le_of_ble_eq_true rfl) fun A hA => ?_
 cbv
 refine callI hA (cUnpack12 b l hl hb) ?_
 intro rs_ h_
 obtain ⟨fs, e1, q_1, hfs, he1⟩ := h_
 subst q_1
 cbv
 have hle := unpackL_len b
 refine loopF hA (ι := Int × List V) (fun p => { n := 29, sl := [(4, .v (.slice fs)), (5, .v (.int .i64 e1)), (6, .own 26), (7, .v (.int .i64 p.1))], ob := [(26, .row 1 p.2 true)] })
  (fun p => ∃ j : Nat, p.1 = j ∧ j ≤ (unpackL b).length ∧ p.2 = strsV ((unpackL b).take j)) (fun p => (unpackL b).length - p.1.toNat) (_, _) ((weak_nils _ 6 26 1 true rfl).trans (weakI rfl ⟨rfl, rfl, rfl, rfl, trivial⟩ ⟨rfl, trivial⟩)) ⟨0, rfl, Nat.zero_le _, rfl⟩ ?_
 rintro ⟨i, x⟩ ⟨j, hi, hj, hx⟩
 dsimp only at hi hx
 cbv
 refine condI hA (fun hc => ?_) (fun hc => ?_)
 ·have hjl := ltL hA (natEq hi) (lenLs hfs) hc
  cbv
  refine getLN hA hfs (natEq hi) hjl ?_
  rintro f hf
  cbv
  refine b2sN hA hf ?_
  rintro s hs
  cbv
  have h1 : [V.str s] = strsV [(unpackL b)[j]'hjl] := by rw [hs]; rfl
  refine roomI hA (by rw [hx, strsV_len]; simp; omega) ?_
  cbv
  refine ⟨(_, _), weakI rfl ⟨rfl, rfl, rfl, rfl, trivial⟩ ⟨rfl, trivial⟩, ⟨j + 1, upI hA (natEq hi) (by omega), hjl, ?_⟩, upM hA (natEq hi) hjl (by omega)⟩
  refine (app_ss hA hx h1).trans ?_
  rw [List.take_succ_eq_append_getElem hjl]
 ·have hjl := geL hA (natEq hi) (lenLs hfs) hc hj
  cbv
  subst hjl
  rw [List.take_length] at hx
  refine retI hA ?_
  exact ⟨congrArg (fun q => some (V.slice q)) (hx.trans hr.symm), congrArg (fun q => some (V.int .i64 q)) (he1.trans he.symm), trivial⟩
end Go.Proofs.YthioccbgjkbmdaaGreat.AM
