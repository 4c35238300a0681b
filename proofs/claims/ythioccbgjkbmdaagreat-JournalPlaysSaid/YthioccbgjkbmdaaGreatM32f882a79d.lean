/-
 Contracts: the document's disk: Read, Size, IsDir, Loose.
-/
import Derived.Test.YthioccbgjkbmdaaGreatM305023c36b
import Derived.Test.YthioccbgjkbmdaaGreatM3195656b7f
import Derived.Test.YthioccbgjkbmdaaGreatM27500feff9
import Derived.Test.YthioccbgjkbmdaaGreatM289306ec6f
set_option linter.unusedVariables false
set_option linter.unusedSimpArgs false
set_option maxRecDepth 100000
set_option maxHeartbeats 4000000
namespace Go.Proofs.YthioccbgjkbmdaaGreat.AM
open Go Go.RowKit
theorem cIsDir13 (ln : List V) (k : Dk) (hln : ln = nodesV k.nodes) (hn : k.nodes.length ≤ 4096) (i : Int) (hi : I64 i) : CallR Tryz.prog 55 [.agg [.slice ln, .int .i64 k.cap, .int .i64 k.ops, .int .i64 k.changes, .bool k.down, .bool k.fail.is, .int .i64 k.fail.after, .bool k.done, .bool k.full.is, .int .i64 k.full.after], .int .i64 i] fun rs => ∃ b : Bool, rs = [.v (.bool b)] ∧ b = decide (k.ofE i true = 0) := by
 obtain ⟨b, hb⟩ : ∃ b, b = decide (k.ofE i true = 0) := ⟨_, rfl⟩
 refine .of _ ⟨b, rfl, hb⟩ ?_
 refine FnR.of' T_ok M_ok (fn := Tryz.f55) (by kernel_rfl) rfl rfl rfl rfl (Nat.le_of_ble_eq_true rfl) fun A hA => ?_
 cbv
 refine callI hA (cNode13 ln k hln (by omega) i hi true) ?_
 intro rs_ h_
 obtain ⟨e, q_1, he⟩ := h_
 subst q_1
 cbv
 refine retI hA ?_
 exact ⟨congrArg (fun q => some (V.bool q)) (by rw [hb, hA, ← he]; rfl), trivial⟩
theorem cSize13 (ln : List V) (k : Dk) (hln : ln = nodesV k.nodes) (hn : k.nodes.length ≤ 4096) (hok : ∀ nd ∈ k.nodes, N13 nd) (i : Int) (hi : I64 i) : CallR Tryz.prog 28 [.agg [.slice ln, .int .i64 k.cap, .int .i64 k.ops, .int .i64 k.changes, .bool k.down, .bool k.fail.is, .int .i64 k.fail.after, .bool k.done, .bool k.full.is, .int .i64 k.full.after], .int .i64 i] fun rs => ∃ m : Int, rs = [.v (.int .i64 m)] ∧ m = sizeM k i := by
 obtain ⟨m, hm⟩ : ∃ m, m = sizeM k i := ⟨_, rfl⟩
 refine .of _ ⟨m, rfl, hm⟩ ?_
 refine FnR.of' T_ok M_ok (fn := Tryz.f28) (by kernel_rfl) rfl rfl rfl rfl (Nat.le_of_ble_eq_true rfl) fun A hA => ?_
 cbv
 refine callI hA (cNode13 ln k hln (by omega) i hi false) ?_
 intro rs_ h_
 obtain ⟨e, q_1, he⟩ := h_
 subst q_1
 cbv
 refine condI hA (fun h1 => ?_) (fun h1 => ?_)
 ·have q : m = 0 := by rw [hm]; unfold sizeM; rw [if_neg (he ▸ zneT hA h1)]
  cbv
  refine retI hA ?_
  exact ⟨congrArg (fun q => some (V.int .i64 q)) q.symm, trivial⟩
 ·have h0 : k.ofE i false = 0 := he.symm.trans (zneF hA h1)
  obtain ⟨j, nd, hij, hjl, hjn, hG⟩ := of_zero h0
  have q : m = (nd.seen.b.length : Nat) := by rw [hm]; unfold sizeM; rw [if_pos h0, hG]
  have hse := cSeen ln k hln i j hij hjl (by omega) (hok _ (List.getElem_mem hjl))
  rw [hjn] at hse
  cbv
  refine callI hA (hse) ?_
  intro rs_ h_
  obtain ⟨d, b, lv, q_1, hd, hb, hlv⟩ := h_
  subst q_1
  cbv
  refine retI hA ?_
  exact ⟨congrArg (fun q => some (V.int .i64 q)) ((lenZ hA b).trans (by rw [hb]; exact q.symm)), trivial⟩
theorem cRead13 (ln : List V) (k : Dk) (hln : ln = nodesV k.nodes) (hn : k.nodes.length ≤ 4096) (hok : ∀ nd ∈ k.nodes, N13 nd) (i : Int) (hi : I64 i) (a n : Int) (ha : I64 a) (hn2 : I64 n) : CallR Tryz.prog 27 [.agg [.slice ln, .int .i64 k.cap, .int .i64 k.ops, .int .i64 k.changes, .bool k.down, .bool k.fail.is, .int .i64 k.fail.after, .bool k.done, .bool k.full.is, .int .i64 k.full.after], .int .i64 i, .int .i64 a, .int .i64 n] fun rs => ∃ (s : Bs) (e : Int), rs = [.v (.str s), .v (.int .i64 e)] ∧ s = (k.readM i a n).1 ∧ e = (k.readM i a n).2 := by
 obtain ⟨sf, hsf⟩ : ∃ m, m = (k.readM i a n).1 := ⟨_, rfl⟩
 obtain ⟨ef, hef⟩ : ∃ m, m = (k.readM i a n).2 := ⟨_, rfl⟩
 have s1 : ∀ e, e = k.ofE i false → e ≠ 0 → sf = [] ∧ ef = e := fun e he q => by rw [hsf, hef, he]; unfold Dk.readM; rw [if_pos (he ▸ q)]; exact ⟨rfl, rfl⟩
 have s2 : ∀ nd, k.node? i = some nd → k.ofE i false = 0 → (a < 0 ∨ n < 0 ∨ nd.seen.b.length < a ∨ nd.seen.b.length - a < n) → sf = [] ∧ ef = 13 := fun nd hG h0 q => by rw [hsf, hef]; unfold Dk.readM; rw [if_neg (fun f => f h0), hG]; dsimp only; rw [if_pos q]; exact ⟨rfl, rfl⟩
 have s3 : ∀ nd, k.node? i = some nd → k.ofE i false = 0 → ¬ (a < 0 ∨ n < 0 ∨ nd.seen.b.length < a ∨ nd.seen.b.length - a < n) → sf = (nd.seen.b.drop a.toNat).take n.toNat ∧ ef = 0 := fun nd hG h0 q => by rw [hsf, hef]; unfold Dk.readM; rw [if_neg (fun f => f h0), hG]; dsimp only; rw [if_neg q]; exact ⟨rfl, rfl⟩
 refine .of _ ⟨sf, ef, rfl, hsf, hef⟩ ?_
 clear hsf hef
 refine FnR.of' T_ok M_ok (fn := Tryz.f27) (by kernel_rfl) rfl rfl rfl rfl (Nat.le_of_ble_eq_true rfl) fun A hA => ?_
 cbv
 refine callI hA (cNode13 ln k hln (by omega) i hi false) ?_
 intro rs_ h_
 obtain ⟨e, q_1, he⟩ := h_
 subst q_1
 cbv
 refine condI hA (fun h1 => ?_) (fun h1 => ?_)
 ·obtain ⟨q1, q2⟩ := s1 e he (zneT hA h1)
  cbv
  refine retI hA ?_
  rw [q1, q2]
  exact ⟨rfl, rfl, trivial⟩
 ·have h0 : k.ofE i false = 0 := he.symm.trans (zneF hA h1)
  obtain ⟨j, nd, hij, hjl, hjn, hG⟩ := of_zero h0
  have hN := hok _ (List.getElem_mem hjl)
  have hse := cSeen ln k hln i j hij hjl (by omega) hN
  rw [hjn] at hse hN
  have hbl : nd.seen.b.length ≤ 1000000000 := Nat.le_trans (seen_len nd) hN.sz
  have s2 := s2 nd hG h0
  have s3 := s3 nd hG h0
  cbv
  refine callI hA (hse) ?_
  intro rs_ h_
  obtain ⟨d, b, lv, q_1, hd, hb, hlv⟩ := h_
  subst q_1
  cbv
  rw [← hb] at s2 s3 hbl
  have hlb : A.lenS b = (b.length : Nat) := lenZ hA b
  have bad : (a < 0 ∨ n < 0 ∨ (b.length : Int) < a ∨ (b.length : Int) - a < n) → some (V.str []) = some (V.str sf) ∧ some (V.int .i64 13) = some (V.int .i64 ef) ∧ True := fun q => by
   obtain ⟨q1, q2⟩ := s2 q
   rw [q1, q2]; exact ⟨rfl, rfl, trivial⟩
  have hsub : A.wrap .i64 (A.sub (A.lenS b) a) = w64 ((b.length : Int) - a) := (zsub hA _ _).trans (by rw [hlb])
  have hlo : I64 a := ha
  refine condI hA (fun w1 => ?_) (fun w1 => ?_)
  ·have w1 := bad (.inl (zltT hA w1))
   cbv
   refine retI hA ?_
   exact w1
  ·have w1 : ¬ a < 0 := zltF hA w1
   cbv
   refine condI hA (fun w2 => ?_) (fun w2 => ?_)
   ·have w2 := bad (.inr (.inl (zltT hA w2)))
    cbv
    refine retI hA ?_
    exact w2
   ·have w2 : ¬ n < 0 := zltF hA w2
    cbv
    refine condI hA (fun w3 => ?_) (fun w3 => ?_)
    ·have w3 : A.lenS b < a := zltT hA w3
     have w3 := bad (.inr (.inr (.inl (by rw [hlb] at w3; exact w3))))
     cbv
     refine retI hA ?_
     exact w3
    ·have w3 : ¬ A.lenS b < a := zltF hA w3
     have w3 : ¬ (b.length : Int) < a := by rw [hlb] at w3; exact w3
     have hw : w64 ((b.length : Int) - a) = (b.length : Int) - a := w64_id (by omega)
     cbv
     refine condI hA (fun w4 => ?_) (fun w4 => ?_)
     ·have w4 : A.wrap .i64 (A.sub (A.lenS b) a) < n := zltT hA w4
      have w4 := bad (.inr (.inr (.inr (by rw [hsub, hw] at w4; exact w4))))
      cbv
      refine retI hA ?_
      exact w4
     ·have w4 : ¬ A.wrap .i64 (A.sub (A.lenS b) a) < n := zltF hA w4
      have w4 : ¬ (b.length : Int) - a < n := by rw [hsub, hw] at w4; exact w4
      obtain ⟨q1, q2⟩ := s3 (fun q => q.elim w1 (fun q => q.elim w2 (fun q => q.elim w3 w4)))
      have hw2 : w64 (a + n) = a + n := w64_id (by omega)
      have hix : A.wrap .i64 (A.add a n) = a + n := (zadd hA a n).trans hw2
      have hb1 : 0 ≤ a ∧ a ≤ A.wrap .i64 (A.add a n) ∧ A.wrap .i64 (A.add a n) ≤ b.length := by rw [hix]; omega
      cbv
      refine subSN hA hb1 ?_
      rintro r hr
      have hr : r = (b.take (a + n).toNat).drop a.toNat := hr.trans (congrArg (fun q : Int => (b.take q.toNat).drop a.toNat) hix)
      have hr : r = sf := by
       rw [hr, q1, List.drop_take]
       congr 1; omega
      cbv
      refine retI hA ?_
      rw [hr, q2]
      exact ⟨rfl, rfl, trivial⟩
theorem cLooseN (ln : List V) (k : Dk) (hln : ln = nodesV k.nodes) (hn : k.nodes.length ≤ 4096) (hok : ∀ nd ∈ k.nodes, N13 nd) : CallR Tryz.prog 22 [.agg [.slice ln, .int .i64 k.cap, .int .i64 k.ops, .int .i64 k.changes, .bool k.down, .bool k.fail.is, .int .i64 k.fail.after, .bool k.done, .bool k.full.is, .int .i64 k.full.after]] fun rs => ∃ m : Int, rs = [.v (.int .i64 m)] ∧ m = ((k.nodes.map Nd.parts).sum : Nat) := by
 obtain ⟨m, hm⟩ : ∃ m : Int, m = ((k.nodes.map Nd.parts).sum : Nat) := ⟨_, rfl⟩
 refine .of _ ⟨m, rfl, hm⟩ ?_
 have hll : ln.length = k.nodes.length := by rw [hln, nodesV_len]
 have hpt : ∀ j, (((k.nodes.take j).map Nd.parts).sum : Nat) ≤ 4096 * 1000000000 := fun j => by
  refine Nat.le_trans (sum_le Nd.parts 1000000000 (k.nodes.take j) (fun x hx => ?_)) (Nat.mul_le_mul_right _ (by rw [List.length_take]; omega))
  have := (hok x (List.mem_of_mem_take hx)).sz; omega
 refine FnR.of' T_ok M_ok (fn := Tryz.f22) (by kernel_rfl) rfl rfl rfl rfl (Nat.le_of_ble_eq_true rfl) fun A hA => ?_
 cbv
 refine loopF hA (ι := Int × Int) (fun q => { n := 21, sl := [(1, .ptr 1 0), (3, .v (.int .i64 q.2)), (4, .v (.int .i64 q.1))], ob := [(1, .box [.v (.slice ln), .v (.int .i64 k.cap), .v (.int .i64 k.ops), .v (.int .i64 k.changes), .v (.bool k.down), .v (.bool k.fail.is), .v (.int .i64 k.fail.after), .v (.bool k.done), .v (.bool k.full.is), .v (.int .i64 k.full.after)])] }) (fun q => ∃ j : Nat, q.1 = (j : Nat) ∧ j ≤ k.nodes.length ∧ q.2 = (((k.nodes.take j).map Nd.parts).sum : Nat)) (fun q => k.nodes.length - q.1.toNat) (_, _) (weakI rfl ⟨rfl, rfl, rfl, trivial⟩ ⟨rfl, trivial⟩) ⟨0, rfl, Nat.zero_le _, rfl⟩ ?_
 rintro ⟨i, x⟩ ⟨j, hi, hj, hx⟩
 dsimp only at hi hx
 cbv
 refine condI hA (fun hcc => ?_) (fun hcc => ?_)
 ·have hjl := ltL hA (natEq hi) hll hcc
  have hN := hok _ (List.getElem_mem hjl)
  have hst := sum_take k.nodes Nd.parts j hjl
  have hp1 := hpt j
  have hp2 : (k.nodes[j]'hjl).parts ≤ 1000000000 := by have := hN.sz; omega
  cbv
  refine getND hA hln (natEq hi) hjl ?_
  rintro d2 b2 le2 ls2 hd2 hb2 hle2 hls2
  have hall := cAll (k.nodes[j]'hjl) le2 ls2 hls2 hN.n (by omega) hN.cm
  rw [← hd2, ← hb2] at hall
  cbv
  refine callI hA (hall) ?_
  intro rs_ h_
  obtain ⟨u, q_1, hu⟩ := h_
  subst q_1
  cbv
  exact ⟨(_, _), weakI rfl ⟨rfl, rfl, rfl, trivial⟩ ⟨rfl, trivial⟩, ⟨j + 1, upI hA (natEq hi) (by omega), hjl, (zadd hA x u).trans (by rw [natEq hx, natEq hu, w64_add rfl rfl (by omega), hst])⟩, upM hA (natEq hi) hjl (by omega)⟩
 ·have hjl := geL hA (natEq hi) hll hcc hj
  cbv
  refine retI hA ?_
  exact ⟨congrArg (fun q => some (V.int .i64 q)) ((natEq hx).trans (by rw [hm, hjl, List.take_length])), trivial⟩
open Go Go.RowKit
theorem cClear18 {M B : Nat} {ln : List V} {k : Dk} (h : D13 ln k M B) (hM : M ≤ 800000) (hB : B ≤ 900000000) (file n : Int) : CallR Tryz.prog 29 [.agg [.int .i64 file, .int .i64 n], .agg [.slice ln, .int .i64 k.cap, .int .i64 k.ops, .int .i64 k.changes, .bool k.down, .bool k.fail.is, .int .i64 k.fail.after, .bool k.done, .bool k.full.is, .int .i64 k.full.after]] fun rs => ∃ (lf : List V) (kf : Dk) (ff nf ef : Int), rs = [.v (.agg (diskC lf kf)), .v (.agg [.int .i64 ff, .int .i64 nf]), .v (.int .i64 ef)] ∧ lf = nodesV kf.nodes ∧ kf = (k.clearD file n).1 ∧ ff = (k.clearD file n).2.1 ∧ nf = (k.clearD file n).2.2.1 ∧ ef = (k.clearD file n).2.2.2 := by
 obtain ⟨kf, hkf⟩ : ∃ q, q = (k.clearD file n).1 := ⟨_, rfl⟩
 obtain ⟨ff, hff⟩ : ∃ q, q = (k.clearD file n).2.1 := ⟨_, rfl⟩
 obtain ⟨nf, hnf⟩ : ∃ q, q = (k.clearD file n).2.2.1 := ⟨_, rfl⟩
 obtain ⟨ef, hef⟩ : ∃ q, q = (k.clearD file n).2.2.2 := ⟨_, rfl⟩
 obtain ⟨lf, hlf⟩ : ∃ q, q = nodesV kf.nodes := ⟨_, rfl⟩
 have fin : ∀ (l1 : List V) (k1 : Dk) (f1 n1 e1 : Int), k.clearD file n = (k1, f1, n1, e1) → l1 = nodesV k1.nodes → some (V.agg (diskC l1 k1)) = some (V.agg (diskC lf kf)) ∧ some (V.agg [.int .i64 f1, .int .i64 n1]) = some (V.agg [.int .i64 ff, .int .i64 nf]) ∧ some (V.int .i64 e1) = some (V.int .i64 ef) ∧ True := fun l1 k1 f1 n1 e1 q q1 => by
  rw [hlf, hff, hnf, hef, hkf, q, q1]; exact ⟨rfl, rfl, rfl, trivial⟩
 have hok := h.ok (by omega) (by omega)
 have hun := cUnl13 ln k h.ln h.p hok 1 i64_1 jName
 refine .of _ ⟨lf, kf, ff, nf, ef, rfl, hlf, hkf, hff, hnf, hef⟩ ?_
 clear hkf hff hnf hef
 refine FnR.of' T_ok M_ok (fn := Tryz.f29) (by kernel_rfl) rfl rfl rfl rfl (Nat.le_of_ble_eq_true rfl) fun A hA => ?_
 cbv
 refine condI hA (fun h1 => ?_) (fun h1 => ?_)
 ·have h1 : file = 0 := zeqT hA h1
  have := fin ln k file n 0 (by unfold Dk.clearD; rw [if_pos h1]) h.ln
  cbv
  refine chkI hA (by kernel_rfl) ?_
  cbv
  refine retI hA ?_
  exact this
 ·have h1 : ¬ file = 0 := zeqF hA h1
  cbv
  refine callI hA (hun) ?_
  intro rs_ h_
  obtain ⟨l1, k1, e1, q_1, hl1, hk1, he1⟩ := h_
  subst q_1
  cbv
  have h1' := h.unl 1 jName (by decide) hl1 hk1
  have hsy := cSync13 l1 k1 h1'.ln h1'.p.most (h1'.ok (by omega) (by omega)) 1 i64_1
  refine condI hA (fun h2 => ?_) (fun h2 => ?_)
  ·have h2 : e1 = 0 := zeqT hA h2
   cbv
   refine callI hA (hsy) ?_
   intro rs_ h_
   obtain ⟨l2, k2, e2, q_1, hl2, hk2, he2⟩ := h_
   subst q_1
   cbv
   refine condI hA (fun h3 => ?_) (fun h3 => ?_)
   ·have h3 : e2 ≠ 0 := zneT hA h3
    have := fin l2 k2 file n e2 (by unfold Dk.clearD; rw [if_neg h1]; dsimp only; rw [← he1, if_neg (fun f => f h2), ← hk1, ← he2, if_neg h3, if_neg h3, ← hk2]) hl2
    cbv
    refine chkI hA (by kernel_rfl) ?_
    cbv
    refine retI hA ?_
    exact this
   ·have h3 : e2 = 0 := zneF hA h3
    have := fin l2 k2 0 0 0 (by unfold Dk.clearD; rw [if_neg h1]; dsimp only; rw [← he1, if_neg (fun f => f h2), ← hk1, ← he2, if_pos h3, if_pos h3, ← hk2, h3]) hl2
    cbv
    refine retI hA ?_
    exact this
  ·have h2 : e1 ≠ 0 := zeqF hA h2
   have := fin l1 k1 file n e1 (by unfold Dk.clearD; rw [if_neg h1]; dsimp only; rw [← he1, if_pos h2, ← hk1]) hl1
   cbv
   refine condT hA (zne_t hA h2) ?_
   cbv
   refine chkI hA (by kernel_rfl) ?_
   cbv
   refine retI hA ?_
   exact this
def OpenR (o : Option (Int × List RecM)) (ff nf : Int) (rl : List V) : Prop := match o with
 | none => ff = 0 ∧ nf = 0 ∧ rl = []
 | some (f, rs) => ff = f ∧ nf = (rs.length : Nat) ∧ rl = recsV rs
theorem cOpen18 {M B : Nat} {ln : List V} {k : Dk} (h : D13 ln k M B) (hM : M ≤ 800000) (hB : B ≤ 900000000) : CallR Tryz.prog 18 [.agg [.slice ln, .int .i64 k.cap, .int .i64 k.ops, .int .i64 k.changes, .bool k.down, .bool k.fail.is, .int .i64 k.fail.after, .bool k.done, .bool k.full.is, .int .i64 k.full.after]] fun rs => ∃ (lf : List V) (kf : Dk) (ff nf : Int) (rl : List V) (ef : Int), rs = [.v (.agg (diskC lf kf)), .v (.agg [.int .i64 ff, .int .i64 nf]), .v (.slice rl), .v (.int .i64 ef)] ∧ lf = nodesV kf.nodes ∧ kf = k.openD.1 ∧ ef = k.openD.2.2 ∧ OpenR k.openD.2.1 ff nf rl := by
 obtain ⟨kf, hkf⟩ : ∃ q, q = k.openD.1 := ⟨_, rfl⟩
 obtain ⟨ef, hef⟩ : ∃ q, q = k.openD.2.2 := ⟨_, rfl⟩
 obtain ⟨o, ho⟩ : ∃ q, q = k.openD.2.1 := ⟨_, rfl⟩
 obtain ⟨ff, nf, rl, hfn⟩ : ∃ (ff nf : Int) (rl : List V), OpenR o ff nf rl := by
  cases o with
  | none => exact ⟨_, _, _, rfl, rfl, rfl⟩
  | some q => exact ⟨_, _, _, rfl, rfl, rfl⟩
 obtain ⟨lf, hlf⟩ : ∃ q, q = nodesV kf.nodes := ⟨_, rfl⟩
 have fin0 : ∀ (l1 : List V) (k1 : Dk) (e1 : Int), k.openD = (k1, none, e1) → l1 = nodesV k1.nodes → some (V.agg (diskC l1 k1)) = some (V.agg (diskC lf kf)) ∧ some (V.agg [.int .i64 0, .int .i64 0]) = some (V.agg [.int .i64 ff, .int .i64 nf]) ∧ some (V.slice []) = some (V.slice rl) ∧ some (V.int .i64 e1) = some (V.int .i64 ef) ∧ True := fun l1 k1 e1 q q1 => by
  rw [q] at ho hkf hef
  subst ho
  obtain ⟨a1, a2, a3⟩ := hfn
  rw [hlf, hef, hkf, a1, a2, a3, q1]; exact ⟨rfl, rfl, rfl, rfl, trivial⟩
 have fin1 : ∀ (l1 : List V) (k1 : Dk) (f1 n1 : Int) (rs : List RecM) (r1 : List V), k.openD = (k1, some (f1, rs), 0) → l1 = nodesV k1.nodes → n1 = (rs.length : Nat) → r1 = recsV rs → some (V.agg (diskC l1 k1)) = some (V.agg (diskC lf kf)) ∧ some (V.agg [.int .i64 f1, .int .i64 n1]) = some (V.agg [.int .i64 ff, .int .i64 nf]) ∧ some (V.slice r1) = some (V.slice rl) ∧ some (V.int .i64 0) = some (V.int .i64 ef) ∧ True := fun l1 k1 f1 n1 rs r1 q q1 q2 q3 => by
  rw [q] at ho hkf hef
  subst ho
  obtain ⟨a1, a2, a3⟩ := hfn
  rw [hlf, hef, hkf, a1, a2, a3, q1, q2, q3]; exact ⟨rfl, rfl, rfl, rfl, trivial⟩
 have hok := h.ok (by omega) (by omega)
 have hn := h.p.most
 have hfi := cFind13 ln k h.ln (by omega) 1 i64_1 hok jName
 refine .of _ ⟨lf, kf, ff, nf, rl, ef, rfl, hlf, hkf, hef, by rw [← ho]; exact hfn⟩ ?_
 clear hkf hef hfn
 refine FnR.of' T_ok M_ok (fn := Tryz.f18) (by kernel_rfl) rfl rfl rfl rfl (Nat.le_of_ble_eq_true rfl) fun A hA => ?_
 cbv
 refine callI hA (hfi) ?_
 intro rs_ h_
 obtain ⟨f, e, q_1, hf, he⟩ := h_
 subst q_1
 cbv
 refine condI hA (fun h1 => ?_) (fun h1 => ?_)
 ·have h1 : (k.findE 1 jName).2 = 8 := he ▸ zeqT hA h1
  have := fin1 ln k 0 0 [] [] (by unfold Dk.openD; dsimp only; rw [if_pos h1]) h.ln rfl rfl
  cbv
  refine retI hA ?_
  exact this
 ·have h1 : (k.findE 1 jName).2 ≠ 8 := he ▸ zeqF hA h1
  cbv
  refine condI hA (fun h2 => ?_) (fun h2 => ?_)
  ·have h2 : (k.findE 1 jName).2 ≠ 0 := he ▸ zneT hA h2
   have := fin0 ln k e (by unfold Dk.openD; dsimp only; rw [if_neg h1, if_pos h2, ← he]) h.ln
   cbv
   refine retI hA ?_
   exact this
  ·have h2 : (k.findE 1 jName).2 = 0 := he ▸ zneF hA h2
   have hi : I64 f := hf ▸ findE_i64 h.p
   have hid := cIsDir13 ln k h.ln hn f hi
   have hsz := cSize13 ln k h.ln hn hok f hi
   have hsi := sizeM_i64 h.p (by omega) f
   have hrd : ∀ n, I64 n → CallR _ _ _ _ := fun n hn2 => cRead13 ln k h.ln hn hok f hi 0 n (by unfold I64; omega) hn2
   cbv
   refine callI hA (hid) ?_
   intro rs_ h_
   obtain ⟨c, q_1, hc⟩ := h_
   subst q_1
   cbv
   refine condI hA (fun h3 => ?_) (fun h3 => ?_)
   ·have h3 : k.ofE (k.findE 1 jName).1 true = 0 := by rw [hc, hf] at h3; exact of_decide_eq_true h3
    have := fin0 ln k 10 (by unfold Dk.openD; dsimp only; rw [if_neg h1, if_neg (fun f => f h2), if_pos h3]) h.ln
    cbv
    refine retI hA ?_
    exact this
   ·have h3 : ¬ k.ofE (k.findE 1 jName).1 true = 0 := by rw [hc, hf] at h3; exact of_decide_eq_false h3
    obtain ⟨sz, hsz0⟩ : ∃ q, q = sizeM k f := ⟨_, rfl⟩
    rw [← hsz0] at hsz hsi
    cbv
    refine chkI hA (by kernel_rfl) ?_
    cbv
    refine callI hA (hsz) ?_
    intro rs_ h_
    obtain ⟨m, q_1, hm⟩ := h_
    subst q_1
    cbv
    refine callI hA ((hrd m (by rw [hm]; exact hsi))) ?_
    intro rs_ h_
    obtain ⟨b, e3, q_1, hb, he3⟩ := h_
    subst q_1
    cbv
    have hbl : b.length ≤ 1000000000 := by rw [hb]; exact Nat.le_trans (readM_len h.p f 0 m) (by omega)
    have hb' : b = (k.readM (k.findE 1 jName).1 0 (sizeM k (k.findE 1 jName).1)).1 := by rw [hb, hm, hsz0, hf]
    obtain ⟨rs, hrs⟩ : ∃ q, q = (scanM 0 b).1 := ⟨_, rfl⟩
    obtain ⟨sn, hsn⟩ : ∃ q, q = (scanM 0 b).2 := ⟨_, rfl⟩
    have o1 : ¬ sn < b.length → k.openD = (k, some (f, rs), 0) := fun q => by unfold Dk.openD; dsimp only; rw [if_neg h1, if_neg (fun f => f h2), if_neg h3, ← hb', ← hsn, ← hrs, if_neg q, ← hf]
    have o2 : ∀ (k1 : Dk) (e1 : Int), sn < b.length → k1 = (k.cutD f (sn : Nat)).1 → e1 = (k.cutD f (sn : Nat)).2 → (e1 ≠ 0 → k.openD = (k1, none, e1)) ∧ (e1 = 0 → ∀ (k2 : Dk) (e2 : Int), k2 = (k1.syncD f).1 → e2 = (k1.syncD f).2 → (e2 ≠ 0 → k.openD = (k2, none, e2)) ∧ (e2 = 0 → k.openD = (k2, some (f, rs), 0))) := fun k1 e1 q q1 q2 => by
     refine ⟨fun q3 => ?_, fun q3 k2 e2 q4 q5 => ⟨fun q6 => ?_, fun q6 => ?_⟩⟩
     ·unfold Dk.openD; dsimp only; rw [if_neg h1, if_neg (fun f => f h2), if_neg h3, ← hb', ← hsn, ← hrs, if_pos q, ← hf, ← q2, if_pos q3, ← q1]
     ·unfold Dk.openD; dsimp only; rw [if_neg h1, if_neg (fun f => f h2), if_neg h3, ← hb', ← hsn, ← hrs, if_pos q, ← hf, ← q2, if_neg (fun f => f q3), ← q1, ← q5, if_pos q6, ← q4]
     ·unfold Dk.openD; dsimp only; rw [if_neg h1, if_neg (fun f => f h2), if_neg h3, ← hb', ← hsn, ← hrs, if_pos q, ← hf, ← q2, if_neg (fun f => f q3), ← q1, ← q5, if_neg (fun f => f q6), ← q4]
    have hct : ∀ n, n = (sn : Int) → CallR _ _ _ _ := fun n hn2 => cCut13 ln k h.ln hn hok f hi n
    refine catOkI hA (by simp only [List.length_nil]; omega) ?_
    cbv
    refine callI hA ((cScan12 b (A.s2b b) (by rw [hA]; rfl) (by omega))) ?_
    intro rs_ h_
    obtain ⟨rl2, n2, q_1, hrl2, hn2⟩ := h_
    subst q_1
    cbv
    rw [← hrs] at hrl2
    rw [← hsn] at hn2
    have hn2 : n2 = (sn : Nat) := natEq hn2
    have hlr : A.lenL rl2 = (rs.length : Nat) := by rw [hA]; show ((rl2.length : Nat) : Int) = _; rw [hrl2, recsV_len]
    refine condI hA (fun h4 => ?_) (fun h4 => ?_)
    ·have h4 : sn < b.length := by
      have h4 : n2 < A.lenS b := zltT hA h4
      rw [lenZ hA, hn2] at h4; omega
     cbv
     refine callI hA ((hct n2 hn2)) ?_
     intro rs_ h_
     obtain ⟨l1, k1, e1, q_1, hl1, hk1, he1⟩ := h_
     subst q_1
     cbv
     have H1 := h.cut f n2 hl1 hk1
     rw [hn2] at hk1 he1
     obtain ⟨p1, p2⟩ := o2 k1 e1 h4 hk1 he1
     have hsy := cSync13 l1 k1 H1.ln H1.p.most (H1.ok (by omega) (by omega)) f hi
     refine condI hA (fun h5 => ?_) (fun h5 => ?_)
     ·have h5 : e1 = 0 := zeqT hA h5
      cbv
      refine callI hA (hsy) ?_
      intro rs_ h_
      obtain ⟨l2, k2, e2, q_1, hl2, hk2, he2⟩ := h_
      subst q_1
      cbv
      obtain ⟨p3, p4⟩ := p2 h5 k2 e2 hk2 he2
      refine condI hA (fun h6 => ?_) (fun h6 => ?_)
      ·have := fin0 l2 k2 e2 (p3 (zneT hA h6)) hl2
       cbv
       refine retI hA ?_
       exact this
      ·have := fin1 l2 k2 f _ rs rl2 (p4 (zneF hA h6)) hl2 hlr hrl2
       cbv
       refine retI hA ?_
       exact this
     ·have h5 : e1 ≠ 0 := zeqF hA h5
      have := fin0 l1 k1 e1 (p1 h5) hl1
      cbv
      refine condT hA (zne_t hA h5) ?_
      cbv
      refine retI hA ?_
      exact this
    ·have h4 : ¬ sn < b.length := by
      have h4 : ¬ n2 < A.lenS b := zltF hA h4
      rw [lenZ hA, hn2] at h4; omega
     have := fin1 ln k f _ rs rl2 (o1 h4) h.ln hlr hrl2
     cbv
     refine retI hA ?_
     exact this
open Go Go.RowKit
theorem dFull {gh : GH} {lab : Lab} {p : Nat} {k : Dk} {B : Nat} (h : DI gh lab p k B) (n : Int) : FnG Tryz.prog 36 [.gp p 0, .int .i64 n] gh fun rs g => ∃ e : Int, rs = [.v (.int .i64 e)] ∧ e = (k.fullD n).2 ∧ Did gh lab p (k.fullD n).1 B g := by
 obtain ⟨v, ids, hX⟩ := h.i.at_.x
 have hbox := hX.box
 have hup := gUp gh p v k hbox
 have htl := gTell (d := .gp p 0) (o := 8) hbox (by simp) n k.full.is k.full.after rfl rfl
 have stay : ∀ e, k.fullD n = (k, e) → ∃ e' : Int, [Rs.v (.int .i64 e)] = [.v (.int .i64 e')] ∧ e' = (k.fullD n).2 ∧ Did gh lab p (k.fullD n).1 B gh := fun e q => ⟨e, rfl, by rw [q], lab, Upd.refl hX.dom _ _, by rw [q]; exact h⟩
 refine FnG.of' T_ok M_ok [] (fn := Tryz.f36) (by kernel_rfl) rfl rfl rfl rfl (Nat.le_of_ble_eq_true rfl) fun A hA => ?_
 cbv
 refine callGI hA (hup) ?_
 intro rs_ g_ h_
 obtain ⟨e, q_1, he, q_2⟩ := h_
 subst q_1
 subst q_2
 cbv
 refine condI hA (fun h1 => ?_) (fun h1 => ?_)
 ·have h1 := zneT hA h1
  have hd : k.down = true := by
   cases q : k.down with
   | true => rfl
   | false => exact absurd (he.trans (by unfold upE; rw [q]; rfl)) h1
  have he : e = 12 := he.trans (by unfold upE; rw [hd]; rfl)
  cbv
  exact retGI hA rfl [.v (.int .i64 e)] gh (stay e (by unfold Dk.fullD; rw [if_pos hd, he]))
 ·have h1 := zneF hA h1
  have hd : ¬ k.down = true := fun q => by rw [he] at h1; unfold upE at h1; rw [q] at h1; cases h1
  cbv
  refine callGI hA (htl) ?_
  intro rs_ g1 h_
  obtain ⟨e1, q_1, he1, hg1⟩ := h_
  subst q_1
  cbv
  have hE : n < 0 → k.fullD n = (k, 2) := fun q => by unfold Dk.fullD; rw [if_neg hd, if_pos q]
  have hF : ¬ n < 0 → k.fullD n = ({ k with full := ⟨true, n⟩ }, 0) := fun q => by unfold Dk.fullD; rw [if_neg hd, if_neg q]
  by_cases hn : n < 0
  ·rw [if_pos hn] at hg1 he1
   subst hg1
   exact retGI hA rfl [.v (.int .i64 e1)] g1 (stay e1 (by rw [hE hn, he1]))
  ·rw [if_neg hn] at hg1 he1
   obtain ⟨hX2, u2⟩ := hX.cells (k' := { k with full := ⟨true, n⟩ }) hg1 rfl
   exact retGI hA rfl [.v (.int .i64 e1)] g1 (⟨e1, rfl, by rw [hF hn]; exact he1, lab, u2.weak (fun _ _ => trivial) (fun _ h => h.elim), by rw [hF hn]; exact ⟨⟨hX2.at, h.i.one⟩, h.ok.same rfl, h.cap⟩⟩)
theorem dLoose {gh : GH} {lab : Lab} {p : Nat} {k : Dk} {B : Nat} (h : DI gh lab p k B) (hB : B ≤ 1000000000) (m : Int) (hm : m = ((k.nodes.map Nd.parts).sum : Nat)) : FnG Tryz.prog 21 [.gp p 0] gh fun rs g => rs = [.v (.int .i64 m)] ∧ g = gh := by
 obtain ⟨v, ids, hX⟩ := h.i.at_.x
 have hv : ∃ nid n, v = .gs nid n ∧ n = (ids.length : Nat) ∧ lab nid = some (0, 7) ∧ gh.get nid = some (.arow 1 (ids.map fun i => V.gp i 0)) := by
  rcases hX.ns with ⟨_, h2⟩ | ⟨nid, h1, h2, h3⟩
  ·have := h.i.one; rw [← hX.len, h2] at this; exact absurd this (by decide)
  ·exact ⟨nid, _, h1, rfl, h2, h3⟩
 obtain ⟨nid, n, rfl, hnn, hnl, hng⟩ := hv
 have hbox := hX.box
 have hnl2 : n = (k.nodes.length : Nat) := by rw [hnn, hX.len]
 have hmo := h.ok.most
 have hpt : ∀ j, (((k.nodes.take j).map Nd.parts).sum : Nat) ≤ 4096 * 1000000000 := fun j => by
  refine Nat.le_trans (sum_le Nd.parts 1000000000 (k.nodes.take j) (fun x hx => ?_)) (Nat.mul_le_mul_right _ (by rw [List.length_take]; omega))
  have := h.ok.sz x (List.mem_of_mem_take hx); omega
 have g0 : ∀ (i : Int) (j : Nat), i = (j : Nat) → i < n → j < k.nodes.length := fun i j h1 h2 => by omega
 have g1 : ∀ (i : Int) (j : Nat), i = (j : Nat) → j ≤ k.nodes.length → ¬ i < n → j = k.nodes.length := fun i j h1 h3 h2 => by omega
 refine FnG.of' T_ok M_ok [] (fn := Tryz.f21) (by kernel_rfl) rfl rfl rfl rfl (Nat.le_of_ble_eq_true rfl) fun A hA => ?_
 cbv
 refine gldI hA _ (hbox) ?_
 cbv
 refine glenI hA ?_
 cbv
 refine loopF hA (ι := Int × Int) (fun q => { n := 23, sl := [(13, .v (.int .i64 q.1)), (12, .v (.int .i64 n)), (11, .v (.gs nid n)), (3, .v (.int .i64 q.2))], ob := [(hk, .heap gh [])] }) (fun q => ∃ j : Nat, q.1 = (j : Nat) ∧ j ≤ k.nodes.length ∧ q.2 = (((k.nodes.take j).map Nd.parts).sum : Nat)) (fun q => k.nodes.length - q.1.toNat) (_, _) (weakI rfl ⟨rfl, rfl, rfl, rfl, trivial⟩ ⟨rfl, trivial⟩) ⟨0, rfl, Nat.zero_le _, rfl⟩ ?_
 rintro ⟨i, x⟩ ⟨j, hi, hj, hx⟩
 dsimp only at hi hx
 have hup : j < k.nodes.length → w64 (i + 1) = ((j + 1 : Nat) : Int) := fun h => w64_add hi rfl (by omega)
 have hin : i < n → 0 ≤ i ∧ i < n := fun h => ⟨by omega, h⟩
 have hjl0 : i < n → j < k.nodes.length := fun h => g0 i j hi h
 have hjl1 : ¬ i < n → j = k.nodes.length := fun h => g1 i j hi hj h
 cbv
 refine condI hA (fun hcc => ?_) (fun hcc => ?_)
 ·have hcc := zltT hA hcc
  have hjl := hjl0 hcc
  obtain ⟨nd, hnd⟩ : ∃ nd, k.nodes[j]? = some nd := ⟨_, List.getElem?_eq_getElem hjl⟩
  obtain ⟨id, hid⟩ : ∃ id, ids[j]? = some id := ⟨_, List.getElem?_eq_getElem (by rw [hX.len]; exact hjl)⟩
  have f3 : (ids.map fun i => V.gp i 0)[i.toNat]? = some (.gp id 0) := by rw [natEq hi, Int.toNat_natCast, List.getElem?_map]; simp [hid]
  have hN := hX.at_ j id nd hid hnd
  have hsz := h.ok.sz nd (List.mem_of_getElem? hnd)
  have hlo := lsOk_len (h.ok.ls nd (List.mem_of_getElem? hnd))
  have hll : nd.loose.length ≤ 1000000000 := Nat.le_trans hlo (by unfold Nd.parts at hsz; omega)
  have hpp : nd.parts ≤ 140737488355328 := by omega
  have hst := sum_take k.nodes Nd.parts j hjl
  have hndj : k.nodes[j]'hjl = nd := by rw [List.getElem?_eq_getElem hjl] at hnd; cases hnd; rfl
  rw [hndj] at hst
  have hp1 := hpt j
  cbv
  refine gixN hA rfl (hin hcc) ?_
  cbv
  refine gldRN hA (y := .gp id 0) rfl _ (.inr (.inr hng)) f3 ?_
  cbv
  refine callGI hA (gParts hN hll hpp) ?_
  intro rs_ g_ h_
  obtain ⟨c, q_1, hc, q_2⟩ := h_
  subst q_1
  subst q_2
  cbv
  exact ⟨(_, _), weakI rfl ⟨rfl, rfl, rfl, rfl, trivial⟩ ⟨rfl, trivial⟩, ⟨j + 1, (zadd hA i 1).trans (natEq (hup hjl)), hjl, (zadd hA x c).trans (by rw [natEq hx, natEq hc, w64_add rfl rfl (by omega), hst])⟩, upM hA (natEq hi) hjl (by omega)⟩
 ·have hjl := hjl1 (zltF hA hcc)
  cbv
  exact retGI hA rfl [.v (.int .i64 x)] gh (⟨by rw [natEq hx, hjl, List.take_length, hm], rfl⟩)
open Go Go.RowKit
theorem cNew13 (c : Int) : CallR Tryz.prog 7 [.int .i64 c] fun rs => ∃ (lf : List V) (kf : Dk), rs = [.v (.agg (diskC lf kf))] ∧ lf = nodesV kf.nodes ∧ (0 ≤ c → kf = (dkNew c)) := by
 obtain ⟨kf, hkf⟩ : ∃ q, q = dkNew (if c > 0 then c else 0) := ⟨_, rfl⟩
 obtain ⟨lf, hlf⟩ : ∃ q, q = nodesV kf.nodes := ⟨_, rfl⟩
 refine .of _ ⟨lf, kf, rfl, hlf, fun h => by rw [hkf]; congr 1; split <;> omega⟩ ?_
 have e1 : some (V.agg (diskC (nodesV [nd0 true]) (dkNew (if c > 0 then c else 0)))) = some (V.agg (diskC lf kf)) := by rw [hlf, hkf]; rfl
 clear hkf hlf
 refine FnR.of' T_ok M_ok (fn := Tryz.f7) (by kernel_rfl) rfl rfl rfl rfl (Nat.le_of_ble_eq_true rfl) fun A hA => ?_
 cbv
 have hmx : A.imax 0 c = if c > 0 then c else 0 := by rw [hA]; rfl
 refine retI hA ?_
 exact ⟨(congrArg (fun q => some (V.agg [.slice [.agg [.bool true, .str [], .slice [], .slice []]], .int .i64 q, .int .i64 0, .int .i64 0, .bool false, .bool false, .int .i64 0, .bool false, .bool false, .int .i64 0])) hmx).trans e1, trivial⟩
theorem crashL_app : ∀ (a b : List Nd) (keep : Bs), crashL (a ++ b) keep = crashL a keep ++ crashL b (a.foldl (fun q n => keepR n q) keep)
 | [], _, _ => rfl
 | x :: r, b, keep => by simp [crashL, crashL_app r]
def usedN (l : List Nd) : Nat := (l.map fun n => if n.parts = 0 then 0 else 1).sum
theorem keep_fold : ∀ (l : List Nd) (keep : Bs), l.foldl (fun q n => keepR n q) keep = keep.drop (usedN l)
 | [], keep => rfl
 | x :: r, keep => by
  rw [List.foldl_cons, keep_fold r]
  unfold keepR usedN
  by_cases h : x.parts = 0
  ·simp [h]
  ·simp only [h, if_false, List.map_cons, List.sum_cons]
   rw [← List.drop_one, List.drop_drop]
theorem crash_take {l : List Nd} {j : Nat} (h : j < l.length) (keep : Bs) : crashL (l.take (j + 1)) keep = crashL (l.take j) keep ++ [(l[j]'h).crash (keepN (l[j]'h) (keep.drop (usedN (l.take j))))] := by
 rw [List.take_succ_eq_append_getElem h, crashL_app, keep_fold]; rfl
theorem used_take {l : List Nd} {j : Nat} (h : j < l.length) : usedN (l.take (j + 1)) = usedN (l.take j) + if (l[j]'h).parts = 0 then 0 else 1 := by
 unfold usedN; rw [List.take_succ_eq_append_getElem h, List.map_append, List.sum_append]; simp
theorem used_le : ∀ (l : List Nd), usedN l ≤ l.length
 | [] => Nat.le_refl _
 | x :: r => by
  have := used_le r
  unfold usedN at *
  rw [List.map_cons, List.sum_cons, List.length_cons]
  split <;> omega
theorem keepN_at {nd : Nd} {keep : Bs} {m : Nat} (hp : nd.parts ≠ 0) : (∀ h : m < keep.length, keepN nd (keep.drop m) = (keep[m]'h).toNat % (nd.parts + 1)) ∧ (¬ m < keep.length → keepN nd (keep.drop m) = 0) := by
 refine ⟨fun h => ?_, fun h => ?_⟩
 ·rw [List.drop_eq_getElem_cons h]; unfold keepN; rw [if_neg hp]
 ·rw [List.drop_eq_nil_of_le (by omega)]; unfold keepN; rw [if_neg hp]
theorem cCrash13 (ln : List V) (k : Dk) (hln : ln = nodesV k.nodes) (hn : k.nodes.length ≤ 4096) (hok : ∀ nd ∈ k.nodes, N13 nd) (keep : Bs) (kl : List V) (hkl : kl = bytesV keep) (hkp : keep.length ≤ 140737488355328) : CallR Tryz.prog 31 [.agg [.slice ln, .int .i64 k.cap, .int .i64 k.ops, .int .i64 k.changes, .bool k.down, .bool k.fail.is, .int .i64 k.fail.after, .bool k.done, .bool k.full.is, .int .i64 k.full.after], .slice kl] fun rs => ∃ (lf : List V) (kf : Dk), rs = [.v (.agg (diskC lf kf))] ∧ lf = nodesV kf.nodes ∧ kf = (k.crash keep).wd false := by
 obtain ⟨kf, hkf⟩ : ∃ q, q = (k.crash keep).wd false := ⟨_, rfl⟩
 obtain ⟨lf, hlf⟩ : ∃ q, q = nodesV kf.nodes := ⟨_, rfl⟩
 have e1 : ∀ l, l = nodesV (crashL k.nodes keep) → some (V.agg (diskC l ((k.crash keep).wd false))) = some (V.agg (diskC lf kf)) := fun l hl => by rw [hlf, hkf, hl]; rfl
 refine .of _ ⟨lf, kf, rfl, hlf, hkf⟩ ?_
 clear hkf hlf
 have hll : ln.length = k.nodes.length := by rw [hln, nodesV_len]
 have hkll : kl.length = keep.length := by rw [hkl, bytesV_len]
 refine FnR.of' T_ok M_ok (fn := Tryz.f31) (by kernel_rfl) rfl rfl rfl rfl (Nat.le_of_ble_eq_true rfl) fun A hA => ?_
 cbv
 refine loopF hA (ι := Int × Int × List V) (fun q => { n := 66, sl := [(7, .v (.int .i64 q.1)), (6, .v (.int .i64 q.2.1)), (5, .own 57), (4, .ptr 4 0), (2, .ptr 2 0), (1, .v (.slice kl))], ob := [(57, .row 4 q.2.2 true), (4, .box [.nils, .v (.int .i64 0), .v (.int .i64 0), .v (.int .i64 0), .lit false, .lit false, .v (.int .i64 0), .lit false, .lit false, .v (.int .i64 0)]), (2, .box [.v (.slice ln), .v (.int .i64 k.cap), .v (.int .i64 k.ops), .v (.int .i64 k.changes), .v (.bool k.down), .v (.bool k.fail.is), .v (.int .i64 k.fail.after), .v (.bool k.done), .v (.bool k.full.is), .v (.int .i64 k.full.after)])] }) (fun q => ∃ j : Nat, q.1 = (j : Nat) ∧ j ≤ k.nodes.length ∧ q.2.1 = (usedN (k.nodes.take j) : Nat) ∧ q.2.2 = nodesV (crashL (k.nodes.take j) keep)) (fun q => k.nodes.length - q.1.toNat) (_, _, _) ((weak_nils _ 5 57 4 true rfl).trans (weakI rfl ⟨rfl, rfl, rfl, rfl, rfl, rfl, trivial⟩ ⟨rfl, rfl, rfl, trivial⟩)) ⟨0, rfl, Nat.zero_le _, rfl, rfl⟩ ?_
 rintro ⟨i, at_, x⟩ ⟨j, hi, hj, hat, hx⟩
 dsimp only at hi hat hx
 cbv
 refine condI hA (fun hcc => ?_) (fun hcc => ?_)
 ·have hjl := ltL hA (natEq hi) hll hcc
  have hN := hok _ (List.getElem_mem hjl)
  have hct := crash_take hjl keep
  have hus := used_take hjl
  have hul : usedN (k.nodes.take j) ≤ 4096 := Nat.le_trans (used_le _) (by rw [List.length_take]; omega)
  have hxl : x.length ≤ 4096 := by rw [hx, nodesV_len, crashL_len, List.length_take]; omega
  cbv
  refine getND hA hln (natEq hi) hjl ?_
  rintro d2 b2 le2 ls2 hd2 hb2 hle2 hls2
  have hall := cAll (k.nodes[j]'hjl) le2 ls2 hls2 hN.n (by have := hN.sz; omega) hN.cm
  rw [← hd2, ← hb2] at hall
  have hbeh := fun (kk : Int) (kn : Nat) (hk : kk = (kn : Nat)) (hkn : kn ≤ 1000000000) => cBehind (k.nodes[j]'hjl) le2 ls2 hle2 hls2 hN.n kk kn hk hkn hN.sz hN.en hN.ok hN.cm
  rw [← hd2, ← hb2] at hbeh
  cbv
  refine callI hA (hall) ?_
  intro rs_ h_
  obtain ⟨u, q_1, hu⟩ := h_
  subst q_1
  cbv
  refine condI hA (fun hz => ?_) (fun hz => ?_)
  ·have hz : u = 0 := zeqT hA hz
   have hpz : (k.nodes[j]'hjl).parts = 0 := by have := hu.symm.trans hz; exact Int.ofNat.inj this
   have hkz : keepN (k.nodes[j]'hjl) (keep.drop (usedN (k.nodes.take j))) = 0 := by unfold keepN; rw [if_pos hpz]
   rw [hkz] at hct
   rw [if_pos hpz] at hus
   cbv
   refine getND hA hln (natEq hi) hjl ?_
   rintro d3 b3 le3 ls3 hd3 hb3 hle3 hls3
   obtain rfl : d3 = d2 := hd3.trans hd2.symm
   obtain rfl : b3 = b2 := hb3.trans hb2.symm
   obtain rfl : le3 = le2 := hle3.trans hle2.symm
   obtain rfl : ls3 = ls2 := hls3.trans hls2.symm
   cbv
   refine callI hA ((hbeh 0 0 rfl (by decide))) ?_
   intro rs_ h_
   obtain ⟨fb, fe, q_1, hfb, hfe⟩ := h_
   subst q_1
   cbv
   have hnd : [V.agg [.bool d3, .str fb, .slice fe, .slice []]] = nodesV [(k.nodes[j]'hjl).crash 0] := by rw [hd3, hfb, hfe]; rfl
   refine roomI hA ⟨by simp only [List.length_singleton]; omega, by decide⟩ ?_
   cbv
   exact ⟨(_, _, _), (weak_ren _ 5 33 57 4 _ true rfl rfl).trans (weakI rfl ⟨rfl, rfl, rfl, rfl, rfl, rfl, trivial⟩ ⟨rfl, rfl, rfl, trivial⟩), ⟨j + 1, upI hA (natEq hi) (by omega), hjl, hat.trans (by rw [hus, Nat.add_zero]), (app_nd hA hx hnd).trans (by rw [hct])⟩, upM hA (natEq hi) hjl (by omega)⟩
  ·have hz : u ≠ 0 := zeqF hA hz
   have hpz : (k.nodes[j]'hjl).parts ≠ 0 := fun q => hz (by rw [hu, q]; rfl)
   have hps : (k.nodes[j]'hjl).parts ≤ 1000000000 := by have := hN.sz; omega
   rw [if_neg hpz] at hus
   obtain ⟨kn1, kn2⟩ := keepN_at (m := usedN (k.nodes.take j)) (keep := keep) hpz
   have hu1 : w64 (u + 1) = (((k.nodes[j]'hjl).parts + 1 : Nat) : Int) := w64_add hu rfl (by omega)
   have hkn : keepN (k.nodes[j]'hjl) (keep.drop (usedN (k.nodes.take j))) ≤ 1000000000 := Nat.le_trans (keepN_le _ _) hps
   cbv
   refine condI hA (fun hk => ?_) (fun hk => ?_)
   ·have hk : usedN (k.nodes.take j) < keep.length := by
     have hk : at_ < A.lenL kl := zltT hA hk
     rw [natEq hat, hA] at hk
     have hk : ((usedN (k.nodes.take j) : Nat) : Int) < (kl.length : Int) := hk
     rw [hkll] at hk; omega
    have kn1 := kn1 hk
    cbv
    refine getBN hA hkl (natEq hat) hk ?_
    rintro v0 hv0
    have hv0' : A.wrap .i64 v0 = ((keep[usedN (k.nodes.take j)]'hk).toNat : Nat) := by
     have hx := (keep[usedN (k.nodes.take j)]'hk).toNat_lt
     rw [natEq hv0, hA]; exact wrap_i64 (by omega) (by omega)
    have hu2 : A.wrap .i64 (A.add u 1) = (((k.nodes[j]'hjl).parts + 1 : Nat) : Int) := (zadd hA u 1).trans (natEq hu1)
    have hu3 : ¬ (((k.nodes[j]'hjl).parts + 1 : Nat) : Int) = 0 := by omega
    have hkk : A.tmod (A.wrap .i64 v0) (A.wrap .i64 (A.add u 1)) = ((keepN (k.nodes[j]'hjl) (keep.drop (usedN (k.nodes.take j))) : Nat) : Int) := by
     rw [hv0', hu2, kn1, hA]; exact Int.ofNat_tmod _ _
    cbv
    refine nzI hA (fun e => hu3 (hu2.symm.trans e)) ?_
    cbv
    refine getND hA hln (natEq hi) hjl ?_
    rintro d3 b3 le3 ls3 hd3 hb3 hle3 hls3
    obtain rfl : d3 = d2 := hd3.trans hd2.symm
    obtain rfl : b3 = b2 := hb3.trans hb2.symm
    obtain rfl : le3 = le2 := hle3.trans hle2.symm
    obtain rfl : ls3 = ls2 := hls3.trans hls2.symm
    cbv
    refine callI hA ((hbeh _ (keepN (k.nodes[j]'hjl) (keep.drop (usedN (k.nodes.take j)))) hkk hkn)) ?_
    intro rs_ h_
    obtain ⟨fb, fe, q_1, hfb, hfe⟩ := h_
    subst q_1
    cbv
    have hnd : [V.agg [.bool d3, .str fb, .slice fe, .slice []]] = nodesV [(k.nodes[j]'hjl).crash (keepN (k.nodes[j]'hjl) (keep.drop (usedN (k.nodes.take j))))] := by rw [hd3, hfb, hfe]; rfl
    refine roomI hA ⟨by simp only [List.length_singleton]; omega, by decide⟩ ?_
    cbv
    exact ⟨(_, _, _), weakI rfl ⟨rfl, rfl, rfl, rfl, rfl, rfl, trivial⟩ ⟨rfl, rfl, rfl, trivial⟩, ⟨j + 1, upI hA (natEq hi) (by omega), hjl, (upI hA (natEq hat) (by omega)).trans (by rw [hus]), (app_nd hA hx hnd).trans (by rw [hct])⟩, upM hA (natEq hi) hjl (by omega)⟩
   ·have hk : ¬ usedN (k.nodes.take j) < keep.length := by
     have hk : ¬ at_ < A.lenL kl := zltF hA hk
     rw [natEq hat, hA] at hk
     have hk : ¬ ((usedN (k.nodes.take j) : Nat) : Int) < (kl.length : Int) := hk
     rw [hkll] at hk; omega
    have kn2 := kn2 hk
    have hkk : (0 : Int) = ((keepN (k.nodes[j]'hjl) (keep.drop (usedN (k.nodes.take j))) : Nat) : Int) := by rw [kn2]; rfl
    cbv
    refine getND hA hln (natEq hi) hjl ?_
    rintro d3 b3 le3 ls3 hd3 hb3 hle3 hls3
    obtain rfl : d3 = d2 := hd3.trans hd2.symm
    obtain rfl : b3 = b2 := hb3.trans hb2.symm
    obtain rfl : le3 = le2 := hle3.trans hle2.symm
    obtain rfl : ls3 = ls2 := hls3.trans hls2.symm
    cbv
    refine callI hA ((hbeh _ (keepN (k.nodes[j]'hjl) (keep.drop (usedN (k.nodes.take j)))) hkk hkn)) ?_
    intro rs_ h_
    obtain ⟨fb, fe, q_1, hfb, hfe⟩ := h_
    subst q_1
    cbv
    have hnd : [V.agg [.bool d3, .str fb, .slice fe, .slice []]] = nodesV [(k.nodes[j]'hjl).crash (keepN (k.nodes[j]'hjl) (keep.drop (usedN (k.nodes.take j))))] := by rw [hd3, hfb, hfe]; rfl
    refine roomI hA ⟨by simp only [List.length_singleton]; omega, by decide⟩ ?_
    cbv
    exact ⟨(_, _, _), weakI rfl ⟨rfl, rfl, rfl, rfl, rfl, rfl, trivial⟩ ⟨rfl, rfl, rfl, trivial⟩, ⟨j + 1, upI hA (natEq hi) (by omega), hjl, (upI hA (natEq hat) (by omega)).trans (by rw [hus]), (app_nd hA hx hnd).trans (by rw [hct])⟩, upM hA (natEq hi) hjl (by omega)⟩
 ·have hjl := geL hA (natEq hi) hll hcc hj
  have hx : x = nodesV (crashL k.nodes keep) := by rw [hx, hjl, List.take_length]
  cbv
  refine retI hA ?_
  exact ⟨e1 x hx, trivial⟩
open Go Go.RowKit
theorem i64_0 : I64 0 := by unfold I64; omega
theorem gLen {gh : GH} {lab : Lab} {p : Nat} {k : Dk} {B jp : Nat} {file n : Int} (h : JD gh lab p k B jp file n) : FnG Tryz.prog 14 [.gp jp 0] gh fun rs g => ∃ m : Int, rs = [.v (.int .i64 m)] ∧ m = n ∧ gh = g := by
 have hj := h.j.at_
 unfold jBox at hj
 refine FnG.of' T_ok M_ok [] (fn := Tryz.f14) (by kernel_rfl) rfl rfl rfl rfl (Nat.le_of_ble_eq_true rfl) fun A hA => ?_
 cbv
 refine gldI hA _ (hj) ?_
 cbv
 exact retGI hA rfl [.v (.int .i64 n)] gh (⟨n, rfl, rfl, rfl⟩)
theorem gThere {gh : GH} {lab : Lab} {p : Nat} {k : Dk} {B jp : Nat} {file n : Int} (h : JD gh lab p k B jp file n) : FnG Tryz.prog 15 [.gp jp 0] gh fun rs g => ∃ b : Bool, rs = [.v (.bool b)] ∧ (b = true ↔ file ≠ 0) ∧ gh = g := by
 have hj := h.j.at_
 unfold jBox at hj
 refine FnG.of' T_ok M_ok [] (fn := Tryz.f15) (by kernel_rfl) rfl rfl rfl rfl (Nat.le_of_ble_eq_true rfl) fun A hA => ?_
 cbv
 refine gldI hA _ (hj) ?_
 cbv
 exact retGI hA rfl [.v (.bool (A.ine file 0))] gh (⟨_, rfl, by rw [hA]; simp [std], rfl⟩)
theorem framesB_one (a : RecM) : framesB 0 [a] = frameL 0 (putB a) := by simp [framesB]
theorem R3_good : Good R3 := ⟨R3_ok, R3_check⟩
theorem gAddC {C : Nat} (hC : C ≤ 1000000000) {gh : GH} {lab : Lab} {p : Nat} {k : Dk} {B jp c : Nat} {file n : Int} {recs : List RecM} (h : JD gh lab p k B jp file n) (hn : n = (recs.length : Nat)) (hB : B + 2000 ≤ 1000000000) (hS : JSt C c k file recs) (hf : k.fail.is = false) (hc : c ≤ 4000) (a : RecM) (l : List V) (ha : l = strsV a.path) (hr : RecOk a) (hck : checkM a = true) (hsz : (framesB 0 recs).length + (10 + (putB a).length) ≤ C) (ho : w64 k.ops = k.ops) (hrl : recs.length ≤ 1000) :
  ∃ k' file', k'.fail.is = false ∧ JSt C c k' file' (recs ++ [a]) ∧ k'.ops = w64 (k.ops + if file = 0 then 4 else 2) ∧ FnG Tryz.prog 12 [.gp jp 0, .agg [.int .u8 a.k, .slice l, .int .i64 a.sz, .int .u32 a.sm, .int .i64 a.mi, .int .i64 a.mo, .int .u32 a.si, .int .u32 a.so]] gh fun rs g => ∃ e : Int, rs = [.v (.int .i64 e)] ∧ e = 0 ∧ JDid gh lab p k' (B + 2000) jp file' ((recs ++ [a]).length : Nat) g := by
 obtain ⟨b1, b2, b3, b4, b5⟩ := add_calm hC hS hf hc hr hck hsz ho
 have hi : I64 file := by
  rcases hS.2 with ⟨q, _⟩ | ⟨j, q, r, q2⟩
  ·rw [q]; exact i64_0
  ·have := (List.getElem?_eq_some_iff.1 r.at_).1
   rw [q]; unfold I64; omega
 have hg := gAdd h hB (by omega) hi a l ha hr
 rw [hn] at hg
 refine ⟨_, _, b2, b3, b5, hg.mono fun rs g ⟨e, q1, q2, q3⟩ => ⟨e, q1, q2.trans b1, b4 ▸ q3⟩⟩
theorem gAwake18 (gh : GH) : FnG Tryz.prog 5 [] gh fun rs g => ∃ b : Bool, rs = [.v (.bool b)] ∧ b = true := by
 obtain ⟨k0, hk0⟩ : ∃ k, k = dkNew 1000 := ⟨_, rfl⟩
 have hn := dNew gh 1000 (by decide) (by decide)
 rw [← hk0] at hn
 have S0 : JSt 1000 1 k0 0 [] := by rw [hk0]; exact ⟨⟨rfl, rfl, rfl⟩, .inl ⟨rfl, rfl, rfl, Nat.le_refl _⟩⟩
 have F0 : k0.fail.is = false := by rw [hk0]; rfl
 have O0 : k0.ops = 0 := by rw [hk0]; rfl
 have pl : (putB R3).length = 17 := by rw [R3_put]; rfl
 have fl1 : (framesB 0 ([] ++ [R3])).length = 27 := by rw [List.nil_append, framesB_one, frameL_len, pl]
 have open_ : ∀ (k : Dk) (file : Int) (recs : List RecM) (g : GH) (lab : Lab) (p B : Nat), JSt 1000 1 k file recs → k.fail.is = false → (∀ a ∈ recs, Good a) → DI g lab p k B → B + 2 ≤ 1000000000 → FnG Tryz.prog 11 [.gp p 0] g fun rs g' => ∃ (jp : Nat) (l : List V) (e : Int), rs = [.v (.gp jp 0), .v (.slice l), .v (.int .i64 e)] ∧ e = 0 ∧ l = recsV recs ∧ ∃ lab', Upd g g' lab lab' (fun _ => True) (fun _ => False) ∧ JD g' lab' p k (B + 2) jp file (recs.length : Nat) := fun k file recs g lab p B hS hf hg hD hB =>
  (gOpen hD hB).mono fun rs g' ⟨x, l, e, q1, q2, lab', u, hD', hm⟩ => by
   rw [open_st hS hf hg] at q2 hD' hm
   obtain ⟨hl, jp, rfl, _, hs⟩ := hm
   exact ⟨jp, l, e, q1, q2, hl, lab', u, hD', hs⟩
 refine FnG.of' T_ok M_ok [] (fn := Tryz.f5) (by kernel_rfl) rfl rfl rfl rfl (Nat.le_of_ble_eq_true rfl) fun A hA => ?_
 cbv
 refine callGI hA (hn) ?_
 intro rs_ g1 h_
 obtain ⟨p, lab1, q_1, hp, hn1, hold, hD1⟩ := h_
 subst q_1
 cbv
 have ho := open_ k0 0 [] g1 lab1 p 0 S0 F0 (by simp) hD1 (by decide)
 refine callGI hA (ho) ?_
 intro rs_ g2 h_
 obtain ⟨jp, l, e, q_1, he, hl, lab2, u2, J2⟩ := h_
 subst q_1
 cbv
 obtain ⟨k1, f1, F1, S1, O1, ha1⟩ := gAddC (by decide) J2 rfl (by decide) S0 F0 (by decide) R3 [] rfl R3_ok R3_check (by rw [pl]; decide) (by rw [O0]; rfl) (by decide)
 have O1 : k1.ops = 4 := by rw [O1, O0]; rfl
 have hf1 : f1 ≠ 0 := by
  rcases S1.2 with ⟨_, q, _⟩ | ⟨j, q, r, q2⟩
  ·simp at q
  ·rw [q]; omega
 cbv
 refine condF hA (zne_f hA ((lenR hA hl).trans rfl)) ?_
 cbv
 refine condF hA (zne_f hA he) ?_
 cbv
 refine callGI hA (ha1) ?_
 intro rs_ g3 h_
 obtain ⟨e1, q_1, he1, lab3, u3, J3⟩ := h_
 subst q_1
 cbv
 have hops := gOps J3.d.i
 refine condF hA (zne_f hA he1) ?_
 cbv
 refine callGI hA (hops) ?_
 intro rs_ g_ h_
 obtain ⟨q_1, q_2⟩ := h_
 subst q_1
 subst q_2
 cbv
 obtain ⟨k2, f2, F2, S2, O2, ha2⟩ := gAddC (by decide) J3 rfl (by decide) S1 F1 (by decide) R3 [] rfl R3_ok R3_check (by rw [fl1, pl]; decide) (by rw [O1]; rfl) (by decide)
 have O2 : k2.ops = 6 := by rw [O2, O1, if_neg hf1]; rfl
 refine condF hA (zne_f hA O1) ?_
 cbv
 refine callGI hA (ha2) ?_
 intro rs_ g4 h_
 obtain ⟨e2, q_1, he2, lab4, u4, J4⟩ := h_
 subst q_1
 cbv
 have hops := gOps J4.d.i
 refine condF hA (zne_f hA he2) ?_
 cbv
 refine callGI hA (hops) ?_
 intro rs_ g_ h_
 obtain ⟨q_1, q_2⟩ := h_
 subst q_1
 subst q_2
 cbv
 refine condF hA (zne_f hA O2) ?_
 cbv
 have ho2 := open_ k2 f2 _ _ lab4 p _ S2 F2 (fun a ha => by simp at ha; rw [ha]; exact R3_good) J4.d (by decide)
 refine callGI hA (ho2) ?_
 intro rs_ g5 h_
 obtain ⟨jp5, l5, e5, q_1, he5, hl5, lab5, u5, J5⟩ := h_
 subst q_1
 cbv
 have K5 : JD g5 lab5 p k2 _ jp f2 _ := ⟨J5.d, J4.j.upd u5⟩
 have hf2 : f2 ≠ 0 := by
  rcases S2.2 with ⟨_, q, _⟩ | ⟨j, q, r, q2⟩
  ·simp at q
  ·rw [q]; omega
 have hlen := gLen K5
 have hth := gThere K5
 have hcl := gClear K5 (by decide)
 have hcs := clear_step S2 F2
 refine condT hA (zeq_t hA ((lenR hA hl5).trans rfl)) ?_
 cbv
 refine condT hA (zeq_t hA he5) ?_
 cbv
 refine callGI hA (hlen) ?_
 intro rs_ g_ h_
 obtain ⟨m, q_1, hm, q_2⟩ := h_
 subst q_1
 subst q_2
 cbv
 refine condT hA (zeq_t hA (hm.trans rfl)) ?_
 cbv
 refine callGI hA (hth) ?_
 intro rs_ g_ h_
 obtain ⟨b, q_1, hb, q_2⟩ := h_
 subst q_1
 subst q_2
 cbv
 refine condT hA (hb.2 hf2) ?_
 cbv
 refine callGI hA (hcl) ?_
 intro rs_ g6 h_
 obtain ⟨e6, q_1, he6, lab6, u6, J6⟩ := h_
 subst q_1
 cbv
 have hth6 := gThere J6
 refine condT hA (zeq_t hA (he6.trans hcs.1)) ?_
 cbv
 refine callGI hA (hth6) ?_
 intro rs_ g_ h_
 obtain ⟨b6, q_1, hb6, q_2⟩ := h_
 subst q_1
 subst q_2
 cbv
 obtain rfl : b6 = false := Bool.eq_false_iff.2 fun q => hb6.1 q hcs.2.2.1
 refine condT hA (by rw [hA]; rfl) ?_
 cbv
 exact retGI hA rfl [.v (.bool true)] g6 ⟨true, rfl, rfl⟩
open Go Go.RowKit
def wBox (p : Nat) (jv : V) (ln : List V) (r : Dk) (file n : Int) : GObj := .box [.gp p 0, jv, .slice ln, .int .i64 r.cap, .int .i64 r.ops, .int .i64 r.changes, .bool r.down, .bool r.fail.is, .int .i64 r.fail.after, .bool r.done, .bool r.full.is, .int .i64 r.full.after, .int .i64 file, .int .i64 n]
structure WI (gh : GH) (lab : Lab) (p wp : Nat) (k : Dk) (B : Nat) (jv : V) (ln : List V) (r : Dk) (file n jf jn : Int) : Prop where
 d : DI gh lab p k B
 w : Side gh lab wp (wBox p jv ln r file n)
 j : jv = .nilp ∨ ∃ jp, jv = .gp jp 0 ∧ jp ≠ wp ∧ Side gh lab jp (jBox p jf jn)
section
variable {gh g : GH} {lab : Lab} {p wp : Nat} {k k' : Dk} {B B' : Nat} {jv : V} {ln ln' : List V} {r r' : Dk} {file n jf jn file' n' jf' jn' : Int} (h : WI gh lab p wp k B jv ln r file n jf jn)
include h
theorem WI.put {jv' : V} (hg : g = gh.set wp (wBox p jv' ln' r' file' n')) (hj : jv' = .nilp ∨ ∃ jp, jv' = .gp jp 0 ∧ jp ≠ wp ∧ Side gh lab jp (jBox p jf' jn')) : WI g lab p wp k B jv' ln' r' file' n' jf' jn' := by
 have u : Upd gh g lab lab (fun _ => False) (fun x => x = wp) := Upd.mk0 h.d.i.at_.1 (by rw [hg]; exact Nat.le_refl _) fun x hx q1 q2 => by rw [hg]; simp only [GH.set_get]; rw [if_neg q1]
 refine ⟨h.d.upd u (fun x e => by rw [e]; exact h.w.no), ⟨by rw [hg]; simp, h.w.no, by rw [hg]; exact h.w.lt⟩, ?_⟩
 rcases hj with q | ⟨jp, q1, q2, q3⟩
 ·exact .inl q
 ·exact .inr ⟨jp, q1, q2, q3.upd' u q2⟩
theorem WI.did (hd : Did gh lab p k' B' g) : ∃ lab', WI g lab' p wp k' B' jv ln r file n jf jn := by
 obtain ⟨lab', u, q⟩ := hd
 refine ⟨lab', q, h.w.upd u, ?_⟩
 rcases h.j with q | ⟨jp, q1, q2, q3⟩
 ·exact .inl q
 ·exact .inr ⟨jp, q1, q2, q3.upd u⟩
theorem WI.did' {lab' : Lab} (u : Upd gh g lab lab' (fun _ => True) (fun _ => False)) (q : DI g lab' p k' B') : WI g lab' p wp k' B' jv ln r file n jf jn := by
 refine ⟨q, h.w.upd u, ?_⟩
 rcases h.j with q | ⟨jp, q1, q2, q3⟩
 ·exact .inl q
 ·exact .inr ⟨jp, q1, q2, q3.upd u⟩
theorem WI.jdid {jp : Nat} (hjv : jv = .gp jp 0) (hne : jp ≠ wp) (hd : JDid gh lab p k' B' jp jf' jn' g) : ∃ lab', WI g lab' p wp k' B' jv ln r file n jf' jn' := by
 obtain ⟨lab', u, q⟩ := hd
 exact ⟨lab', q.d, h.w.upd' u (fun e => hne e.symm), .inr ⟨jp, hjv, hne, q.j⟩⟩
end
structure WS (gh : GH) (lab : Lab) (p wp : Nat) (k : Dk) (M B : Nat) (jv : V) (ln : List V) (r : Dk) (file n : Int) : Prop where
 i : WI gh lab p wp k B jv ln r file n file n
 rel : Rel k r
 K : K13 M k
 cap : 0 ≤ k.cap ∧ k.cap ≤ 1000000
 ln : ln = nodesV r.nodes
 fl : I64 file
 nn : 0 ≤ n ∧ n ≤ 900000 + M
theorem WS.d13 {gh : GH} {lab : Lab} {p wp : Nat} {k : Dk} {M B : Nat} {jv : V} {ln : List V} {r : Dk} {file n : Int} (h : WS gh lab p wp k M B jv ln r file n) : D13 ln r M B :=
 ⟨h.ln, h.i.d.ok.same h.rel.nodes.1, h.K.same h.rel.nodes.1, by rw [h.rel.nodes.2.1]; exact h.cap⟩
theorem addD_i64 {k : Dk} {B : Nat} (hp : PkOk k B) {file : Int} (hf : I64 file) (n : Int) (a : RecM) : I64 (k.addD file n a).2.1 := by
 have hb := beginD_i64 hp hf
 unfold Dk.addD; split
 ·exact hf
 ·split
  ·exact hf
  ·dsimp only; split
   ·exact hb
   ·split
    ·exact hb
    ·exact hb
theorem addD_n (k : Dk) (file n : Int) (a : RecM) : (k.addD file n a).2.2.1 = n ∨ (k.addD file n a).2.2.1 = n + 1 := by
 unfold Dk.addD; split
 ·exact .inl rfl
 ·split
  ·exact .inl rfl
  ·dsimp only; split
   ·exact .inl rfl
   ·split
    ·exact .inl rfl
    ·dsimp only; split
     ·exact .inr rfl
     ·exact .inl rfl
theorem clearD_j (k : Dk) (file n : Int) : ((k.clearD file n).2.1 = file ∧ (k.clearD file n).2.2.1 = n) ∨ ((k.clearD file n).2.1 = 0 ∧ (k.clearD file n).2.2.1 = 0) := by
 unfold Dk.clearD; split
 ·exact .inl ⟨rfl, rfl⟩
 ·dsimp only; split
  ·exact .inl ⟨rfl, rfl⟩
  ·dsimp only; split
   ·exact .inr ⟨rfl, rfl⟩
   ·exact .inl ⟨rfl, rfl⟩
end Go.Proofs.YthioccbgjkbmdaaGreat.AM
