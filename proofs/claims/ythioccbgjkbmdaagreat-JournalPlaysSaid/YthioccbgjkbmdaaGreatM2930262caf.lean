/-
 Contracts: the document's disk: steps, what is told.
-/
import Derived.Test.YthioccbgjkbmdaaGreatM289306ec6f
import Derived.Test.YthioccbgjkbmdaaGreatM27500feff9
set_option linter.unusedVariables false
set_option linter.unusedSimpArgs false
set_option maxRecDepth 100000
set_option maxHeartbeats 4000000
namespace Go.Proofs.YthioccbgjkbmdaaGreat.AM
open Go Go.RowKit
def diskC (ln : List V) (k : Dk) : List V := [.slice ln, .int .i64 k.cap, .int .i64 k.ops, .int .i64 k.changes, .bool k.down, .bool k.fail.is, .int .i64 k.fail.after, .bool k.done, .bool k.full.is, .int .i64 k.full.after]
theorem cFail13 (ln : List V) (k : Dk) (n : Int) (d : Bool) : CallR Tryz.prog 33 [.agg [.slice ln, .int .i64 k.cap, .int .i64 k.ops, .int .i64 k.changes, .bool k.down, .bool k.fail.is, .int .i64 k.fail.after, .bool k.done, .bool k.full.is, .int .i64 k.full.after], .int .i64 n, .bool d] fun rs => ∃ k' e, rs = [.v (.agg (diskC ln k')), .v (.int .i64 e)] ∧ k' = (k.failD n d).1 ∧ e = (k.failD n d).2 := by
 obtain ⟨k', hk'⟩ : ∃ q, q = (k.failD n d).1 := ⟨_, rfl⟩
 obtain ⟨e, he⟩ : ∃ q, q = (k.failD n d).2 := ⟨_, rfl⟩
 refine .of _ ⟨k', e, rfl, hk', he⟩ ?_
 unfold Dk.failD at hk' he
 refine FnR.of' T_ok M_ok (fn := Tryz.f33) (by kernel_rfl) rfl rfl rfl rfl (Nat.le_of_ble_eq_true rfl) fun A hA => ?_
 cbv
 refine condI hA (fun h1 => ?_) (fun h1 => ?_)
 ·rw [if_pos h1] at hk' he
  cbv
  refine retI hA ?_
  exact ⟨congrArg (fun q => some (V.agg (diskC ln q))) hk'.symm, congrArg (fun q => some (V.int .i64 q)) he.symm, trivial⟩
 ·have h1 : k.down = false := h1
  rw [if_neg (by rw [h1]; decide)] at hk' he
  cbv
  refine condI hA (fun h2 => ?_) (fun h2 => ?_)
  ·rw [if_pos (zltT hA h2)] at hk' he
   cbv
   refine retI hA ?_
   exact ⟨congrArg (fun q => some (V.agg (diskC ln q))) hk'.symm, congrArg (fun q => some (V.int .i64 q)) he.symm, trivial⟩
  ·rw [if_neg (zltF hA h2)] at hk' he
   cbv
   refine retI hA ?_
   exact ⟨congrArg (fun q => some (V.agg (diskC ln q))) hk'.symm, congrArg (fun q => some (V.int .i64 q)) he.symm, trivial⟩
theorem diskC_eq {ln : List V} {k' : Dk} {cap ops ch fa fb : Int} {dn fi dd ui : Bool} (h1 : cap = k'.cap) (h2 : ops = k'.ops) (h3 : ch = k'.changes) (h4 : dn = k'.down) (h5 : fi = k'.fail.is) (h6 : fa = k'.fail.after) (h7 : dd = k'.done) (h8 : ui = k'.full.is) (h9 : fb = k'.full.after) : some (V.agg [.slice ln, .int .i64 cap, .int .i64 ops, .int .i64 ch, .bool dn, .bool fi, .int .i64 fa, .bool dd, .bool ui, .int .i64 fb]) = some (.agg (diskC ln k')) := by
 rw [h1, h2, h3, h4, h5, h6, h7, h8, h9]; rfl
theorem cStep13 (ln : List V) (k : Dk) (c : Bool) : CallR Tryz.prog 81 [.agg [.slice ln, .int .i64 k.cap, .int .i64 k.ops, .int .i64 k.changes, .bool k.down, .bool k.fail.is, .int .i64 k.fail.after, .bool k.done, .bool k.full.is, .int .i64 k.full.after], .bool c] fun rs => ∃ k' ok e, rs = [.v (.agg (diskC ln k')), .v (.bool ok), .v (.int .i64 e)] ∧ k' = k.tick c ∧ ok = k.does ∧ e = k.opE := by
 obtain ⟨k', hk'⟩ : ∃ q, q = k.tick c := ⟨_, rfl⟩
 obtain ⟨ok, hok⟩ : ∃ q, q = k.does := ⟨_, rfl⟩
 obtain ⟨e, he⟩ : ∃ q, q = k.opE := ⟨_, rfl⟩
 refine .of _ ⟨k', ok, e, rfl, hk', hok, he⟩ ?_
 have f1 : k.cap = k'.cap := by rw [hk']; rfl
 have f2 : w64 (k.ops + 1) = k'.ops := by rw [hk']; rfl
 have f3 : (if c then w64 (k.changes + 1) else k.changes) = k'.changes := by rw [hk']; rfl
 have f7 : k.done = k'.done := by rw [hk']; rfl
 have f8 : k.full.is = k'.full.is := by rw [hk']; rfl
 have f9 : k.full.after = k'.full.after := by rw [hk']; rfl
 have g0 : k.fail.is = false → k.down = k'.down ∧ k.fail.is = k'.fail.is ∧ k.fail.after = k'.fail.after ∧ true = ok ∧ 0 = e := fun q => by
  rw [hk', hok, he]; simp [Dk.tick, Told.next, Told.hit, Dk.does, Dk.opE, q]
 have g1 : k.fail.is = true → 0 < k.fail.after → k.down = k'.down ∧ k.fail.is = k'.fail.is ∧ w64 (k.fail.after - 1) = k'.fail.after ∧ true = ok ∧ 0 = e := fun q q2 => by
  rw [hk', hok, he]; simp [Dk.tick, Told.next, Told.hit, Dk.does, Dk.opE, q, q2]
 have g2 : k.fail.is = true → ¬ 0 < k.fail.after → true = k'.down ∧ false = k'.fail.is ∧ k.fail.after = k'.fail.after ∧ k.done = ok ∧ 12 = e := fun q q2 => by
  rw [hk', hok, he]; simp [Dk.tick, Told.next, Told.hit, Dk.does, Dk.opE, q, q2]
 clear hk' hok he
 cases c
 all_goals
  refine FnR.of' T_ok M_ok (fn := Tryz.f81) (by kernel_rfl) rfl rfl rfl rfl (Nat.le_of_ble_eq_true rfl) fun A hA => ?_
  cbv
  first | refine condF hA rfl ?_ | refine condT hA rfl ?_
  cbv
  refine condI hA (fun h1 => ?_) (fun h1 => ?_)
  ·have h1 : k.fail.is = false := znotT hA h1
   obtain ⟨q4, q5, q6, q10, q11⟩ := g0 h1
   cbv
   refine retI hA ?_
   first
    | exact ⟨diskC_eq f1 ((zadd hA k.ops 1).trans f2) f3 q4 q5 q6 f7 f8 f9, congrArg (fun q => some (V.bool q)) q10, congrArg (fun q => some (V.int .i64 q)) q11, trivial⟩
    | exact ⟨diskC_eq f1 ((zadd hA k.ops 1).trans f2) ((zadd hA k.changes 1).trans f3) q4 q5 q6 f7 f8 f9, congrArg (fun q => some (V.bool q)) q10, congrArg (fun q => some (V.int .i64 q)) q11, trivial⟩
  ·have h1 : k.fail.is = true := znotF hA h1
   cbv
   refine condI hA (fun h2 => ?_) (fun h2 => ?_)
   ·have h2 : 0 < k.fail.after := zltT hA h2
    obtain ⟨q4, q5, q6, q10, q11⟩ := g1 h1 h2
    cbv
    refine retI hA ?_
    first
     | exact ⟨diskC_eq f1 ((zadd hA k.ops 1).trans f2) f3 q4 q5 ((zsub hA k.fail.after 1).trans q6) f7 f8 f9, congrArg (fun q => some (V.bool q)) q10, congrArg (fun q => some (V.int .i64 q)) q11, trivial⟩
     | exact ⟨diskC_eq f1 ((zadd hA k.ops 1).trans f2) ((zadd hA k.changes 1).trans f3) q4 q5 ((zsub hA k.fail.after 1).trans q6) f7 f8 f9, congrArg (fun q => some (V.bool q)) q10, congrArg (fun q => some (V.int .i64 q)) q11, trivial⟩
   ·have h2 : ¬ 0 < k.fail.after := zltF hA h2
    obtain ⟨q4, q5, q6, q10, q11⟩ := g2 h1 h2
    cbv
    refine chkI hA (by kernel_rfl) ?_
    cbv
    refine retI hA ?_
    first
     | exact ⟨diskC_eq f1 ((zadd hA k.ops 1).trans f2) f3 q4 q5 q6 f7 f8 f9, congrArg (fun q => some (V.bool q)) q10, congrArg (fun q => some (V.int .i64 q)) q11, trivial⟩
     | exact ⟨diskC_eq f1 ((zadd hA k.ops 1).trans f2) ((zadd hA k.changes 1).trans f3) q4 q5 q6 f7 f8 f9, congrArg (fun q => some (V.bool q)) q10, congrArg (fun q => some (V.int .i64 q)) q11, trivial⟩
theorem cFull13 (ln : List V) (k : Dk) : CallR Tryz.prog 80 [.agg [.slice ln, .int .i64 k.cap, .int .i64 k.ops, .int .i64 k.changes, .bool k.down, .bool k.fail.is, .int .i64 k.fail.after, .bool k.done, .bool k.full.is, .int .i64 k.full.after]] fun rs => ∃ k' b, rs = [.v (.agg (diskC ln k')), .v (.bool b)] ∧ k' = { k with full := k.full.next } ∧ b = k.full.hit := by
 obtain ⟨k', hk'⟩ : ∃ q : Dk, q = { k with full := k.full.next } := ⟨_, rfl⟩
 obtain ⟨b, hb⟩ : ∃ q, q = k.full.hit := ⟨_, rfl⟩
 refine .of _ ⟨k', b, rfl, hk', hb⟩ ?_
 have f1 : k.cap = k'.cap := by rw [hk']
 have f2 : k.ops = k'.ops := by rw [hk']
 have f3 : k.changes = k'.changes := by rw [hk']
 have f4 : k.down = k'.down := by rw [hk']
 have f5 : k.fail.is = k'.fail.is := by rw [hk']
 have f6 : k.fail.after = k'.fail.after := by rw [hk']
 have f7 : k.done = k'.done := by rw [hk']
 have g0 : k.full.is = false → k.full.is = k'.full.is ∧ k.full.after = k'.full.after ∧ false = b := fun q => by
  rw [hk', hb]; simp [Told.next, Told.hit, q]
 have g1 : k.full.is = true → 0 < k.full.after → k.full.is = k'.full.is ∧ w64 (k.full.after - 1) = k'.full.after ∧ false = b := fun q q2 => by
  rw [hk', hb]; simp [Told.next, Told.hit, q, q2]
 have g2 : k.full.is = true → ¬ 0 < k.full.after → false = k'.full.is ∧ k.full.after = k'.full.after ∧ true = b := fun q q2 => by
  rw [hk', hb]; simp [Told.next, Told.hit, q, q2]
 clear hk' hb
 refine FnR.of' T_ok M_ok (fn := Tryz.f80) (by kernel_rfl) rfl rfl rfl rfl (Nat.le_of_ble_eq_true rfl) fun A hA => ?_
 cbv
 refine condI hA (fun h1 => ?_) (fun h1 => ?_)
 ·obtain ⟨q1, q2, q3⟩ := g0 (znotT hA h1)
  cbv
  refine retI hA ?_
  exact ⟨diskC_eq f1 f2 f3 f4 f5 f6 f7 q1 q2, congrArg (fun q => some (V.bool q)) q3, trivial⟩
 ·have h1 : k.full.is = true := znotF hA h1
  cbv
  refine condI hA (fun h2 => ?_) (fun h2 => ?_)
  ·obtain ⟨q1, q2, q3⟩ := g1 h1 (zltT hA h2)
   cbv
   refine retI hA ?_
   exact ⟨diskC_eq f1 f2 f3 f4 f5 f6 f7 q1 ((zsub hA k.full.after 1).trans q2), congrArg (fun q => some (V.bool q)) q3, trivial⟩
  ·obtain ⟨q1, q2, q3⟩ := g2 h1 (zltF hA h2)
   cbv
   refine retI hA ?_
   exact ⟨diskC_eq f1 f2 f3 f4 f5 f6 f7 q1 q2, congrArg (fun q => some (V.bool q)) q3, trivial⟩
def Dk.fullD (k : Dk) (n : Int) : Dk × Int := if k.down then (k, 12) else if n < 0 then (k, 2) else ({ k with full := ⟨true, n⟩ }, 0)
theorem cFullT13 (ln : List V) (k : Dk) (n : Int) : CallR Tryz.prog 37 [.agg [.slice ln, .int .i64 k.cap, .int .i64 k.ops, .int .i64 k.changes, .bool k.down, .bool k.fail.is, .int .i64 k.fail.after, .bool k.done, .bool k.full.is, .int .i64 k.full.after], .int .i64 n] fun rs => ∃ k' e, rs = [.v (.agg (diskC ln k')), .v (.int .i64 e)] ∧ k' = (k.fullD n).1 ∧ e = (k.fullD n).2 := by
 obtain ⟨k', hk'⟩ : ∃ q, q = (k.fullD n).1 := ⟨_, rfl⟩
 obtain ⟨e, he⟩ : ∃ q, q = (k.fullD n).2 := ⟨_, rfl⟩
 refine .of _ ⟨k', e, rfl, hk', he⟩ ?_
 unfold Dk.fullD at hk' he
 refine FnR.of' T_ok M_ok (fn := Tryz.f37) (by kernel_rfl) rfl rfl rfl rfl (Nat.le_of_ble_eq_true rfl) fun A hA => ?_
 cbv
 refine condI hA (fun h1 => ?_) (fun h1 => ?_)
 ·rw [if_pos h1] at hk' he
  cbv
  refine retI hA ?_
  exact ⟨congrArg (fun q => some (V.agg (diskC ln q))) hk'.symm, congrArg (fun q => some (V.int .i64 q)) he.symm, trivial⟩
 ·have h1 : k.down = false := h1
  rw [if_neg (by rw [h1]; decide)] at hk' he
  cbv
  refine condI hA (fun h2 => ?_) (fun h2 => ?_)
  ·rw [if_pos (zltT hA h2)] at hk' he
   cbv
   refine retI hA ?_
   exact ⟨congrArg (fun q => some (V.agg (diskC ln q))) hk'.symm, congrArg (fun q => some (V.int .i64 q)) he.symm, trivial⟩
  ·rw [if_neg (zltF hA h2)] at hk' he
   cbv
   refine retI hA ?_
   exact ⟨congrArg (fun q => some (V.agg (diskC ln q))) hk'.symm, congrArg (fun q => some (V.int .i64 q)) he.symm, trivial⟩
theorem nodesV_len (l : List Nd) : (nodesV l).length = l.length := by simp [nodesV]
theorem getND {A : Prim} {P : Program} {R : List (Nat × AObj) → List D → Prop} (hA : A = std P R) {l : List Nd} {lv : List V} {i : Int} {j : Nat} {K : List V → Prop} (hl : lv = nodesV l) (hi : i = j) (hj : j < l.length) (hK : ∀ (d : Bool) (b : Bs) (le ls : List V), d = (l[j]'hj).dir → b = (l[j]'hj).safe.b → le = entsV (l[j]'hj).safe.en → ls = stepsV (l[j]'hj).loose → K [.bool d, .str b, .slice le, .slice ls]) : A.getA 4 lv i K :=
 getAI hA (ndC (l[j]'hj)) ⟨by omega, by rw [hl, hi, Int.toNat_natCast]; unfold nodesV; rw [List.getElem?_map, List.getElem?_eq_getElem hj]; rfl, rfl⟩ (hK _ _ _ _ rfl rfl rfl rfl)
theorem zbneT {A : Prim} {P : Program} {R : List (Nat × AObj) → List D → Prop} (hA : A = std P R) {a b : Bool} (h : A.not (A.beq a b) = true) : ¬ a = b := zbeqF hA (znotT hA h)
theorem zbneF {A : Prim} {P : Program} {R : List (Nat × AObj) → List D → Prop} (hA : A = std P R) {a b : Bool} (h : A.not (A.beq a b) = false) : a = b := zbeqT hA (znotF hA h)
theorem cNode13 (ln : List V) (k : Dk) (hln : ln = nodesV k.nodes) (hn : k.nodes.length ≤ 1000000) (i : Int) (hi : I64 i) (d : Bool) : CallR Tryz.prog 63 [.agg [.slice ln, .int .i64 k.cap, .int .i64 k.ops, .int .i64 k.changes, .bool k.down, .bool k.fail.is, .int .i64 k.fail.after, .bool k.done, .bool k.full.is, .int .i64 k.full.after], .int .i64 i, .bool d] fun rs => ∃ e : Int, rs = [.v (.int .i64 e)] ∧ e = k.ofE i d := by
 obtain ⟨e, he⟩ : ∃ q, q = k.ofE i d := ⟨_, rfl⟩
 refine .of _ ⟨e, rfl, he⟩ ?_
 refine FnR.of' T_ok M_ok (fn := Tryz.f63) (by kernel_rfl) rfl rfl rfl rfl (Nat.le_of_ble_eq_true rfl) fun A hA => ?_
 cbv
 refine condI hA (fun h1 => ?_) (fun h1 => ?_)
 ·have h1 : k.down = true := h1
  cbv
  refine retI hA ?_
  exact ⟨congrArg (fun q => some (V.int .i64 q)) (by rw [he]; unfold Dk.ofE; rw [if_pos h1]), trivial⟩
 ·have h1 : k.down = false := h1
  cbv
  refine condI hA (fun h2 => ?_) (fun h2 => ?_)
  ·have h2 : i < 1 := zltT hA h2
   have hnn : k.node? i = none := by unfold Dk.node?; rw [if_neg (by omega)]
   cbv
   refine retI hA ?_
   exact ⟨congrArg (fun q => some (V.int .i64 q)) (by rw [he]; unfold Dk.ofE; rw [h1, hnn]; rfl), trivial⟩
  ·have h2 : ¬ i < 1 := zltF hA h2
   have hll : ln.length = k.nodes.length := by rw [hln, nodesV_len]
   cbv
   refine condI hA (fun h3 => ?_) (fun h3 => ?_)
   ·have h3 : (k.nodes.length : Int) < i := by
     have h3 : A.lenL ln < i := zltT hA h3
     rw [hA] at h3; have h3 : (ln.length : Int) < i := h3; rw [hll] at h3; exact h3
    have hnn : k.node? i = none := by unfold Dk.node?; rw [if_pos (by omega)]; exact List.getElem?_eq_none (by omega)
    cbv
    refine retI hA ?_
    exact ⟨congrArg (fun q => some (V.int .i64 q)) (by rw [he]; unfold Dk.ofE; rw [h1, hnn]; rfl), trivial⟩
   ·have h3 : ¬ (k.nodes.length : Int) < i := by
     have h3 : ¬ A.lenL ln < i := zltF hA h3
     rw [hA] at h3; have h3 : ¬ (ln.length : Int) < i := h3; rw [hll] at h3; exact h3
    obtain ⟨j, hj⟩ : ∃ j : Nat, i = (j : Int) + 1 := ⟨(i - 1).toNat, by omega⟩
    have hjl : j < k.nodes.length := by omega
    have hnd := node_at (List.getElem?_eq_getElem hjl)
    have hij : A.wrap .i64 (A.sub i 1) = (j : Nat) := (zsub hA i 1).trans (by rw [hj, w64_id (by omega)]; omega)
    have heq : e = if (k.nodes[j]'hjl).dir = d then 0 else 10 := by rw [he, hj]; unfold Dk.ofE; rw [h1, hnd]; rfl
    cbv
    refine getND hA hln hij hjl ?_
    rintro dd bb le ls hdd hbb hle hls
    cbv
    refine condI hA (fun h4 => ?_) (fun h4 => ?_)
    ·have h4 : ¬ (k.nodes[j]'hjl).dir = d := by rw [← hdd]; exact zbneT hA h4
     cbv
     refine retI hA ?_
     exact ⟨congrArg (fun q => some (V.int .i64 q)) (by rw [heq, if_neg h4]), trivial⟩
    ·have h4 : (k.nodes[j]'hjl).dir = d := by rw [← hdd]; exact zbneF hA h4
     cbv
     refine retI hA ?_
     exact ⟨congrArg (fun q => some (V.int .i64 q)) (by rw [heq, if_pos h4]), trivial⟩
open Go Go.RowKit
def LsC : Ct → List Stp → Prop
 | _, [] => True
 | c, s :: r => (∀ n, s = .cut n → n ≤ c.b.length) ∧ LsC (s.run c s.parts) r
theorem ls_c {dir : Bool} : ∀ {l : List Stp} {c : Ct}, LsOk dir c l → LsC c l
 | [], _, _ => trivial
 | _ :: _, _, h => ⟨fun n e => by have := h.1; rw [e] at this; exact this.2, ls_c h.2.2⟩
theorem lsC_add {s : Stp} (hs : ∀ n, s ≠ .cut n) : ∀ {l : List Stp} {c : Ct}, LsC c l → LsC c (l ++ [s])
 | [], _, _ => ⟨fun n e => absurd e (hs n), trivial⟩
 | _ :: _, _, h => ⟨h.1, lsC_add hs h.2⟩
structure BhI (nd : Nd) (kn : Nat) (i k : Int) (b : Bs) (re : List V) (j : Nat) (c : Ct) : Prop where
 hi : i = (j : Nat)
 hj : j ≤ nd.loose.length
 hb : b = c.b
 hre : re = entsV c.en
 k1 : k ≤ kn
 k2 : -1000000000 ≤ k
 run : runs c (nd.loose.drop j) k.toNat = runs nd.safe nd.loose kn
 ok : 0 < k → LsC c (nd.loose.drop j)
 sz : c.b.length + ((nd.loose.drop j).map Stp.parts).sum ≤ 1000000000
 en : c.en.length + (nd.loose.length - j) ≤ 1000000
theorem BhI.last {nd : Nd} {kn : Nat} {i k : Int} {b : Bs} {re : List V} {j : Nat} {c : Ct} (h : BhI nd kn i k b re j c) (hx : k ≤ 0 ∨ j = nd.loose.length) : b = (runs nd.safe nd.loose kn).b ∧ re = entsV (runs nd.safe nd.loose kn).en := by
 have : runs nd.safe nd.loose kn = c := by
  rw [← h.run]
  rcases hx with q | q
  ·rw [show k.toNat = 0 from by omega, runs_zero]
  ·rw [q, List.drop_length]; rfl
 rw [this]
 exact ⟨h.hb, h.hre⟩
theorem enIns_len (e : Bs × Nat) : ∀ l : List (Bs × Nat), (enIns l e).length = l.length + 1
 | [] => rfl
 | x :: r => by
  unfold enIns
  split
  ·simp [enIns_len e r]
  ·simp
theorem enWithout_len (l : List (Bs × Nat)) (s : Bs) : (enWithout l s).length ≤ l.length := List.length_filter_le _ _
theorem enWith_len (l : List (Bs × Nat)) (s : Bs) (i : Nat) : (enWith l s i).length ≤ l.length + 1 := by
 unfold enWith
 rw [enIns_len]
 have := enWithout_len l s
 omega
theorem Stp.run_enlen (s : Stp) (c : Ct) (k : Nat) : (s.run c k).en.length ≤ c.en.length + 1 := by
 cases s with
 | app b => exact Nat.le_succ _
 | cut n => exact Nat.le_succ _
 | link s i => exact enWith_len _ _ _
 | ren f t i => have := enWith_len (enWithout c.en f) t i; have := enWithout_len c.en f; show (enWith _ _ _).length ≤ _; omega
 | unl s => have := enWithout_len c.en s; show (enWithout _ _).length ≤ _; omega
theorem BhI.step {nd : Nd} {kn : Nat} {i k : Int} {b : Bs} {re : List V} {j : Nat} {c : Ct} (h : BhI nd kn i k b re j c) (hk : 0 < k) (hj : j < nd.loose.length) {i' k' : Int} {b' : Bs} {re' : List V} (hi : i' = ((j + 1 : Nat) : Int)) (hk' : k' = k - ((nd.loose[j]'hj).parts : Nat)) (hb : b' = ((nd.loose[j]'hj).run c (min k.toNat (nd.loose[j]'hj).parts)).b) (hre : re' = entsV ((nd.loose[j]'hj).run c (min k.toNat (nd.loose[j]'hj).parts)).en) : BhI nd kn i' k' b' re' (j + 1) ((nd.loose[j]'hj).run c (min k.toNat (nd.loose[j]'hj).parts)) := by
 have hd : nd.loose.drop j = nd.loose[j]'hj :: nd.loose.drop (j + 1) := List.drop_eq_getElem_cons hj
 have hok := h.ok hk
 have hrun := h.run
 have hsz := h.sz
 have hen := h.en
 have h1 := h.k1
 have h2 := h.k2
 rw [hd] at hok hrun hsz
 simp only [List.map_cons, List.sum_cons] at hsz
 generalize nd.loose[j]'hj = s at hok hrun hsz hk' hb hre ⊢
 have hl := s.run_len c (min k.toNat s.parts)
 have hl2 := s.run_enlen c (min k.toNat s.parts)
 refine ⟨hi, hj, hb, hre, by omega, by omega, ?_, fun q => ?_, by omega, by omega⟩
 ·rw [← hrun, runs, if_neg (by omega), hk']
  congr 1
  omega
 ·rw [show min k.toNat s.parts = s.parts from by omega]
  exact hok.2
theorem st_dir {s : Stp} {c0 : Bool} {n : Int} {bs fr tn : Bs} {ti : Int} (h : stC s = [.bool c0, .int .i64 n, .str bs, .str fr, .str tn, .int .i64 ti]) (hc : s.cm true) (c : Ct) (k : Nat) : ∃ t : Nat, ti = (t : Nat) ∧ (s.run c k).b = c.b ∧ (s.run c k).en = if tn = [] then (if fr = [] then c.en else enWithout c.en fr) else enWith (if fr = [] then c.en else enWithout c.en fr) tn t := by
 cases s <;> simp [stC] at h <;> obtain ⟨rfl, rfl, rfl, rfl, rfl, rfl⟩ := h <;> simp [Stp.cm] at hc
 ·exact ⟨_, rfl, rfl, by simp [Stp.run, hc]⟩
 ·exact ⟨_, rfl, rfl, by simp [Stp.run, hc]⟩
 ·exact ⟨0, rfl, rfl, by simp [Stp.run, hc]⟩
theorem st_cut {s : Stp} {n : Int} {bs fr tn : Bs} {ti : Int} (h : stC s = [.bool true, .int .i64 n, .str bs, .str fr, .str tn, .int .i64 ti]) : ∃ m : Nat, s = .cut m ∧ n = (m : Nat) := by
 cases s <;> simp [stC] at h
 exact ⟨_, rfl, h.1.symm⟩
theorem st_app {s : Stp} {n : Int} {bs fr tn : Bs} {ti : Int} (h : stC s = [.bool false, .int .i64 n, .str bs, .str fr, .str tn, .int .i64 ti]) (hc : s.cm false) : s = .app bs := by
 cases s <;> simp [stC] at h <;> simp [Stp.cm] at hc
 rw [h.2.1]
theorem cBehind (nd : Nd) (le ls : List V) (hle : le = entsV nd.safe.en) (hls : ls = stepsV nd.loose) (hn : nd.loose.length ≤ 1000000) (kk : Int) (kn : Nat) (hk : kk = (kn : Nat)) (hkn : kn ≤ 1000000000) (hsz : nd.safe.b.length + nd.parts ≤ 1000000000) (hen : nd.safe.en.length + nd.loose.length ≤ 1000000) (hok : LsC nd.safe nd.loose) (hc : ∀ s ∈ nd.loose, s.cm nd.dir) : CallR Tryz.prog 68 [.agg [.bool nd.dir, .str nd.safe.b, .slice le, .slice ls], .int .i64 kk] fun rs => ∃ (b : Bs) (re : List V), rs = [.v (.agg [.bool nd.dir, .str b, .slice re, .slice []])] ∧ b = (runs nd.safe nd.loose kn).b ∧ re = entsV (runs nd.safe nd.loose kn).en := by
 obtain ⟨b, hb⟩ : ∃ b, b = (runs nd.safe nd.loose kn).b := ⟨_, rfl⟩
 obtain ⟨re, hre⟩ : ∃ b, b = entsV (runs nd.safe nd.loose kn).en := ⟨_, rfl⟩
 refine .of _ ⟨b, re, rfl, hb, hre⟩ ?_
 refine FnR.of' T_ok M_ok (fn := Tryz.f68) (by kernel_rfl) rfl rfl rfl rfl (Nat.le_of_ble_eq_true rfl) fun A hA => ?_
 cbv
 refine loopF hA (ι := Int × Int × Bs × List V) (fun q => { n := 80, sl := [(1, .v (.int .i64 q.2.1)), (2, .ptr 2 0), (4, .ptr 4 0), (5, .ptr 5 0), (6, .v (.int .i64 q.1))], ob := [(5, .box [.v (.bool nd.dir), .v (.str q.2.2.1), .v (.slice q.2.2.2), .nils]), (4, .box [.lit false, .v (.str []), .nils, .nils]), (2, .box [.v (.bool nd.dir), .v (.str nd.safe.b), .v (.slice le), .v (.slice ls)])] }) (fun q => ∃ j c, BhI nd kn q.1 q.2.1 q.2.2.1 q.2.2.2 j c) (fun q => nd.loose.length - q.1.toNat) (_, _, _, _) (weakI rfl ⟨rfl, rfl, rfl, rfl, rfl, trivial⟩ ⟨rfl, rfl, rfl, trivial⟩) ⟨0, nd.safe, rfl, Nat.zero_le _, rfl, hle, by show kk ≤ (kn : Nat); have := natEq hk; omega, by show -1000000000 ≤ kk; have := natEq hk; omega, by rw [natEq hk]; rfl, fun _ => hok, hsz, hen⟩ ?_
 rintro ⟨i, k, x, xe⟩ ⟨j, c, hI⟩
 change BhI nd kn i k x xe j c at hI
 have hi := hI.hi
 have hll : ls.length = nd.loose.length := by rw [hls, stepsV_len]
 cbv
 refine condI hA (fun hcc => ?_) (fun hcc => ?_)
 ·have hjl := ltL hA (natEq hi) hll hcc
  have hln := List.getElem_mem hjl
  cbv
  refine condI hA (fun hk0 => ?_) (fun hk0 => ?_)
  ·have hk0 : 0 < k := zltT hA hk0
   cbv
   refine getST hA hls (natEq hi) hjl ?_
   rintro c0 n0 bs0 fr0 tn0 ti0 hst
   cbv
   refine callI hA (cUnits nd.dir nd.safe.b le ls c0 n0 bs0 fr0 tn0 ti0) ?_
   intro rs_ h_
   obtain ⟨u, q_1, hu⟩ := h_
   subst q_1
   cbv
   have hu : u = ((nd.loose[j]'hjl).parts : Nat) := hu.trans (units_parts hst (hc _ hln))
   have hcs := hc _ hln
   have hps : (nd.loose[j]'hjl).parts ≤ 1000000000 := by
    have := hI.sz
    rw [List.drop_eq_getElem_cons hjl, List.map_cons, List.sum_cons] at this
    omega
   have hkk : A.wrap .i64 (A.sub k u) = k - ((nd.loose[j]'hjl).parts : Nat) := (zsub hA k u).trans (by rw [natEq hu]; exact w64_id (by have := hI.k1; omega))
   have hcl : c.en.length ≤ 1000000 := by have := hI.en; omega
   have hso := hI.ok hk0
   rw [List.drop_eq_getElem_cons hjl] at hso
   have hso := hso.1
   refine condI hA (fun hd => ?_) (fun hd => ?_)
   ·have hd : nd.dir = true := hd
    rw [hd] at hcs
    obtain ⟨ti, hti, hrb, hre2⟩ := st_dir hst hcs c (min k.toNat (nd.loose[j]'hjl).parts)
    cbv
    refine condI hA (fun hf => ?_) (fun hf => ?_)
    ·have hf : fr0 ≠ [] := zsneT hA hf
     cbv
     refine callI hA (cWithout c.en xe hI.hre fr0 hcl) ?_
     intro rs_ h_
     obtain ⟨w, q_1, hv⟩ := h_
     subst q_1
     cbv
     have hwl : (enWithout c.en fr0).length ≤ 1000000 := Nat.le_trans (enWithout_len _ _) hcl
     refine condI hA (fun ht => ?_) (fun ht => ?_)
     ·have ht' : tn0 ≠ [] := zsneT hA ht
      cbv
      refine callI hA (cWith (enWithout c.en fr0) w hv tn0 ti0 ti hti hwl) ?_
      intro rs_ h_
      obtain ⟨w2, q_1, hw2⟩ := h_
      subst q_1
      cbv
      exact ⟨(_, _, _, _), weakI rfl ⟨rfl, rfl, rfl, rfl, rfl, trivial⟩ ⟨rfl, rfl, rfl, trivial⟩, ⟨j + 1, _, hI.step hk0 hjl (upI hA (natEq hi) (by omega)) hkk (hI.hb.trans hrb.symm) (hw2.trans (by rw [hre2, if_neg ht', if_neg hf]))⟩, upM hA (natEq hi) hjl (by omega)⟩
     ·have ht' : tn0 = [] := zsneF hA ht
      cbv
      exact ⟨(_, _, _, _), weakI rfl ⟨rfl, rfl, rfl, rfl, rfl, trivial⟩ ⟨rfl, rfl, rfl, trivial⟩, ⟨j + 1, _, hI.step hk0 hjl (upI hA (natEq hi) (by omega)) hkk (hI.hb.trans hrb.symm) (hv.trans (by rw [hre2, if_pos ht', if_neg hf]))⟩, upM hA (natEq hi) hjl (by omega)⟩
    ·have hf : fr0 = [] := zsneF hA hf
     have hv := hI.hre
     cbv
     refine condI hA (fun ht => ?_) (fun ht => ?_)
     ·have ht' : tn0 ≠ [] := zsneT hA ht
      cbv
      refine callI hA (cWith c.en xe hv tn0 ti0 ti hti hcl) ?_
      intro rs_ h_
      obtain ⟨w2, q_1, hw2⟩ := h_
      subst q_1
      cbv
      exact ⟨(_, _, _, _), weakI rfl ⟨rfl, rfl, rfl, rfl, rfl, trivial⟩ ⟨rfl, rfl, rfl, trivial⟩, ⟨j + 1, _, hI.step hk0 hjl (upI hA (natEq hi) (by omega)) hkk (hI.hb.trans hrb.symm) (hw2.trans (by rw [hre2, if_neg ht', if_pos hf]))⟩, upM hA (natEq hi) hjl (by omega)⟩
     ·have ht' : tn0 = [] := zsneF hA ht
      cbv
      exact ⟨(_, _, _, _), weakI rfl ⟨rfl, rfl, rfl, rfl, rfl, trivial⟩ ⟨rfl, rfl, rfl, trivial⟩, ⟨j + 1, _, hI.step hk0 hjl (upI hA (natEq hi) (by omega)) hkk (hI.hb.trans hrb.symm) (hv.trans (by rw [hre2, if_pos ht', if_pos hf]))⟩, upM hA (natEq hi) hjl (by omega)⟩
   ·have hd : nd.dir = false := hd
    rw [hd] at hcs
    cbv
    refine condI hA (fun hf => ?_) (fun hf => ?_)
    ·have hf : c0 = true := hf
     rw [hf] at hst
     obtain ⟨m, hsm, hnm⟩ := st_cut hst
     have hml := hso m hsm
     have hb1 : (0 : Int) ≤ 0 ∧ 0 ≤ n0 ∧ n0 ≤ x.length := by rw [natEq hnm, hI.hb]; omega
     cbv
     refine subSN hA hb1 ?_
     rintro x2 hx2
     have hx2 : x2 = c.b.take m := hx2.trans (by rw [natEq hnm, Int.toNat_natCast, hI.hb]; rfl)
     cbv
     exact ⟨(_, _, _, _), weakI rfl ⟨rfl, rfl, rfl, rfl, rfl, trivial⟩ ⟨rfl, rfl, rfl, trivial⟩, ⟨j + 1, _, hI.step hk0 hjl (upI hA (natEq hi) (by omega)) hkk (by rw [hsm]; exact hx2) (by rw [hsm]; exact hI.hre)⟩, upM hA (natEq hi) hjl (by omega)⟩
    ·have hf : c0 = false := hf
     rw [hf] at hst
     have hsm := st_app hst hcs
     have hpl : (nd.loose[j]'hjl).parts = bs0.length := by rw [hsm]; rfl
     have hmn : A.imin k u = ((min k.toNat bs0.length : Nat) : Int) := by
      rw [hA]
      show (if u < k then u else k) = _
      rw [natEq hu, hpl]
      split <;> omega
     have hb1 : (0 : Int) ≤ 0 ∧ 0 ≤ A.imin k u ∧ A.imin k u ≤ bs0.length := by rw [hmn]; omega
     cbv
     refine chkI hA (by kernel_rfl) ?_
     cbv
     refine subSN hA hb1 ?_
     rintro y hy
     have hy : y = bs0.take (min k.toNat bs0.length) := hy.trans (by show List.drop (Int.toNat 0) (List.take (A.imin k u).toNat bs0) = _; rw [hmn, Int.toNat_natCast]; rfl)
     have hcat : x.length + y.length ≤ 9223372036854775807 := by
      have := hI.sz
      rw [hy, List.length_take, hI.hb]
      omega
     cbv
     refine catOkI hA hcat ?_
     cbv
     exact ⟨(_, _, _, _), weakI rfl ⟨rfl, rfl, rfl, rfl, rfl, trivial⟩ ⟨rfl, rfl, rfl, trivial⟩, ⟨j + 1, _, hI.step hk0 hjl (upI hA (natEq hi) (by omega)) hkk (by rw [hsm, hA]; show x ++ y = c.b ++ bs0.take (min k.toNat bs0.length); rw [hI.hb, hy]) (by rw [hsm]; exact hI.hre)⟩, upM hA (natEq hi) hjl (by omega)⟩
  ·have hk0 : k ≤ 0 := Int.not_lt.1 (zltF hA hk0)
   have hfin := hI.last (.inl hk0)
   cbv
   refine retI hA ?_
   rw [hfin.1.trans hb.symm, hfin.2.trans hre.symm]
   exact ⟨rfl, trivial⟩
 ·have hjl := geL hA (natEq hi) hll hcc hI.hj
  have hfin := hI.last (.inr hjl)
  cbv
  refine retI hA ?_
  rw [hfin.1.trans hb.symm, hfin.2.trans hre.symm]
  exact ⟨rfl, trivial⟩
open Go Go.RowKit
theorem run_none {s : Stp} (h : s.parts = 0) (c : Ct) : s.run c s.parts = c := by
 cases s with
 | app a => have : a = [] := List.eq_nil_of_length_eq_zero h; subst this; simp [Stp.run, Stp.parts]
 | _ => cases h
theorem fold_none : ∀ (l : List Stp) (c : Ct), (l.map Stp.parts).sum = 0 → l.foldl (fun c s => s.run c s.parts) c = c
 | [], _, _ => rfl
 | s :: r, c, h => by
  rw [List.map_cons, List.sum_cons] at h
  rw [List.foldl_cons, run_none (by omega), fold_none r c (by omega)]
theorem runs_all : ∀ (l : List Stp) (c : Ct), runs c l (l.map Stp.parts).sum = l.foldl (fun c s => s.run c s.parts) c
 | [], _ => rfl
 | s :: r, c => by
  by_cases h : ((s :: r).map Stp.parts).sum = 0
  ·rw [fold_none _ _ h, h, runs, if_pos rfl]
  ·rw [runs, if_neg h, List.map_cons, List.sum_cons, show min (s.parts + (r.map Stp.parts).sum) s.parts = s.parts from by omega, show s.parts + (r.map Stp.parts).sum - s.parts = (r.map Stp.parts).sum from by omega]
   exact runs_all r _
structure N13 (nd : Nd) : Prop where
 n : nd.loose.length ≤ 1000000
 sz : nd.safe.b.length + nd.parts ≤ 1000000000
 en : nd.safe.en.length + nd.loose.length ≤ 1000000
 ok : LsC nd.safe nd.loose
 cm : ∀ s ∈ nd.loose, s.cm nd.dir
theorem N13.seen {nd : Nd} (h : N13 nd) : runs nd.safe nd.loose nd.parts = nd.seen := runs_all nd.loose nd.safe
theorem cSeen (ln : List V) (k : Dk) (hln : ln = nodesV k.nodes) (i : Int) (j : Nat) (hij : i = (j : Int) + 1) (hj : j < k.nodes.length) (hjn : j ≤ 1000000) (hok : N13 (k.nodes[j]'hj)) : CallR Tryz.prog 64 [.agg [.slice ln, .int .i64 k.cap, .int .i64 k.ops, .int .i64 k.changes, .bool k.down, .bool k.fail.is, .int .i64 k.fail.after, .bool k.done, .bool k.full.is, .int .i64 k.full.after], .int .i64 i] fun rs => ∃ (d : Bool) (b : Bs) (re : List V), rs = [.v (.agg [.bool d, .str b, .slice re, .slice []])] ∧ d = (k.nodes[j]'hj).dir ∧ b = (k.nodes[j]'hj).seen.b ∧ re = entsV (k.nodes[j]'hj).seen.en := by
 obtain ⟨dv, hdv⟩ : ∃ b, b = (k.nodes[j]'hj).dir := ⟨_, rfl⟩
 obtain ⟨b, hb⟩ : ∃ b, b = (k.nodes[j]'hj).seen.b := ⟨_, rfl⟩
 obtain ⟨re, hre⟩ : ∃ b, b = entsV (k.nodes[j]'hj).seen.en := ⟨_, rfl⟩
 refine .of _ ⟨dv, b, re, rfl, hdv, hb, hre⟩ ?_
 have hw : w64 (i - 1) = (j : Nat) := by rw [hij, w64_id (by omega)]; omega
 refine FnR.of' T_ok M_ok (fn := Tryz.f64) (by kernel_rfl) rfl rfl rfl rfl (Nat.le_of_ble_eq_true rfl) fun A hA => ?_
 cbv
 refine chkI hA (by kernel_rfl) ?_
 cbv
 have hix : A.wrap .i64 (A.sub i 1) = (j : Nat) := (zsub hA i 1).trans (natEq hw)
 refine getND hA hln hix hj ?_
 rintro dd bb le ls hdd hbb hle hls
 cbv
 refine getND hA hln hix hj ?_
 rintro d2 b2 le2 ls2 hd2 hb2 hle2 hls2
 have hall := cAll (k.nodes[j]'hj) le2 ls2 hls2 hok.n (by have := hok.sz; omega) hok.cm
 rw [← hd2, ← hb2] at hall
 have hbeh := fun (kk : Int) (hk : kk = ((k.nodes[j]'hj).parts : Nat)) => cBehind (k.nodes[j]'hj) le ls hle hls hok.n kk (k.nodes[j]'hj).parts hk (by have := hok.sz; omega) hok.sz hok.en hok.ok hok.cm
 rw [← hdd, ← hbb, hok.seen] at hbeh
 cbv
 refine callI hA (hall) ?_
 intro rs_ h_
 obtain ⟨m, q_1, hm⟩ := h_
 subst q_1
 cbv
 refine callI hA ((hbeh m (natEq hm))) ?_
 intro rs_ h_
 obtain ⟨fb, fe, q_1, hfb, hfe⟩ := h_
 subst q_1
 cbv
 refine retI hA ?_
 rw [hdd.trans hdv.symm, hfb.trans hb.symm, hfe.trans hre.symm]
 exact ⟨rfl, trivial⟩
open Go Go.RowKit
theorem zseqT {A : Prim} {P : Program} {R : List (Nat × AObj) → List D → Prop} (hA : A = std P R) {a b : Bs} (h : A.seq a b = true) : a = b := by subst hA; simpa [std] using h
theorem zseqF {A : Prim} {P : Program} {R : List (Nat × AObj) → List D → Prop} (hA : A = std P R) {a b : Bs} (h : A.seq a b = false) : ¬ a = b := by subst hA; simpa [std] using h
theorem of_zero {k : Dk} {i : Int} {d : Bool} (h : k.ofE i d = 0) : ∃ (j : Nat) (nd : Nd), i = (j : Int) + 1 ∧ ∃ hj : j < k.nodes.length, k.nodes[j]'hj = nd ∧ k.node? i = some nd := by
 unfold Dk.ofE at h
 split at h
 ·cases h
 ·split at h
  ·rename_i n hn
   have hn0 := hn
   unfold Dk.node? at hn
   split at hn
   ·rename_i h1
    obtain ⟨hj, he⟩ := List.getElem?_eq_some_iff.1 hn
    exact ⟨(i - 1).toNat, n, by omega, hj, he, hn0⟩
   ·cases hn
  ·cases h
theorem seen_enlen : ∀ (l : List Stp) (c : Ct), (l.foldl (fun c s => s.run c s.parts) c).en.length ≤ c.en.length + l.length
 | [], _ => Nat.le_refl _
 | s :: r, c => by
  have h1 := seen_enlen r (s.run c s.parts)
  have h2 := s.run_enlen c s.parts
  simp only [List.foldl_cons, List.length_cons]
  omega
theorem cFind13 (ln : List V) (k : Dk) (hln : ln = nodesV k.nodes) (hn : k.nodes.length ≤ 1000000) (i : Int) (hi : I64 i) (hok : ∀ nd ∈ k.nodes, N13 nd) (s : Bs) : CallR Tryz.prog 24 [.agg [.slice ln, .int .i64 k.cap, .int .i64 k.ops, .int .i64 k.changes, .bool k.down, .bool k.fail.is, .int .i64 k.fail.after, .bool k.done, .bool k.full.is, .int .i64 k.full.after], .int .i64 i, .str s] fun rs => ∃ j e : Int, rs = [.v (.int .i64 j), .v (.int .i64 e)] ∧ j = (k.findE i s).1 ∧ e = (k.findE i s).2 := by
 obtain ⟨rj, hrj⟩ : ∃ q, q = (k.findE i s).1 := ⟨_, rfl⟩
 obtain ⟨re, hre⟩ : ∃ q, q = (k.findE i s).2 := ⟨_, rfl⟩
 refine .of _ ⟨rj, re, rfl, hrj, hre⟩ ?_
 refine FnR.of' T_ok M_ok (fn := Tryz.f24) (by kernel_rfl) rfl rfl rfl rfl (Nat.le_of_ble_eq_true rfl) fun A hA => ?_
 cbv
 refine callI hA (cNode13 ln k hln hn i hi true) ?_
 intro rs_ h_
 obtain ⟨e, q_1, he⟩ := h_
 subst q_1
 cbv
 refine condI hA (fun h1 => ?_) (fun h1 => ?_)
 ·have h1 := zneT hA h1
  have q : k.findE i s = (0, e) := by unfold Dk.findE; rw [if_pos (he ▸ h1), he]
  have q1 : rj = 0 := by rw [hrj, q]
  have q2 : e = re := by rw [hre, q]
  cbv
  refine retI hA ?_
  rw [q1, q2]
  exact ⟨rfl, rfl, trivial⟩
 ·have h1 := zneF hA h1
  obtain ⟨j, nd, hij, hjl, hjn, hG⟩ := of_zero (k := k) (i := i) (d := true) (he.symm.trans h1)
  have q : k.findE i s = match enGet nd.seen.en s with
   | some i => ((i : Int), 0)
   | none => (0, 8) := by
   unfold Dk.findE; rw [if_neg (fun q => q (he ▸ h1)), hG]; rfl
  have hse := cSeen ln k hln i j hij hjl (by omega) (hok _ (List.getElem_mem hjl))
  rw [hjn] at hse
  obtain ⟨l, hl⟩ : ∃ l, l = nd.seen.en := ⟨_, rfl⟩
  rw [← hl] at hse q
  cbv
  refine callI hA (hse) ?_
  intro rs_ h_
  obtain ⟨d, b, lv, q_1, hd, hb, hlv⟩ := h_
  subst q_1
  cbv
  have hll : lv.length = l.length := by rw [hlv, entsV_len]
  have hlm : l.length ≤ 1000000 := by rw [hl]; have := seen_enlen nd.loose nd.safe; have h2 := (hok _ (List.getElem_mem hjl)).en; rw [hjn] at h2; exact Nat.le_trans this h2
  refine loopF hA (ι := Int) (fun q => { n := 39, sl := [(10, .v (.int .i64 q)), (9, .v (.slice lv)), (2, .v (.str s))], ob := [] }) (fun q => ∃ m : Nat, q = (m : Nat) ∧ m ≤ l.length ∧ enGet l s = enGet (l.drop m) s) (fun q => l.length - q.toNat) _ (weakI rfl ⟨rfl, rfl, rfl, trivial⟩ trivial) ⟨0, rfl, Nat.zero_le _, rfl⟩ ?_
  rintro x ⟨m, hx, hm, hg⟩
  cbv
  refine condI hA (fun hc => ?_) (fun hc => ?_)
  ·have hml := ltL hA (natEq hx) hll hc
   have hdr : enGet (l.drop m) s = if (l[m]'hml).1 = s then some (l[m]'hml).2 else enGet (l.drop (m + 1)) s := by
    rw [List.drop_eq_getElem_cons hml]; unfold enGet; rw [List.find?_cons]; by_cases w : (l[m]'hml).1 = s
    ·simp [w]
    ·rw [if_neg w, show ((l[m]'hml).1 == s) = false from by simpa using w]
   cbv
   refine getEN hA hlv (natEq hx) hml ?_
   rintro nm v hnm hv
   cbv
   refine condI hA (fun hc2 => ?_) (fun hc2 => ?_)
   ·have h2 : (l[m]'hml).1 = s := by rw [← hnm]; exact zseqT hA hc2
    rw [hg, hdr, if_pos h2] at q
    cbv
    refine getEN hA hlv (natEq hx) hml ?_
    rintro n2 v2 hn2 hv2
    have q1 : v2 = rj := by rw [hrj, q]; exact natEq hv2
    have q2 : 0 = re := by rw [hre, q]
    cbv
    refine retI hA ?_
    rw [q1, q2]
    exact ⟨rfl, rfl, trivial⟩
   ·have h2 : ¬ (l[m]'hml).1 = s := by rw [← hnm]; exact zseqF hA hc2
    cbv
    exact ⟨_, weakI rfl ⟨rfl, rfl, rfl, trivial⟩ trivial, ⟨m + 1, upI hA (natEq hx) (by omega), hml, hg.trans (by rw [hdr, if_neg h2])⟩, upM hA (natEq hx) hml (by omega)⟩
  ·have hml := geL hA (natEq hx) hll hc hm
   have hnone : enGet l s = none := by rw [hg, hml, List.drop_length]; rfl
   rw [hnone] at q
   have q1 : 0 = rj := by rw [hrj, q]
   have q2 : 8 = re := by rw [hre, q]
   cbv
   refine retI hA ?_
   rw [← q1, ← q2]
   exact ⟨rfl, rfl, trivial⟩
open Go Go.RowKit
theorem sum_take {α : Type} (l : List α) (f : α → Nat) (c : Nat) (h : c < l.length) : ((l.take (c + 1)).map f).sum = ((l.take c).map f).sum + f (l[c]'h) := by
 rw [List.take_succ_eq_append_getElem h, List.map_append, List.sum_append]; simp
theorem w64_addr (a b : Int) : w64 (a + w64 b) = w64 (a + b) := by rw [Int.add_comm, w64_addg, Int.add_comm]
theorem zadd13 {A : Prim} {P : Program} {R : List (Nat × AObj) → List D → Prop} (hA : A = std P R) (a b : Int) : A.wrap .i64 (A.add a b) = w64 (a + b) := by rw [hA]; rfl
def Dk.wtF (k : Dk) (i : Nat) : Nat := if k.isD i then 0 else k.wt i
theorem cBytes (ln : List V) (k : Dk) (hln : ln = nodesV k.nodes) (hmo : k.nodes.length ≤ 4096) (hse0 : ∀ (i : Nat) (nd : Nd), k.nodes[i]? = some nd → ∀ e ∈ nd.seen.en, i + 1 < e.2 ∧ e.2 ≤ k.nodes.length) (hok : ∀ nd ∈ k.nodes, N13 nd) : ∀ (n : Nat) (i dp : Int) (j : Nat) (hij : i = (j : Int) + 1) (hj : j < k.nodes.length) (hn : k.nodes.length ≤ j + n) (dn : Nat) (h0 : dp = (dn : Nat)) (h1 : dn ≤ j), CallR Tryz.prog 79 [.agg [.slice ln, .int .i64 k.cap, .int .i64 k.ops, .int .i64 k.changes, .bool k.down, .bool k.fail.is, .int .i64 k.fail.after, .bool k.done, .bool k.full.is, .int .i64 k.full.after], .int .i64 i, .int .i64 dp] fun rs => ∃ m : Int, rs = [.v (.int .i64 m)] ∧ m = w64 ((k.reach k.wtF n j : Nat) : Int) := by
 intro n
 induction n with
 | zero => intro i dp j hij hj hn dn h0 h1; omega
 | succ n ih =>
 intro i dp j hij hj hn dn h0 h1
 obtain ⟨m, hm⟩ : ∃ m : Int, m = w64 ((k.reach k.wtF (n + 1) j : Nat) : Int) := ⟨_, rfl⟩
 refine .of _ ⟨m, rfl, hm⟩ ?_
 have hdp : dp < 4096 := by omega
 obtain ⟨nd, hnd⟩ : ∃ nd, nd = k.nodes[j]'hj := ⟨_, rfl⟩
 have hse := cSeen ln k hln i j hij hj (by omega) (hok _ (List.getElem_mem hj))
 rw [← hnd] at hse
 obtain ⟨l, hl⟩ : ∃ l, l = nd.seen.en := ⟨_, rfl⟩
 rw [← hl] at hse
 refine FnR.of' T_ok M_ok (fn := Tryz.f79) (by kernel_rfl) rfl rfl rfl rfl (Nat.le_of_ble_eq_true rfl) fun A hA => ?_
 cbv
 refine callI hA (hse) ?_
 intro rs_ h_
 obtain ⟨d, b, lv, q_1, hd, hb, hlv⟩ := h_
 subst q_1
 cbv
 have hll : lv.length = l.length := by rw [hlv, entsV_len]
 have hlm : l.length ≤ 1000000 := by rw [hl]; have := seen_enlen nd.loose nd.safe; have h2 := (hok _ (List.getElem_mem hj)).en; rw [← hnd] at h2; exact Nat.le_trans this h2
 obtain ⟨W, hW⟩ : ∃ W : Nat → Nat, W = fun i => k.wtF i + if k.isD i then k.reach k.wtF n (i - 1) else 0 := ⟨_, rfl⟩
 have hrc : k.reach k.wtF (n + 1) j = (l.map fun e => W e.2).sum := by
  rw [hl, hW, hnd]; simp only [Dk.reach]; rw [List.getElem?_eq_getElem hj]
 have hen : ∀ e ∈ l, j + 1 < e.2 ∧ e.2 ≤ k.nodes.length := by rw [hl]; exact hse0 j nd (by rw [hnd]; exact List.getElem?_eq_getElem hj)
 refine loopF hA (ι := Int × Int) (fun q => { n := 58, sl := [(9, .v (.int .i64 q.1)), (7, .v (.int .i64 q.2)), (8, .v (.slice lv)), (2, .v (.int .i64 dp)), (3, .ptr 3 0)], ob := [(3, .box [.v (.slice ln), .v (.int .i64 k.cap), .v (.int .i64 k.ops), .v (.int .i64 k.changes), .v (.bool k.down), .v (.bool k.fail.is), .v (.int .i64 k.fail.after), .v (.bool k.done), .v (.bool k.full.is), .v (.int .i64 k.full.after)])] }) (fun q => ∃ c : Nat, q.1 = (c : Nat) ∧ c ≤ l.length ∧ q.2 = w64 ((((l.take c).map fun e => W e.2).sum : Nat) : Int)) (fun q => l.length - q.1.toNat) (_, _) (weakI rfl ⟨rfl, rfl, rfl, rfl, rfl, trivial⟩ ⟨rfl, trivial⟩) ⟨0, rfl, Nat.zero_le _, rfl⟩ ?_
 rintro ⟨x, y⟩ ⟨c, hx, hc, hy⟩
 dsimp only at hx hy
 cbv
 refine condI hA (fun hcc => ?_) (fun hcc => ?_)
 ·have hcl := ltL hA (natEq hx) hll hcc
  have hej := hen _ (List.getElem_mem hcl)
  cbv
  refine condT hA (by rw [hA]; exact decide_eq_true hdp) ?_
  cbv
  cbv
  refine chkI hA (by kernel_rfl) ?_
  cbv
  cbv
  refine getEN hA hlv (natEq hx) hcl ?_
  rintro nm v hnm hv
  have hnx : ∃ j2, (l[c]'hcl).2 = j2 + 1 := ⟨(l[c]'hcl).2 - 1, by omega⟩
  obtain ⟨j2, hj2⟩ := hnx
  have hj2l : j2 < k.nodes.length := by omega
  have hv1 : v = (j2 : Int) + 1 := (natEq hv).trans (by rw [hj2]; rfl)
  have hsum := sum_take l (fun e => W e.2) c hcl
  have hisD : k.isD (l[c]'hcl).2 = (k.nodes[j2]'hj2l).dir := by unfold Dk.isD; rw [hj2]; simp only [Nat.add_sub_cancel]; rw [List.getElem?_eq_getElem hj2l]
  have hwt : k.wt (l[c]'hcl).2 = (k.nodes[j2]'hj2l).seen.b.length := by unfold Dk.wt; rw [hj2]; simp only [Nat.add_sub_cancel]; rw [List.getElem?_eq_getElem hj2l]
  have hWc : W (l[c]'hcl).2 = (if k.isD (l[c]'hcl).2 then 0 else k.wt (l[c]'hcl).2) + if k.isD (l[c]'hcl).2 then k.reach k.wtF n j2 else 0 := by
   rw [hW]; simp only [Dk.wtF]; rw [hj2]; rfl
  have hw1 : w64 (v - 1) = (j2 : Nat) := by rw [hv1, w64_id (by omega)]; omega
  have hix : A.wrap .i64 (A.sub v 1) = (j2 : Nat) := (zsub hA v 1).trans (natEq hw1)
  have hup : A.wrap .i64 (A.add dp 1) = ((dn + 1 : Nat) : Int) := upI hA (natEq h0) (by omega)
  have hrec := ih v (A.wrap .i64 (A.add dp 1)) j2 hv1 hj2l (by omega) (dn + 1) hup (by omega)
  have hse2 := cSeen ln k hln v j2 hv1 hj2l (by omega) (hok _ (List.getElem_mem hj2l))
  cbv
  refine getND hA hln hix hj2l ?_
  rintro d2 b2 le2 ls2 hd2 hb2 hle2 hls2
  cbv
  refine condI hA (fun hdd => ?_) (fun hdd => ?_)
  ·have hdd : (k.nodes[j2]'hj2l).dir = true := by rw [← hd2]; exact hdd
   rw [hisD, hdd] at hWc
   have hys : ∀ m : Int, m = w64 ((k.reach k.wtF n j2 : Nat) : Int) → w64 (y + m) = w64 ((((l.take (c + 1)).map fun e => W e.2).sum : Nat) : Int) := by
    intro m hm; rw [hy, hm, w64_addg, w64_addr, hsum, hWc]; simp
   cbv
   refine chkI hA (by kernel_rfl) ?_
   cbv
   refine getEN hA hlv (natEq hx) hcl ?_
   rintro nm3 v3 hnm3 hv3
   rw [show v3 = v from (natEq hv3).trans (natEq hv).symm]
   cbv
   refine callI hA (hrec) ?_
   intro rs_ h_
   obtain ⟨m, q_1, hm⟩ := h_
   subst q_1
   cbv
   exact ⟨(_, _), weakI rfl ⟨rfl, rfl, rfl, rfl, rfl, trivial⟩ ⟨rfl, trivial⟩, ⟨c + 1, upI hA (natEq hx) (by omega), hcl, (zadd13 hA y m).trans (hys m hm)⟩, upM hA (natEq hx) hcl (by omega)⟩
  ·have hdd : (k.nodes[j2]'hj2l).dir = false := by rw [← hd2]; exact hdd
   rw [hisD, hdd, hwt] at hWc
   have hys : ∀ b : Bs, b = (k.nodes[j2]'hj2l).seen.b → w64 (y + (b.length : Nat)) = w64 ((((l.take (c + 1)).map fun e => W e.2).sum : Nat) : Int) := by
    intro b hb; rw [hy, w64_addg, hsum, hWc, hb]; simp
   cbv
   refine chkI hA (by kernel_rfl) ?_
   cbv
   refine getEN hA hlv (natEq hx) hcl ?_
   rintro nm3 v3 hnm3 hv3
   rw [show v3 = v from (natEq hv3).trans (natEq hv).symm]
   cbv
   refine callI hA (hse2) ?_
   intro rs_ h_
   obtain ⟨d3, b3, re3, q_1, hd3, hb3, hre3⟩ := h_
   subst q_1
   cbv
   exact ⟨(_, _), weakI rfl ⟨rfl, rfl, rfl, rfl, rfl, trivial⟩ ⟨rfl, trivial⟩, ⟨c + 1, upI hA (natEq hx) (by omega), hcl, ((zadd13 hA y _).trans (congrArg (fun q => w64 (y + q)) (lenZ hA b3))).trans (hys b3 hb3)⟩, upM hA (natEq hx) hcl (by omega)⟩
 ·have hcl := geL hA (natEq hx) hll hcc hc
  have hfin : y = m := by rw [hm, hrc]; rw [hy, hcl, List.take_length]
  cbv
  refine retI hA ?_
  rw [hfin]
  exact ⟨rfl, trivial⟩
open Go Go.RowKit
structure NK (M i : Nat) (n : Nd) : Prop where
 len : n.safe.en.length + n.loose.length ≤ M
 cm : ∀ s ∈ n.loose, s.cm n.dir
 b : n.dir = true → n.safe.b = []
 flat : i ≠ 0 → n.dir = false
theorem NK.mono {M M' i : Nat} {n : Nd} (h : NK M i n) (hM : M ≤ M') : NK M' i n := ⟨Nat.le_trans h.len hM, h.cm, h.b, h.flat⟩
theorem NK.add {M i : Nat} {n : Nd} (h : NK M i n) (s : Stp) (hs : s.cm n.dir) : NK (M + 1) i (n.add s) :=
 ⟨by have := h.len; simp only [Nd.add, List.length_append, List.length_singleton]; omega, fun x hx => by
  rcases List.mem_append.1 hx with q | q
  ·exact h.cm x q
  ·rw [List.mem_singleton.1 q]; exact hs, h.b, h.flat⟩
theorem run_b {s : Stp} (hs : s.cm true) (c : Ct) (k : Nat) : (s.run c k).b = c.b := by
 cases s with
 | app a => cases hs
 | cut a => cases hs
 | link a b => rfl
 | ren a b d => rfl
 | unl a => rfl
theorem fold_b : ∀ (l : List Stp) (c : Ct), (∀ s ∈ l, s.cm true) → (l.foldl (fun c s => s.run c s.parts) c).b = c.b
 | [], _, _ => rfl
 | s :: r, c, h => by rw [List.foldl_cons, fold_b r _ (fun x hx => h x (List.mem_cons_of_mem _ hx)), run_b (h s (List.mem_cons_self ..))]
theorem runs_b : ∀ (l : List Stp) (c : Ct) (k : Nat), (∀ s ∈ l, s.cm true) → (runs c l k).b = c.b
 | [], _, _, _ => rfl
 | s :: r, c, k, h => by
  unfold runs; split
  ·rfl
  ·rw [runs_b r _ _ (fun x hx => h x (List.mem_cons_of_mem _ hx)), run_b (h s (List.mem_cons_self ..))]
theorem runs_enl : ∀ (l : List Stp) (c : Ct) (k : Nat), (runs c l k).en.length ≤ c.en.length + l.length
 | [], _, _ => Nat.le_refl _
 | s :: r, c, k => by
  unfold runs; split
  ·simp only [List.length_cons]; omega
  ·have h1 := runs_enl r (s.run c (min k s.parts)) (k - s.parts)
   have h2 := s.run_enlen c (min k s.parts)
   simp only [List.length_cons]; omega
theorem NK.sync {M i : Nat} {n : Nd} (h : NK M i n) : NK M i n.sync :=
 ⟨Nat.le_trans (seen_enlen n.loose n.safe) h.len, fun s hs => (List.not_mem_nil hs).elim, fun q => (fold_b n.loose n.safe (q ▸ h.cm)).trans (h.b q), h.flat⟩
theorem NK.crash {M i : Nat} {n : Nd} (h : NK M i n) (m : Nat) : NK M i (n.crash m) :=
 ⟨Nat.le_trans (runs_enl n.loose n.safe m) h.len, fun s hs => (List.not_mem_nil hs).elim, fun q => (runs_b n.loose n.safe m (q ▸ h.cm)).trans (h.b q), h.flat⟩
def K13 (M : Nat) (k : Dk) : Prop := ∀ (i : Nat) (n : Nd), k.nodes[i]? = some n → NK M i n
theorem K13.mono {M M' : Nat} {k : Dk} (h : K13 M k) (hM : M ≤ M') : K13 M' k := fun i n q => (h i n q).mono hM
theorem K13.same {M : Nat} {k k' : Dk} (h : K13 M k) (hn : k'.nodes = k.nodes) : K13 M k' := fun i n q => h i n (hn ▸ q)
theorem K13.n13 {M B : Nat} {k : Dk} (h : K13 M k) (hp : PkOk k B) (hM : M ≤ 1000000) (hB : B ≤ 1000000000) : ∀ nd ∈ k.nodes, N13 nd := fun nd hn => by
 obtain ⟨i, hi⟩ := List.mem_iff_getElem?.1 hn
 have q := h i nd hi
 have := q.len
 exact ⟨by omega, Nat.le_trans (hp.sz nd hn) hB, by omega, ls_c (hp.ls nd hn), q.cm⟩
theorem K13.set {M : Nat} {k k' : Dk} (h : K13 M k) {j : Nat} {n : Nd} (hn : k'.nodes = k.nodes.set j n) (h1 : NK M j n) : K13 M k' := fun i x q => by
 rw [hn, List.getElem?_set] at q
 split at q
 ·rename_i e; subst e
  split at q
  ·cases q; exact h1
  ·cases q
 ·exact h i x q
theorem node_nat {k : Dk} {i : Int} {nd : Nd} (h : k.node? i = some nd) : ∃ j : Nat, i = (j : Int) + 1 ∧ k.nodes[j]? = some nd := by
 unfold Dk.node? at h
 split at h
 ·exact ⟨(i - 1).toNat, by omega, h⟩
 ·cases h
theorem K13.op {M : Nat} {k : Dk} (h : K13 M k) (c : Bool) (i : Int) (f : Nd → Nd) (hf : ∀ (j : Nat) (nd : Nd), i = (j : Int) + 1 → k.nodes[j]? = some nd → NK M j nd → NK (M + 1) j (f nd)) : K13 (M + 1) (k.op c i f) := by
 unfold Dk.op
 split
 ·rename_i n hn
  obtain ⟨j, hij, hj⟩ := node_nat hn
  split
  ·exact (h.mono (Nat.le_succ _)).set (k' := (k.tick c).set i (f n)) (j := j) (n := f n) (by rw [hij]; unfold Dk.set; simp only [Dk.tick]; congr 1; omega) (hf j n hij hj (h j n hj))
  ·exact (h.mono (Nat.le_succ _)).same rfl
 ·exact h.mono (Nat.le_succ _)
theorem ofE_dir {k : Dk} {i : Int} {d : Bool} {n : Nd} (h : ¬ k.ofE i d ≠ 0) (hn : k.node? i = some n) : n.dir = d := by
 unfold Dk.ofE at h
 rw [hn] at h
 split at h
 ·exact (h (by decide)).elim
 ·dsimp only at h; split at h
  ·assumption
  ·exact (h (by decide)).elim
theorem op_get {k : Dk} {i : Int} {j : Nat} {nd : Nd} (hij : i = (j : Int) + 1) (hj : k.nodes[j]? = some nd) : k.node? i = some nd := by
 unfold Dk.node?; rw [if_pos (by omega), hij, show ((j : Int) + 1 - 1).toNat = j from by omega]; exact hj
theorem K13.sync {M : Nat} {k : Dk} (h : K13 M k) (i : Int) : K13 (M + 1) (k.syncD i).1 := by
 unfold Dk.syncD; split
 ·exact h.mono (Nat.le_succ _)
 ·exact h.op _ _ _ fun j nd _ _ q => q.sync.mono (Nat.le_succ _)
theorem K13.cut {M : Nat} {k : Dk} (h : K13 M k) (i n : Int) : K13 (M + 1) (k.cutD i n).1 := by
 unfold Dk.cutD; split
 ·exact h.mono (Nat.le_succ _)
 ·rename_i h0
  split
  ·split
   ·exact h.mono (Nat.le_succ _)
   ·exact h.op _ _ _ fun j nd hij hj q => q.add _ (ofE_dir h0 (op_get hij hj))
  ·exact h.mono (Nat.le_succ _)
theorem K13.unl {M : Nat} {k : Dk} (h : K13 M k) (i : Int) (s : Bs) (hs : s ≠ []) : K13 (M + 1) (k.unlD i s).1 := by
 unfold Dk.unlD; split
 ·exact h.mono (Nat.le_succ _)
 ·rename_i h0
  have hz : ¬ k.ofE i true ≠ 0 := fun q => h0 (by unfold Dk.findE; rw [if_pos q]; exact q)
  split
  ·split
   ·exact h.mono (Nat.le_succ _)
   ·exact h.op _ _ _ fun j nd hij hj q => q.add _ ⟨ofE_dir hz (op_get hij hj), hs⟩
  ·exact h.mono (Nat.le_succ _)
theorem K13.app {M : Nat} {k : Dk} (h : K13 M k) (i : Int) (b : Bs) : K13 (M + 1) (k.appD i b).1 := by
 unfold Dk.appD; split
 ·exact h.mono (Nat.le_succ _)
 ·rename_i h0
  split
  ·exact h.mono (Nat.le_succ _)
  ·dsimp only; split
   ·exact (h.mono (Nat.le_succ _)).same rfl
   ·refine K13.op (k := { k with full := k.full.next }) (h.same rfl) _ _ _ fun j nd hij hj q => ?_
    split
    ·exact q.mono (Nat.le_succ _)
    ·exact q.add _ (ofE_dir h0 (op_get hij hj))
theorem K13.make {M : Nat} {k : Dk} (h : K13 M k) (i : Int) (s : Bs) (hs : s ≠ []) : K13 (M + 1) (k.makeD i s false).1 := by
 have hm := h.mono (Nat.le_succ M)
 unfold Dk.makeD; dsimp only
 split
 ·exact hm
 ·rename_i h0
  split
  ·exact hm
  ·split
   ·exact hm
   ·rename_i nd hnd
    split
    ·exact hm
    ·split
     ·exact hm
     ·split
      ·exact hm.same rfl
      ·dsimp only; split
       ·obtain ⟨j, hij, hj⟩ := node_nat hnd
        have hjl := (List.getElem?_eq_some_iff.1 hj).1
        intro x n q
        unfold Dk.mk1 at q
        simp only [Dk.tick] at q
        rw [List.getElem?_set] at q
        split at q
        ·rename_i e
         split at q
         ·cases q; rw [← e, show (i - 1).toNat = j from by omega]; exact (h j nd hj).add _ ⟨ofE_dir h0 hnd, hs⟩
         ·cases q
        ·rw [List.getElem?_append] at q
         split at q
         ·exact hm x n q
         ·rcases h2 : x - k.nodes.length with _ | m
          ·rw [h2] at q; cases q
           exact ⟨Nat.zero_le _, fun s hs => (List.not_mem_nil hs).elim, fun e => (by cases e), fun _ => rfl⟩
          ·rw [h2] at q; cases q
       ·exact hm.same rfl
theorem K13.crash {M : Nat} {k : Dk} (h : K13 M k) (keep : Bs) : K13 M (k.crash keep) := fun i x hx => by
 obtain ⟨nd, m, h1, h2, rfl⟩ := crashL_get _ _ i x hx
 exact (h i nd h1).crash m
theorem K13.new (c : Int) : K13 0 (dkNew c) := fun i n q => by
 cases i with
 | zero => cases q; exact ⟨Nat.le_refl _, fun s hs => (List.not_mem_nil hs).elim, fun _ => rfl, fun e => (e rfl).elim⟩
 | succ i => simp [dkNew] at q
theorem K13.add {M : Nat} {k : Dk} (h : K13 M k) (file n : Int) (a : RecM) : K13 (M + 4) (k.addD file n a).1 := by
 have hm : ∀ x ≤ 4, K13 (M + x) k := fun x _ => h.mono (Nat.le_add_right _ _)
 have hb : K13 (M + 2) (k.beginD file).1 := by
  unfold Dk.beginD; split
  ·exact hm 2 (by decide)
  ·dsimp only; split
   ·exact (h.make 1 jName (by decide)).mono (Nat.le_succ _)
   ·exact (h.make 1 jName (by decide)).sync 1
 unfold Dk.addD; split
 ·exact hm 4 (by decide)
 ·split
  ·exact hm 4 (by decide)
  ·dsimp only; split
   ·exact hb.mono (by omega)
   ·split
    ·exact (hb.app _ _).mono (by omega)
    ·exact (hb.app _ _).sync _
theorem K13.clear {M : Nat} {k : Dk} (h : K13 M k) (file n : Int) : K13 (M + 2) (k.clearD file n).1 := by
 unfold Dk.clearD; split
 ·exact h.mono (by omega)
 ·dsimp only; split
  ·exact (h.unl 1 jName (by decide)).mono (by omega)
  ·exact (h.unl 1 jName (by decide)).sync 1
theorem K13.open {M : Nat} {k : Dk} (h : K13 M k) : K13 (M + 2) k.openD.1 := by
 have hm : K13 (M + 2) k := h.mono (by omega)
 unfold Dk.openD; dsimp only; split
 ·exact hm
 ·split
  ·exact hm
  ·split
   ·exact hm
   ·split
    ·split
     ·exact (h.cut _ _).mono (by omega)
     ·split
      ·exact (h.cut _ _).sync _
      ·exact (h.cut _ _).sync _
    ·exact hm
end Go.Proofs.YthioccbgjkbmdaaGreat.AM
