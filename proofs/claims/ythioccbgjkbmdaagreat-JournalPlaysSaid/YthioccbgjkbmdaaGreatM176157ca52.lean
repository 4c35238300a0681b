/-
 Contracts: a disk that is looked at.
-/
import Derived.Test.YthioccbgjkbmdaaGreatM1626ebd03b
import Derived.Test.YthioccbgjkbmdaaGreatM153f9e4031
set_option linter.unusedVariables false
set_option linter.unusedSimpArgs false
set_option maxRecDepth 100000
set_option maxHeartbeats 4000000
namespace Go.Proofs.YthioccbgjkbmdaaGreat.AM
open Go Go.RowKit
theorem ByV.is {gh : GH} {lab : Lab} {r : Nat × Nat} {v : V} {b : Bs} (h : ByV gh lab r v b) : SlIs gh 1 (bytesV b) v := by
 rcases h with ⟨h1, h2⟩ | h | ⟨id, h1, _, h2⟩
 ·exact .inl ⟨h1, by rw [h2]; rfl⟩
 ·exact .inr (.inl h)
 ·exact .inr (.inr (.inr ⟨id, by rw [h1, bytesV_len], h2⟩))
def I64 (i : Int) : Prop := -9223372036854775808 ≤ i ∧ i ≤ 9223372036854775807
structure DkIn (gh : GH) (lab : Lab) (p : Nat) (k : Dk) : Prop where
 at_ : DiskAt gh lab p k
 one : 1 ≤ k.nodes.length
theorem gOf' {gh : GH} {lab : Lab} {p : Nat} {k : Dk} (h : DkIn gh lab p k) (i : Int) (dir : Bool) (hi : I64 i) : ∃ v ids, gh.get p = some (boxD v k) ∧ NsV gh lab v ids ∧ ids.length = k.nodes.length ∧ (∀ i id nd, ids[i]? = some id → k.nodes[i]? = some nd → NodeAt gh lab i id nd) ∧
  FnG Tryz.prog 62 [.gp p 0, .int .i64 i, .bool dir] gh fun rs g => ∃ (x : V) (e : Int), rs = [.v x, .v (.int .i64 e)] ∧ (e = 0 → ∃ id nd, Got k ids i x id nd ∧ nd.dir = dir) ∧ e = k.ofE i dir ∧ gh = g := by
 obtain ⟨⟨hd, hp, v, ids, h1, h2, h3, h4⟩, h5⟩ := h
 exact ⟨v, ids, h1, h2, h3, h4, gOf gh lab p v k ids i dir h1 h2 h3 h4 h5 hi⟩
theorem gIsDir {gh : GH} {lab : Lab} {p : Nat} {k : Dk} (h : DkIn gh lab p k) (i : Int) (hi : I64 i) : FnG Tryz.prog 39 [.gp p 0, .int .i64 i] gh fun rs g => ∃ c : Bool, rs = [.v (.bool c)] ∧ c = decide (k.ofE i true = 0) ∧ gh = g := by
 obtain ⟨v, ids, _, _, _, _, ho⟩ := gOf' h i true hi
 refine FnG.of' T_ok M_ok [] (fn := Tryz.f39) (by kernel_rfl) rfl rfl rfl rfl (Nat.le_of_ble_eq_true rfl) fun A hA => ?_
 cbv
 refine callGI hA (ho) ?_
 intro rs_ g_ h_
 obtain ⟨x, e, q_1, _, he, q_2⟩ := h_
 subst q_1
 subst q_2
 cbv
 exact retGI hA rfl [.v (.bool (A.ieq e 0))] gh (⟨_, rfl, by rw [hA, he, Bool.eq_iff_iff]; simp [std], rfl⟩)
def sizeM (k : Dk) (i : Int) : Int := if k.ofE i false = 0 then match k.node? i with
 | some nd => nd.seen.b.length
 | none => 0
 else 0
theorem gSize {gh : GH} {lab : Lab} {p : Nat} {k : Dk} (h : DkIn gh lab p k) (i : Int) (hi : I64 i) : FnG Tryz.prog 26 [.gp p 0, .int .i64 i] gh fun rs g => ∃ c : Int, rs = [.v (.int .i64 c)] ∧ c = sizeM k i ∧ gh = g := by
 obtain ⟨v, ids, _, _, _, hat, ho⟩ := gOf' h i false hi
 refine FnG.of' T_ok M_ok [] (fn := Tryz.f26) (by kernel_rfl) rfl rfl rfl rfl (Nat.le_of_ble_eq_true rfl) fun A hA => ?_
 cbv
 refine callGI hA (ho) ?_
 intro rs_ g_ h_
 obtain ⟨x, e, q_1, hx, he, q_2⟩ := h_
 subst q_1
 subst q_2
 cbv
 refine condI hA (fun h1 => ?_) (fun h1 => ?_)
 ·have h1 := zneT hA h1
  cbv
  exact retGI hA rfl [.v (.int .i64 0)] gh (⟨_, rfl, by unfold sizeM; rw [if_neg (he ▸ h1)], rfl⟩)
 ·have h1 := zneF hA h1
  obtain ⟨id, nd, hG, hdir⟩ := hx h1
  obtain ⟨vb, ve, wb, we, vl, hbox, _, _, _, hwb, _⟩ := hat _ _ _ hG.id hG.nd
  have hsz : sizeM k i = nd.seen.b.length := by unfold sizeM; rw [if_pos (he ▸ h1), hG.node]
  obtain ⟨b, hb⟩ : ∃ b, b = nd.seen.b := ⟨_, rfl⟩
  rw [← hb] at hwb hsz
  have hx2 := hG.x
  subst hx2
  cbv
  refine gldI hA _ (hbox) ?_
  cbv
  have fin : ∀ c : Int, c = b.length → ∃ c' : Int, [Rs.v (.int .i64 c)] = [.v (.int .i64 c')] ∧ c' = sizeM k i ∧ gh = gh := fun c hc => ⟨c, rfl, hc.trans hsz.symm, rfl⟩
  rcases hwb.open with ⟨rfl, hb0⟩ | ⟨l, rfl, hl⟩ | ⟨bid, n, l, rfl, hn, hl, hl2, hg2⟩
  ·cbv
   exact retGI hA rfl [.v (.int .i64 0)] gh (fin 0 (by rw [hb0]; rfl))
  ·obtain ⟨n, hn⟩ : ∃ n : Int, n = (l.length : Nat) := ⟨_, rfl⟩
   refine glnSN hA (.inr (.inl rfl)) hn ?_
   cbv
   exact retGI hA rfl [.v (.int .i64 n)] gh (fin _ (by rw [natEq hn, hl, bytesV_len]))
  ·refine glenI hA ?_
   cbv
   exact retGI hA rfl [.v (.int .i64 n)] gh (fin _ hn)
open Go Go.RowKit
def Turned (b l : List UInt8) (k : Nat) : Prop := l.length = b.length ∧ ∀ m (h : m < b.length) (h' : m < l.length), l[m]'h' = if m < k ∨ b.length - k ≤ m then b[b.length - 1 - m]'(by omega) else b[m]'h
theorem GH.set_set (gh : GH) (id : Nat) (o p : GObj) : (gh.set id o).set id p = gh.set id p := by
 simp only [GH.set]; congr 1; funext j; split <;> rfl
theorem GH.set_same (gh : GH) (id : Nat) (o : GObj) (h : gh.get id = some o) : gh.set id o = gh := by
 obtain ⟨n, g⟩ := gh
 simp only [GH.set]; congr 1; funext j; split
 ·rename_i e; subst e; exact h.symm
 ·rfl
theorem Turned.zero (b : List UInt8) : Turned b b 0 := ⟨rfl, fun m h h' => by rw [if_neg (by omega)]⟩
theorem Turned.done {b l : List UInt8} {k : Nat} (h : Turned b l k) (hk : b.length ≤ 2 * k + 1) : l = b.reverse := by
 apply List.ext_getElem (by simp [h.1])
 intro m h1 h2
 rw [h.2 m (by rw [← h.1]; exact h1) h1, List.getElem_reverse]
 split
 ·rfl
 ·have := h.1
  congr 1; omega
theorem Turned.step {b l : List UInt8} {k : Nat} (h : Turned b l k) (hk : 2 * k + 1 < b.length) (h1 : k < l.length) (h2 : b.length - 1 - k < l.length) : Turned b ((l.set k (l[b.length - 1 - k]'h2)).set (b.length - 1 - k) (l[k]'h1)) (k + 1) := by
 refine ⟨by simp [h.1], fun m hm hm' => ?_⟩
 have e1 := h.2 k (by omega) h1
 have e2 := h.2 (b.length - 1 - k) (by omega) h2
 rw [if_neg (by omega)] at e1 e2
 simp only [List.getElem_set]
 split
 ·rename_i e
  rw [e1, if_pos (by omega)]
  congr 1; omega
 ·split
  ·rename_i e e3
   rw [e2, if_pos (by omega)]
   congr 1; omega
  ·rename_i e e3
   have hml : m < l.length := by simpa using hm'
   rw [h.2 m hm hml]
   by_cases hc : m < k ∨ b.length - k ≤ m
   ·rw [if_pos hc, if_pos (by omega)]
   ·rw [if_neg hc, if_neg (by omega)]
theorem ii_lt {i j : Int} {k n : Nat} (hi : i = (k : Int)) (hj : j = (n : Int) - 1 - (k : Int)) : (i < j) ↔ 2 * k + 1 < n := by omega
theorem ii_dn {j : Int} {k n : Nat} (hj : j = (n : Int) - 1 - (k : Int)) (hk : k < n) (hn : n ≤ 140737488355328) : IntKind.i64.wrap (j - 1) = (n : Int) - 1 - ((k + 1 : Nat) : Int) := by
 rw [hj, wrap_i64 (by omega) (by omega)]; omega
theorem ii_n1 {n : Nat} (hn : n ≤ 140737488355328) : IntKind.i64.wrap ((n : Int) - 1) = (n : Int) - 1 - ((0 : Nat) : Int) := by
 rw [wrap_i64 (by omega) (by omega)]; omega
theorem bytesV_set' (b : List UInt8) (k : Nat) (c : UInt8) : (bytesV b).set k (.int .u8 (c.toNat : Nat)) = bytesV (b.set k c) := by simp [bytesV]
theorem i64_up {i : Int} {j : Nat} (hi : i = j) (hj : j ≤ 140737488355328) : IntKind.i64.wrap (i + 1) = ((j + 1 : Nat) : Int) := by
 rw [hi, wrap_i64 (by omega) (by omega)]; rfl
theorem ii_i {i n : Int} {k m : Nat} (hi : i = (k : Int)) (hn : n = (m : Int)) (h : 2 * k + 1 < m) : 0 ≤ i ∧ i < n := by omega
theorem ii_j {j n : Int} {k m : Nat} (hj : j = (m : Int) - 1 - (k : Int)) (hn : n = (m : Int)) (h : 2 * k + 1 < m) : 0 ≤ j ∧ j < n := by omega
theorem ii_j2 {j : Int} {k m : Nat} (hj : j = (m : Int) - 1 - (k : Int)) (h : 2 * k + 1 < m) : j = ((m - 1 - k : Nat) : Int) := by omega
theorem cReverse (id : Nat) (n : Int) (b : List UInt8) (gh : GH) (hg : gh.get id = some (.row 1 (bytesV b))) (hn : n = b.length) (hb : b.length ≤ 140737488355328) : FnG Tryz.prog 122 [.gs id n] gh fun rs gh' => rs = [] ∧ gh' = gh.set id (.row 1 (bytesV b.reverse)) := by
 refine FnG.of' T_ok M_ok [] (fn := Tryz.f122) (by kernel_rfl) rfl rfl rfl rfl (Nat.le_of_ble_eq_true rfl) fun A hA => ?_
 cbv
 refine glenI hA  ?_
 cbv
 refine loopF hA (ι := Int × Int × GH) (fun p => { n := 28, sl := [(0, .v (.gs id n)), (2, .v (.int .i64 p.1)), (3, .v (.int .i64 p.2.1))], ob := [(hk, .heap p.2.2 [])] })
  (fun p => ∃ (k : Nat) (l : List UInt8), p.1 = k ∧ p.2.1 = (b.length : Int) - 1 - (k : Int) ∧ Turned b l k ∧ p.2.2 = gh.set id (.row 1 (bytesV l))) (fun p => b.length - p.1.toNat) (_, _, _) (weakI rfl ⟨rfl, rfl, rfl, trivial⟩ ⟨rfl, trivial⟩) ⟨0, b, rfl, ?_, Turned.zero b, (GH.set_same gh id _ hg).symm⟩ ?_
 ·change A.wrap .i64 (A.sub n 1) = _
  rw [hA, hn]; exact ii_n1 hb
 rintro ⟨i, j, g⟩ ⟨k, l, hi, hj, hT, hgg⟩
 dsimp only at hi hj hgg
 cbv
 refine condI hA (fun hc => ?_) (fun hc => ?_)
 ·have hk2 : 2 * k + 1 < b.length := by
   rw [hA] at hc
   exact (ii_lt hi hj).1 (of_decide_eq_true hc)
  have hl := hT.1
  have h1 : k < l.length := by omega
  have h2 : b.length - 1 - k < l.length := by omega
  have hi1 := ii_i hi hn hk2
  have hj1 := ii_j hj hn hk2
  have hj2 := ii_j2 hj hk2
  have hg0 : g.get id = some (.row 1 (bytesV l)) := by rw [hgg]; simp
  replace hi := natEq hi
  replace hj2 := natEq hj2
  cbv
  refine chkI hA (by kernel_rfl) ?_
  cbv
  refine gixI hA hj1 ?_
  cbv
  refine gldBI hA l hg0 hj2 h2 ?_
  rintro x hx
  cbv
  refine gixI hA hi1 ?_
  cbv
  refine gldBI hA l hg0 hi h1 ?_
  rintro y hy
  cbv
  refine gixI hA hi1 ?_
  cbv
  refine gstRI hA (bytesV l) hg0 (bytesV_at rfl hi h1).2 rfl ?_
  rintro g1 hg1
  cbv
  refine gixI hA hj1 ?_
  cbv
  have hg1' : g1.get id = some (.row 1 (bytesV (l.set k (l[b.length - 1 - k]'h2)))) := by
   rw [hg1, natEq hx, natEq hi, Int.toNat_natCast, bytesV_set']; simp
  have h3 : b.length - 1 - k < (l.set k (l[b.length - 1 - k]'h2)).length := by simpa using h2
  refine gstRI hA _ hg1' (bytesV_at rfl hj2 h3).2 rfl ?_
  rintro g2 hg2
  refine ⟨(_, _, _), weakI rfl ⟨rfl, rfl, rfl, trivial⟩ ⟨rfl, trivial⟩, ⟨k + 1, _, ?_, ?_, hT.step hk2 h1 h2, ?_⟩, ?_⟩
  ·change A.wrap .i64 (A.add i 1) = _
   rw [hA]; exact i64_up hi (by omega)
  ·change A.wrap .i64 (A.sub j 1) = _
   rw [hA]; exact ii_dn hj (by omega) hb
  ·rw [hg2, hg1, natEq hy, natEq hj2, Int.toNat_natCast, bytesV_set', hgg, GH.set_set, GH.set_set]
  ·change b.length - (A.wrap .i64 (A.add i 1)).toNat < b.length - i.toNat
   rw [hA]; simp only [std]; rw [i64_up (natEq hi) (by omega), natEq hi]; omega
 ·have hk2 : ¬ 2 * k + 1 < b.length := by
   rw [hA] at hc
   exact fun h => (of_decide_eq_false hc) ((ii_lt hi hj).2 h)
  cbv
  refine retGI hA rfl [] _ ⟨rfl, ?_⟩ trivial
  rw [hgg, hT.done (by omega)]
open Go Go.RowKit
def leB (n : Nat) : List UInt8 := if h : n = 0 then [] else UInt8.ofNat (n % 256) :: leB (n / 256)
termination_by n
decreasing_by omega
def numB (n : Nat) : List UInt8 := (leB n).reverse
theorem leB_zero : leB 0 = [] := by unfold leB; rfl
theorem leB_pos {n : Nat} (h : 0 < n) : leB n = UInt8.ofNat (n % 256) :: leB (n / 256) := by rw [leB, dif_neg (by omega)]
theorem leB_len (k : Nat) : ∀ n, n < 256 ^ k → (leB n).length ≤ k := by
 induction k with
 | zero => intro n h; have : n = 0 := by simpa using h
           subst this; rw [leB_zero]; simp
 | succ k ih =>
  intro n h
  rcases Nat.eq_zero_or_pos n with h0 | h0
  ·subst h0; rw [leB_zero]; simp
  ·rw [leB_pos h0]
   have := ih (n / 256) (by rw [Nat.pow_succ] at h; omega)
   simp; omega
theorem numB_len {n : Nat} (h : n < 18446744073709551616) : (numB n).length ≤ 8 := by
 unfold numB; rw [List.length_reverse]; exact leB_len 8 n (by simpa using h)
theorem wrap_u8 (n : Nat) : IntKind.u8.wrap (n : Int) = ((n % 256 : Nat) : Int) := by
 simp only [IntKind.wrap, IntKind.bits, IntKind.signed, Bool.false_and, Bool.false_eq_true, if_false]
 omega
theorem shr_u64_8 (a : Nat) : Int.fdiv (a : Int) (2 ^ (min (Int.toNat 8) IntKind.u64.bits)) = ((a / 256 : Nat) : Int) := by
 have : (2 : Int) ^ (min (Int.toNat 8) IntKind.u64.bits) = ((256 : Nat) : Int) := by decide
 rw [this, Int.fdiv_eq_ediv_of_nonneg _ (by omega)]
 rfl
theorem byteV {x : Int} {n : Nat} (h : x = ((n % 256 : Nat) : Int)) : V.int .u8 x = .int .u8 ((UInt8.ofNat (n % 256)).toNat : Nat) := by
 rw [h]; congr 2; rw [UInt8.toNat_ofNat']; omega
theorem pos_of {x : Int} {k : Nat} (hx : x = (k : Int)) (h : 0 < x) : 0 < k := by omega
theorem zero_of {x : Int} {k : Nat} (hx : x = (k : Int)) (h : ¬ 0 < x) : k = 0 := by omega
theorem cNum (v : Int) (n : Nat) (hv : v = n) (hn : n < 18446744073709551616) : CallR Tryz.prog 92 [.int .u64 v] fun rs => ∃ l, rs = [.v (.slice l)] ∧ l = bytesV (numB n) := by
 obtain ⟨l, hl⟩ : ∃ l, l = bytesV (numB n) := ⟨_, rfl⟩
 refine ⟨[.v (.slice l)], FnR.ofG (fun r hr => by simp at hr; subst hr; rw [hl]; exact noG_bytes _) fun nx => FnG.frz (post0 := fun rs gh' => ∃ (id : Nat) (m : Int), rs = [.v (.gs id m)] ∧ gh'.get id = some (.row 1 l) ∧ m = l.length) ?_ ?_, _, rfl, hl⟩
 ·obtain ⟨g0, hg0⟩ : ∃ g0 : GH, g0 = ⟨nx, fun _ => none⟩ := ⟨_, rfl⟩
  rw [← hg0]
  refine FnG.of' T_ok M_ok [12] (fn := Tryz.f92) (by kernel_rfl) rfl rfl rfl rfl (Nat.le_of_ble_eq_true rfl) fun A hA => ?_
  cbv
  refine loopF hA (ι := Int × Nat × Int × GH) (fun p => { n := 16, sl := [(0, .v (.int .u64 p.1)), (3, .v (.gs p.2.1 p.2.2.1))], ob := [(hk, .heap p.2.2.2 [12])] })
   (fun p => ∃ (k : Nat) (a : List UInt8), p.1 = k ∧ k ≤ n ∧ a ++ leB k = leB n ∧ p.2.2.1 = a.length ∧ p.2.2.2.get p.2.1 = some (.row 1 (bytesV a))) (fun p => p.1.toNat) (v, g0.next, 0, g0.new (.row 1 [])) ((weak_gnil _ 3 1 rfl rfl).trans (weakI rfl ⟨rfl, rfl, trivial⟩ ⟨rfl, trivial⟩)) ⟨n, [], hv, Nat.le_refl _, rfl, rfl, by simp [bytesV]⟩ ?_
  rintro ⟨x, id, m, g⟩ ⟨k, a, hx, hkn, ha, hm, hg⟩
  dsimp only at hx hm hg
  have hal : a.length + (leB k).length ≤ 8 := by
   have := leB_len 8 n (by simpa using hn); rw [← ha] at this; simpa using this
  cbv
  refine condI hA (fun hc => ?_) (fun hc => ?_)
  ·have hk0 : 0 < k := by
    rw [hA] at hc
    have h : (0 : Int) < x := of_decide_eq_true hc
    exact pos_of hx h
   cbv
   have hml : m = ((bytesV a).length : Int) := by rw [bytesV_len]; exact hm
   refine gappI hA (bytesV a) [.int .u8 (A.wrap .u8 x)] hg hml ⟨rfl, by simp [V.flat]⟩ (by rw [bytesV_len]; change (a.length + 1) * 1 ≤ _; omega) ?_
   rintro g1 m1 hg1 hm1
   cbv
   refine nnegI hA (by decide) ?_
   cbv
   have hx8 : A.wrap .u8 x = ((k % 256 : Nat) : Int) := by rw [hA, natEq hx]; exact wrap_u8 k
   refine ⟨(_, _, _, _), weakI rfl ⟨rfl, rfl, trivial⟩ ⟨rfl, trivial⟩, ⟨k / 256, a ++ [UInt8.ofNat (k % 256)], ?_, by omega, ?_, ?_, ?_⟩, ?_⟩
   ·change A.shr .u64 x 8 = _
    rw [hA, natEq hx]; exact shr_u64_8 k
   ·rw [← ha, leB_pos hk0]; simp
   ·exact (natEq hm1).trans (by simp [bytesV])
   ·change g1.get g.next = _
    rw [hg1, byteV hx8]; simp [bytesV]
   ·change (A.shr .u64 x 8).toNat < x.toNat
    rw [hA, natEq hx]; simp only [std]; rw [shr_u64_8]; omega
  ·have hk0 : k = 0 := by
    rw [hA] at hc
    have h : ¬ (0 : Int) < x := of_decide_eq_false hc
    exact zero_of hx h
   subst hk0
   rw [leB_zero, List.append_nil] at ha
   cbv
   refine callGI hA (cReverse id m a g hg (natEq hm) (by omega)) ?_
   intro rs_ g1 h_
   obtain ⟨q_1, hg1⟩ := h_
   subst q_1
   cbv
   refine retGI hA rfl [.v (.gs id m)] g1 ⟨id, m, rfl, ?_, ?_⟩ ⟨rfl, trivial⟩
   ·rw [hg1, hl, ha]; simp [numB]
   ·rw [hl, bytesV_len]; unfold numB; rw [List.length_reverse, ← ha]; exact natEq hm
 ·rintro rs gh' ⟨id, m, rfl, h1, h2⟩
  exact ⟨0, id, 1, m, l, rfl, h1, by omega, by rw [h2, Int.toNat_natCast, List.take_length]; rfl⟩
open Go Go.RowKit
section
variable {A : Prim} {P : Program} {R : List (Nat × AObj) → List D → Prop} (hA : A = std P R)
include hA
theorem ltL {i : Int} {j n : Nat} {l : List V} (hi : i = (j : Int)) (hl : l.length = n) (h : A.ilt i (A.lenL l) = true) : j < n := by
 subst hA; have := of_decide_eq_true h; simp only [std] at this; omega
theorem geL {i : Int} {j n : Nat} {l : List V} (hi : i = (j : Int)) (hl : l.length = n) (h : A.ilt i (A.lenL l) = false) (hj : j ≤ n) : j = n := by
 subst hA; have := of_decide_eq_false h; simp only [std] at this; omega
theorem upI {i : Int} {j : Nat} (hi : i = (j : Int)) (hj : j ≤ 140737488355328) : A.wrap .i64 (A.add i 1) = ((j + 1 : Nat) : Int) := by subst hA; exact i64_up hi hj
theorem upM {i : Int} {j n : Nat} (hi : i = (j : Int)) (hj : j < n) (hn : n ≤ 140737488355328) : n - (A.wrap .i64 (A.add i 1)).toNat < n - i.toNat := by
 rw [upI hA hi (by omega), hi]; omega
end
theorem lenB {l : List V} {b : List UInt8} (h : l = bytesV b) : l.length = b.length := by rw [h, bytesV_len]
theorem lenS' {l : List V} {b : List (List UInt8)} (h : l = strsV b) : l.length = b.length := by rw [h, strsV_len]
theorem lenLs {l : List V} {b : List (List UInt8)} (h : l = listsV b) : l.length = b.length := by rw [h, listsV_len]
theorem eq_of_take {α : Type} {a b : List α} (hl : a.length = b.length) (h : a.take a.length = b.take a.length) : a = b := by
 rwa [List.take_length, hl, List.take_length] at h
theorem take_step {α : Type} {a b : List α} {j : Nat} (ha : j < a.length) (hb : j < b.length) (h : a.take j = b.take j) (he : a[j] = b[j]) : a.take (j + 1) = b.take (j + 1) := by
 rw [List.take_succ_eq_append_getElem ha, List.take_succ_eq_append_getElem hb, h, he]
theorem cEqualB (a b : List UInt8) (la lb : List V) (ha : la = bytesV a) (hb : lb = bytesV b) (hal : a.length ≤ 140737488355328) : CallR Tryz.prog 85 [.slice la, .slice lb] fun rs => ∃ c, rs = [.v (.bool c)] ∧ c = (a == b) := by
 obtain ⟨c, hcv⟩ : ∃ c, c = (a == b) := ⟨_, rfl⟩
 refine .of _ ⟨c, rfl, hcv⟩ ?_
 refine FnR.of' T_ok M_ok (fn := Tryz.f85) (by kernel_rfl) rfl rfl rfl rfl (Nat.le_of_ble_eq_true rfl) fun A hA => ?_
 cbv
 refine condI hA (fun h1 => ?_) (fun h1 => ?_)
 ·cbv
  refine retI hA ?_
  have : ¬ a = b := fun e => by
   rw [hA] at h1
   subst e; subst ha; subst hb
   exact absurd h1 (by simp [std])
  simp only [retOk, rsOk, retIds, idsD, idsDs, softOb, toV, Option.some.injEq, V.bool.injEq, and_true]
  exact (hcv.trans (beq_eq_false_iff_ne.2 this)).symm
 ·have hlen : a.length = b.length := by
   have h : (A.ine (A.lenL la) (A.lenL lb)) = false := h1
   rw [hA, ha, hb] at h; simp only [std, bytesV_len, bne_eq_false_iff_eq] at h
   exact_mod_cast h
  cbv
  refine loopF hA (ι := Int) (fun i => { n := 26, sl := [(0, .v (.slice la)), (1, .v (.slice lb)), (12, .v (.int .i64 (A.lenL la))), (13, .v (.int .i64 i))], ob := [] })
   (fun i => ∃ j : Nat, i = j ∧ j ≤ a.length ∧ a.take j = b.take j) (fun i => a.length - i.toNat) 0 (weakI rfl ⟨rfl, rfl, rfl, rfl, trivial⟩ trivial) ⟨0, rfl, Nat.zero_le _, by simp⟩ ?_
  rintro i ⟨j, hi, hj, ht⟩
  cbv
  refine condI hA (fun hc => ?_) (fun hc => ?_)
  ·have hja := ltL hA (natEq hi) (lenB ha) hc
   have hjb : j < b.length := hlen ▸ hja
   cbv
   refine chkI hA (by kernel_rfl) ?_
   cbv
   refine getBN hA ha (natEq hi) hja ?_
   rintro x hx
   cbv
   refine getBN hA hb (natEq hi) hjb ?_
   rintro y hy
   cbv
   refine condI hA (fun h2 => ?_) (fun h2 => ?_)
   ·cbv
    refine retI hA ?_
    have : ¬ a = b := fun e => by
     subst e
     rw [hA, natEq hx, natEq hy] at h2
     exact absurd h2 (by simp [std])
    simp only [retOk, rsOk, retIds, idsD, idsDs, softOb, toV, Option.some.injEq, V.bool.injEq, and_true]
    exact (hcv.trans (beq_eq_false_iff_ne.2 this)).symm
   ·have he : a[j]'hja = b[j]'hjb := by
     rw [hA, natEq hx, natEq hy] at h2
     have : (((a[j]'hja).toNat : Nat) : Int) = ((b[j]'hjb).toNat : Nat) := by simpa [std] using h2
     exact UInt8.toNat_inj.1 (by exact_mod_cast this)
    refine ⟨_, weakI rfl ⟨rfl, rfl, rfl, rfl, trivial⟩ trivial, ⟨j + 1, upI hA (natEq hi) (by omega), hja, take_step hja hjb ht he⟩, upM hA (natEq hi) hja hal⟩
  ·have hja := geL hA (natEq hi) (lenB ha) hc hj
   cbv
   refine retI hA ?_
   have : a = b := by rw [hja] at ht; exact eq_of_take hlen ht
   simp only [retOk, rsOk, retIds, idsD, idsDs, softOb, toV, Option.some.injEq, V.bool.injEq, and_true]
   exact (hcv.trans (beq_iff_eq.2 this)).symm
theorem cEqualS (a b : List (List UInt8)) (la lb : List V) (ha : la = strsV a) (hb : lb = strsV b) (hal : a.length ≤ 140737488355328) : CallR Tryz.prog 136 [.slice la, .slice lb] fun rs => ∃ c, rs = [.v (.bool c)] ∧ c = (a == b) := by
 obtain ⟨c, hcv⟩ : ∃ c, c = (a == b) := ⟨_, rfl⟩
 refine .of _ ⟨c, rfl, hcv⟩ ?_
 refine FnR.of' T_ok M_ok (fn := Tryz.f136) (by kernel_rfl) rfl rfl rfl rfl (Nat.le_of_ble_eq_true rfl) fun A hA => ?_
 cbv
 refine condI hA (fun h1 => ?_) (fun h1 => ?_)
 ·cbv
  refine retI hA ?_
  have : ¬ a = b := fun e => by
   rw [hA] at h1
   subst e; subst ha; subst hb
   exact absurd h1 (by simp [std])
  simp only [retOk, rsOk, retIds, idsD, idsDs, softOb, toV, Option.some.injEq, V.bool.injEq, and_true]
  exact (hcv.trans (beq_eq_false_iff_ne.2 this)).symm
 ·have hlen : a.length = b.length := by
   have h : (A.ine (A.lenL la) (A.lenL lb)) = false := h1
   rw [hA, ha, hb] at h; simp only [std, strsV_len, bne_eq_false_iff_eq] at h
   exact_mod_cast h
  cbv
  refine loopF hA (ι := Int) (fun i => { n := 26, sl := [(0, .v (.slice la)), (1, .v (.slice lb)), (12, .v (.int .i64 (A.lenL la))), (13, .v (.int .i64 i))], ob := [] })
   (fun i => ∃ j : Nat, i = j ∧ j ≤ a.length ∧ a.take j = b.take j) (fun i => a.length - i.toNat) 0 (weakI rfl ⟨rfl, rfl, rfl, rfl, trivial⟩ trivial) ⟨0, rfl, Nat.zero_le _, by simp⟩ ?_
  rintro i ⟨j, hi, hj, ht⟩
  cbv
  refine condI hA (fun hc => ?_) (fun hc => ?_)
  ·have hja := ltL hA (natEq hi) (lenS' ha) hc
   have hjb : j < b.length := hlen ▸ hja
   cbv
   refine chkI hA (by kernel_rfl) ?_
   cbv
   refine getSN hA ha (natEq hi) hja ?_
   rintro x hx
   cbv
   refine getSN hA hb (natEq hi) hjb ?_
   rintro y hy
   cbv
   refine condI hA (fun h2 => ?_) (fun h2 => ?_)
   ·cbv
    refine retI hA ?_
    have : ¬ a = b := fun e => by
     subst e
     rw [hA, hx, hy] at h2
     exact absurd h2 (by simp [std])
    simp only [retOk, rsOk, retIds, idsD, idsDs, softOb, toV, Option.some.injEq, V.bool.injEq, and_true]
    exact (hcv.trans (beq_eq_false_iff_ne.2 this)).symm
   ·have he : a[j]'hja = b[j]'hjb := by
     rw [hA, hx, hy] at h2
     simpa [std] using h2
    refine ⟨_, weakI rfl ⟨rfl, rfl, rfl, rfl, trivial⟩ trivial, ⟨j + 1, upI hA (natEq hi) (by omega), hja, take_step hja hjb ht he⟩, upM hA (natEq hi) hja hal⟩
  ·have hja := geL hA (natEq hi) (lenS' ha) hc hj
   cbv
   refine retI hA ?_
   have : a = b := by rw [hja] at ht; exact eq_of_take hlen ht
   simp only [retOk, rsOk, retIds, idsD, idsDs, softOb, toV, Option.some.injEq, V.bool.injEq, and_true]
   exact (hcv.trans (beq_iff_eq.2 this)).symm
theorem cSame11 (a b : List (List UInt8)) (la lb : List V) (ha : la = strsV a) (hb : lb = strsV b) (hal : a.length ≤ 140737488355328) : CallR Tryz.prog 59 [.slice la, .slice lb] fun rs => ∃ c, rs = [.v (.bool c)] ∧ c = (a == b) := by
 obtain ⟨c, hcv⟩ : ∃ c, c = (a == b) := ⟨_, rfl⟩
 refine .of _ ⟨c, rfl, hcv⟩ ?_
 refine FnR.of' T_ok M_ok (fn := Tryz.f59) (by kernel_rfl) rfl rfl rfl rfl (Nat.le_of_ble_eq_true rfl) fun A hA => ?_
 cbv
 refine condI hA (fun h1 => ?_) (fun h1 => ?_)
 ·cbv
  refine retI hA ?_
  have : ¬ a = b := fun e => by
   rw [hA] at h1
   subst e; subst ha; subst hb
   exact absurd h1 (by simp [std])
  simp only [retOk, rsOk, retIds, idsD, idsDs, softOb, toV, Option.some.injEq, V.bool.injEq, and_true]
  exact (hcv.trans (beq_eq_false_iff_ne.2 this)).symm
 ·have hlen : a.length = b.length := by
   have h : (A.ine (A.lenL la) (A.lenL lb)) = false := h1
   rw [hA, ha, hb] at h; simp only [std, strsV_len, bne_eq_false_iff_eq] at h
   exact_mod_cast h
  cbv
  refine loopF hA (ι := Int) (fun i => { n := 26, sl := [(0, .v (.slice la)), (1, .v (.slice lb)), (5, .v (.int .i64 i))], ob := [] })
   (fun i => ∃ j : Nat, i = j ∧ j ≤ a.length ∧ a.take j = b.take j) (fun i => a.length - i.toNat) 0 (weakI rfl ⟨rfl, rfl, rfl, trivial⟩ trivial) ⟨0, rfl, Nat.zero_le _, by simp⟩ ?_
  rintro i ⟨j, hi, hj, ht⟩
  cbv
  refine condI hA (fun hc => ?_) (fun hc => ?_)
  ·have hja := ltL hA (natEq hi) (lenS' ha) hc
   have hjb : j < b.length := hlen ▸ hja
   cbv
   refine chkI hA (by kernel_rfl) ?_
   cbv
   refine getSN hA ha (natEq hi) hja ?_
   rintro x hx
   cbv
   refine getSN hA hb (natEq hi) hjb ?_
   rintro y hy
   cbv
   refine condI hA (fun h2 => ?_) (fun h2 => ?_)
   ·cbv
    refine retI hA ?_
    have : ¬ a = b := fun e => by
     subst e
     rw [hA, hx, hy] at h2
     exact absurd h2 (by simp [std])
    simp only [retOk, rsOk, retIds, idsD, idsDs, softOb, toV, Option.some.injEq, V.bool.injEq, and_true]
    exact (hcv.trans (beq_eq_false_iff_ne.2 this)).symm
   ·have he : a[j]'hja = b[j]'hjb := by
     rw [hA, hx, hy] at h2
     simpa [std] using h2
    refine ⟨_, weakI rfl ⟨rfl, rfl, rfl, trivial⟩ trivial, ⟨j + 1, upI hA (natEq hi) (by omega), hja, take_step hja hjb ht he⟩, upM hA (natEq hi) hja hal⟩
  ·have hja := geL hA (natEq hi) (lenS' ha) hc hj
   cbv
   refine retI hA ?_
   have : a = b := by rw [hja] at ht; exact eq_of_take hlen ht
   simp only [retOk, rsOk, retIds, idsD, idsDs, softOb, toV, Option.some.injEq, V.bool.injEq, and_true]
   exact (hcv.trans (beq_iff_eq.2 this)).symm
open Go Go.RowKit
theorem run_part1 {t : Nat} (hk : isAggT (tyOf t).k = false) (hkn : known (tyOf t).k = true) (cs : Array Value) (off : Nat) (v : Value) (w : World) (h : cs[off]? = some v) : (part t cs off).run Tryz.prog w = .ok v w := by
 simp [part, ty_isAgg T_ok (known_ne' hkn), hk, h]
theorem eqMark (a1 a2 a3 a4 b1 b2 b3 b4 : Int) : EqOk Tryz.prog 42 [.int .i64 a1, .int .i64 a2, .int .u32 a3, .int .u32 a4] [.int .i64 b1, .int .i64 b2, .int .u32 b3, .int .u32 b4] (a1 == b1 && (a2 == b2 && (a3 == b3 && a4 == b4))) := by
 intro ok w u v hu hv
 obtain ⟨cs, rfl, h1, _, h2⟩ := rep_agg hu
 obtain ⟨ds, rfl, k1, _, k2⟩ := rep_agg hv
 match cs, h1, h2 with
 | [c1, c2, c3, c4], _, h2 =>
  match ds, k1, k2 with
  | [d1, d2, d3, d4], _, k2 =>
   have e1 := rep_int (h2 0 (by simp) (by simp))
   have e2 := rep_int (h2 1 (by simp) (by simp))
   have e3 := rep_int (h2 2 (by simp) (by simp))
   have e4 := rep_int (h2 3 (by simp) (by simp))
   have f1 := rep_int (k2 0 (by simp) (by simp))
   have f2 := rep_int (k2 1 (by simp) (by simp))
   have f3 := rep_int (k2 2 (by simp) (by simp))
   have f4 := rep_int (k2 3 (by simp) (by simp))
   simp only [List.getElem_cons_zero, List.getElem_cons_succ] at e1 e2 e3 e4 f1 f2 f3 f4
   subst e1 e2 e3 e4 f1 f2 f3 f4
   refine ⟨fun op x y => ?_, ?_⟩
   ·have st : Tryz.prog.eqGuardType Tryz.prog.depth 42 = false := by kernel_rfl
    unfold eqGuard
    cases op <;> simp [program, Sem.run, st]
   ·have h : ∀ d, (Op.equalIn (d + 2) 42 (.agg #[.int .i64 a1, .int .i64 a2, .int .u32 a3, .int .u32 a4]) (.agg #[.int .i64 b1, .int .i64 b2, .int .u32 b3, .int .u32 b4])).run Tryz.prog w = .ok (a1 == b1 && (a2 == b2 && (a3 == b3 && a4 == b4))) w := fun d => by
     have p := fun t hk hkn cs off v h => run_part1 (t := t) hk hkn cs off v w h
     have st : Tryz.prog.stoodInHeld 42 = false := by kernel_rfl
     simp [Op.equalIn, run_underlying Tryz.underlying42, st, run_underlying Tryz.underlying3, run_underlying Tryz.underlying40, p 3 rfl rfl, p 40 rfl rfl]
     by_cases q1 : a1 = b1 <;> by_cases q2 : a2 = b2 <;> by_cases q3 : a3 = b3 <;> by_cases q4 : a4 = b4 <;> simp [q1, q2, q3, q4]
    exact h 9998
open Go Go.RowKit
structure RecM where
 k : Int
 path : List (List UInt8)
 sz : Int
 sm : Int
 mi : Int
 mo : Int
 si : Int
 so : Int
deriving DecidableEq
def sameM (a b : RecM) : Bool := a.k == b.k && (a.path == b.path && (a.sz == b.sz && (a.sm == b.sm && (a.mi == b.mi && (a.mo == b.mo && (a.si == b.si && a.so == b.so))))))
theorem sameM_iff (a b : RecM) : sameM a b = true ↔ a = b := by
 cases a; cases b; simp [sameM]
def recCells (k : Int) (l : List V) (sz sm mi mo si so : Int) : List V := [.int .u8 k, .slice l, .int .i64 sz, .int .u32 sm, .int .i64 mi, .int .i64 mo, .int .u32 si, .int .u32 so]
section
variable {A : Prim} {P : Program} {R : List (Nat × AObj) → List D → Prop} (hA : A = std P R)
include hA
theorem eqT {a b : Int} (h : A.ieq a b = true) : a = b := by subst hA; simpa [std] using h
theorem eqF {a b : Int} (h : A.ieq a b = false) : ¬ a = b := by subst hA; simpa [std] using h
end
theorem cSame12 (a b : RecM) (la lb : List V) (ha : la = strsV a.path) (hb : lb = strsV b.path) (hal : a.path.length ≤ 140737488355328) : CallR Tryz.prog 19 [.agg [.int .u8 a.k, .slice la, .int .i64 a.sz, .int .u32 a.sm, .int .i64 a.mi, .int .i64 a.mo, .int .u32 a.si, .int .u32 a.so], .agg [.int .u8 b.k, .slice lb, .int .i64 b.sz, .int .u32 b.sm, .int .i64 b.mi, .int .i64 b.mo, .int .u32 b.si, .int .u32 b.so]] fun rs => ∃ c, rs = [.v (.bool c)] ∧ c = sameM a b := by
 obtain ⟨c, hcv⟩ : ∃ c, c = sameM a b := ⟨_, rfl⟩
 refine .of _ ⟨c, rfl, hcv⟩ ?_
 obtain ⟨k, p, sz, sm, mi, mo, si, so⟩ := a
 obtain ⟨k', p', sz', sm', mi', mo', si', so'⟩ := b
 dsimp only at *
 refine FnR.of' T_ok M_ok (fn := Tryz.f19) (by kernel_rfl) rfl rfl rfl rfl (Nat.le_of_ble_eq_true rfl) fun A hA => ?_
 cbv
 refine condI hA (fun h1 => ?_) (fun h1 => ?_)
 ·replace h1 := eqT hA h1
  cbv
  refine callI hA (cSame11 p p' la lb ha hb hal) ?_
  intro rs_ h_
  obtain ⟨c2, q_1, hc2⟩ := h_
  subst q_1
  cbv
  refine condI hA (fun h2 => ?_) (fun h2 => ?_)
  ·rw [h2] at hc2
   replace hc2 := beq_iff_eq.1 hc2.symm
   cbv
   refine condI hA (fun h3 => ?_) (fun h3 => ?_)
   ·replace h3 := eqT hA h3
    cbv
    refine condI hA (fun h4 => ?_) (fun h4 => ?_)
    ·replace h4 := eqT hA h4
     cbv
     refine eqAI hA _ (eqMark mi mo si so mi' mo' si' so') ?_
     obtain ⟨c3, hc3⟩ : ∃ c3, c3 = (mi == mi' && (mo == mo' && (si == si' && so == so'))) := ⟨_, rfl⟩
     rw [← hc3]
     cbv
     refine retI hA ?_
     simp only [retOk, rsOk, retIds, idsD, idsDs, softOb, toV, Option.some.injEq, V.bool.injEq, and_true]
     rw [hcv, hc3]
     simp [sameM, h1, hc2, h3, h4]
    ·replace h4 := eqF hA h4
     cbv
     refine retI hA ?_
     simp only [retOk, rsOk, retIds, idsD, idsDs, softOb, toV, Option.some.injEq, V.bool.injEq, and_true]
     rw [hcv]; simp [sameM, h4]
   ·replace h3 := eqF hA h3
    cbv
    refine retI hA ?_
    simp only [retOk, rsOk, retIds, idsD, idsDs, softOb, toV, Option.some.injEq, V.bool.injEq, and_true]
    rw [hcv]; simp [sameM, h3]
  ·rw [h2] at hc2
   replace hc2 := beq_eq_false_iff_ne.1 hc2.symm
   cbv
   refine retI hA ?_
   simp only [retOk, rsOk, retIds, idsD, idsDs, softOb, toV, Option.some.injEq, V.bool.injEq, and_true]
   rw [hcv]; simp [sameM, hc2]
 ·replace h1 := eqF hA h1
  cbv
  refine retI hA ?_
  simp only [retOk, rsOk, retIds, idsD, idsDs, softOb, toV, Option.some.injEq, V.bool.injEq, and_true]
  rw [hcv]; simp [sameM, h1]
open Go Go.RowKit
theorem cSameR (a b : RecM) (la lb : List V) (ha : la = strsV a.path) (hb : lb = strsV b.path) (hal : a.path.length ≤ 140737488355328) : CallR Tryz.prog 121 [.agg [.int .u8 a.k, .slice la, .int .i64 a.sz, .int .u32 a.sm, .int .i64 a.mi, .int .i64 a.mo, .int .u32 a.si, .int .u32 a.so], .agg [.int .u8 b.k, .slice lb, .int .i64 b.sz, .int .u32 b.sm, .int .i64 b.mi, .int .i64 b.mo, .int .u32 b.si, .int .u32 b.so]] fun rs => ∃ c, rs = [.v (.bool c)] ∧ c = sameM a b := by
 obtain ⟨c, hcv⟩ : ∃ c, c = sameM a b := ⟨_, rfl⟩
 refine .of _ ⟨c, rfl, hcv⟩ ?_
 obtain ⟨k, p, sz, sm, mi, mo, si, so⟩ := a
 obtain ⟨k', p', sz', sm', mi', mo', si', so'⟩ := b
 dsimp only at *
 refine FnR.of' T_ok M_ok (fn := Tryz.f121) (by kernel_rfl) rfl rfl rfl rfl (Nat.le_of_ble_eq_true rfl) fun A hA => ?_
 cbv
 refine condI hA (fun h1 => ?_) (fun h1 => ?_)
 ·replace h1 := eqT hA h1
  cbv
  refine callI hA (cEqualS p p' la lb ha hb hal) ?_
  intro rs_ h_
  obtain ⟨c2, q_1, hc2⟩ := h_
  subst q_1
  cbv
  refine condI hA (fun h2 => ?_) (fun h2 => ?_)
  ·rw [h2] at hc2
   replace hc2 := beq_iff_eq.1 hc2.symm
   cbv
   refine condI hA (fun h3 => ?_) (fun h3 => ?_)
   ·replace h3 := eqT hA h3
    cbv
    refine condI hA (fun h4 => ?_) (fun h4 => ?_)
    ·replace h4 := eqT hA h4
     cbv
     refine eqAI hA _ (eqMark mi mo si so mi' mo' si' so') ?_
     obtain ⟨c3, hc3⟩ : ∃ c3, c3 = (mi == mi' && (mo == mo' && (si == si' && so == so'))) := ⟨_, rfl⟩
     rw [← hc3]
     cbv
     refine retI hA ?_
     simp only [retOk, rsOk, retIds, idsD, idsDs, softOb, toV, Option.some.injEq, V.bool.injEq, and_true]
     rw [hcv, hc3]
     simp [sameM, h1, hc2, h3, h4]
    ·replace h4 := eqF hA h4
     cbv
     refine retI hA ?_
     simp only [retOk, rsOk, retIds, idsD, idsDs, softOb, toV, Option.some.injEq, V.bool.injEq, and_true]
     rw [hcv]; simp [sameM, h4]
   ·replace h3 := eqF hA h3
    cbv
    refine retI hA ?_
    simp only [retOk, rsOk, retIds, idsD, idsDs, softOb, toV, Option.some.injEq, V.bool.injEq, and_true]
    rw [hcv]; simp [sameM, h3]
  ·rw [h2] at hc2
   replace hc2 := beq_eq_false_iff_ne.1 hc2.symm
   cbv
   refine retI hA ?_
   simp only [retOk, rsOk, retIds, idsD, idsDs, softOb, toV, Option.some.injEq, V.bool.injEq, and_true]
   rw [hcv]; simp [sameM, hc2]
 ·replace h1 := eqF hA h1
  cbv
  refine retI hA ?_
  simp only [retOk, rsOk, retIds, idsD, idsDs, softOb, toV, Option.some.injEq, V.bool.injEq, and_true]
  rw [hcv]; simp [sameM, h1]
def fourB (n : Nat) : List UInt8 := [UInt8.ofNat (n / 16777216 % 256), UInt8.ofNat (n / 65536 % 256), UInt8.ofNat (n / 256 % 256), UInt8.ofNat (n % 256)]
theorem shr_u32_k (a k : Nat) (hk : k ≤ 32) : Int.fdiv (a : Int) (2 ^ (min (Int.toNat (k : Int)) IntKind.u32.bits)) = ((a / 2 ^ k : Nat) : Int) := by
 have h : min (Int.toNat (k : Int)) IntKind.u32.bits = k := by
  have : IntKind.u32.bits = 32 := rfl
  rw [this, Int.toNat_natCast]; omega
 rw [h, Int.fdiv_eq_ediv_of_nonneg _ (Int.pow_nonneg (by omega))]
 rw [show ((2 : Int) ^ k) = ((2 ^ k : Nat) : Int) from by simp]
 rfl
theorem keyFour {v : Int} {n : Nat} {l : List V} (hv : v = n) (hl : l = bytesV (fourB n)) {A : Prim} {R : List (Nat × AObj) → List D → Prop} (hA : A = std Tryz.prog R) : [V.int .u8 (A.wrap .u8 (A.shr .u32 v 24)), .int .u8 (A.wrap .u8 (A.shr .u32 v 16)), .int .u8 (A.wrap .u8 (A.shr .u32 v 8)), .int .u8 (A.wrap .u8 v)] = l := by
 rw [hA, hl, hv]
 simp only [std]
 rw [show (24 : Int) = ((24 : Nat) : Int) from rfl, show (16 : Int) = ((16 : Nat) : Int) from rfl, show (8 : Int) = ((8 : Nat) : Int) from rfl, shr_u32_k n 24 (by omega), shr_u32_k n 16 (by omega), shr_u32_k n 8 (by omega), wrap_u8, wrap_u8, wrap_u8, wrap_u8]
 rw [byteV (x := _) (n := n / 2 ^ 24) rfl, byteV (x := _) (n := n / 2 ^ 16) rfl, byteV (x := _) (n := n / 2 ^ 8) rfl, byteV (x := _) (n := n) rfl]
 rfl
theorem cFour (v : Int) (n : Nat) (hv : v = n) : CallR Tryz.prog 97 [.int .u32 v] fun rs => ∃ l, rs = [.o 1 l] ∧ l = bytesV (fourB n) := by
 obtain ⟨l, hl⟩ : ∃ l, l = bytesV (fourB n) := ⟨_, rfl⟩
 refine .of [.o 1 l] ⟨l, rfl, hl⟩ ?_
 refine FnR.of' T_ok M_ok (fn := Tryz.f97) (by kernel_rfl) rfl rfl rfl rfl (Nat.le_of_ble_eq_true rfl) fun A hA => ?_
 cbv
 refine nnegI hA (by decide) ?_
 cbv
 refine nnegI hA (by decide) ?_
 cbv
 refine nnegI hA (by decide) ?_
 cbv
 refine retI hA ?_
 exact ⟨rfl, congrArg (fun q => some (AObj.row 1 q true)) (keyFour hv hl hA), trivial⟩
theorem cFour12 (v : Int) (n : Nat) (hv : v = n) : CallR Tryz.prog 113 [.int .u32 v] fun rs => ∃ l, rs = [.o 1 l] ∧ l = bytesV (fourB n) := by
 obtain ⟨l, hl⟩ : ∃ l, l = bytesV (fourB n) := ⟨_, rfl⟩
 refine .of [.o 1 l] ⟨l, rfl, hl⟩ ?_
 refine FnR.of' T_ok M_ok (fn := Tryz.f113) (by kernel_rfl) rfl rfl rfl rfl (Nat.le_of_ble_eq_true rfl) fun A hA => ?_
 cbv
 refine nnegI hA (by decide) ?_
 cbv
 refine nnegI hA (by decide) ?_
 cbv
 refine nnegI hA (by decide) ?_
 cbv
 refine retI hA ?_
 exact ⟨rfl, congrArg (fun q => some (AObj.row 1 q true)) (keyFour hv hl hA), trivial⟩
open Go Go.RowKit
def inM (n a b : Int) : Bool := decide (a ≤ n) && decide (n ≤ b)
theorem cIn (n a b : Int) : CallR Tryz.prog 118 [.int .i64 n, .int .i64 a, .int .i64 b] fun rs => ∃ c, rs = [.v (.bool c)] ∧ c = inM n a b := by
 obtain ⟨c, hcv⟩ : ∃ c, c = inM n a b := ⟨_, rfl⟩
 refine .of _ ⟨c, rfl, hcv⟩ ?_
 refine FnR.of' T_ok M_ok (fn := Tryz.f118) (by kernel_rfl) rfl rfl rfl rfl (Nat.le_of_ble_eq_true rfl) fun A hA => ?_
 cbv
 refine condI hA (fun h1 => ?_) (fun h1 => ?_)
 ·cbv
  refine retI hA ?_
  simp only [retOk, rsOk, retIds, idsD, idsDs, softOb, toV, Option.some.injEq, V.bool.injEq, and_true]
  rw [hcv, hA] at *
  have h1 : decide (a ≤ n) = true := h1
  simp only [std, inM, h1, Bool.true_and]
 ·cbv
  refine retI hA ?_
  simp only [retOk, rsOk, retIds, idsD, idsDs, softOb, toV, Option.some.injEq, V.bool.injEq, and_true]
  rw [hcv, hA] at *
  have h1 : decide (a ≤ n) = false := h1
  simp only [inM, h1, Bool.false_and]
def badM (s : List UInt8) : Bool := !(inM s.length 1 48)
theorem cBad (s : List UInt8) : CallR Tryz.prog 119 [.str s, .ref [.clo 118 []]] fun rs => ∃ c, rs = [.v (.bool c)] ∧ c = badM s := by
 obtain ⟨c, hcv⟩ : ∃ c, c = badM s := ⟨_, rfl⟩
 refine .of _ ⟨c, rfl, hcv⟩ ?_
 refine FnR.of' T_ok M_ok (fn := Tryz.f119) (by kernel_rfl) rfl rfl rfl rfl (Nat.le_of_ble_eq_true rfl) fun A hA => ?_
 cbv
 refine callI hA (cIn (A.lenS s) 1 48) ?_
 intro rs_ h_
 obtain ⟨d, q_1, hd⟩ := h_
 subst q_1
 cbv
 refine retI hA ?_
 simp only [retOk, rsOk, retIds, idsD, idsDs, softOb, toV, Option.some.injEq, V.bool.injEq, and_true]
 rw [hcv, hA, hd, hA]; rfl
def idxM {α : Type} (p : α → Bool) (l : List α) : Int := match l.findIdx? p with
 | some i => i
 | none => -1
theorem idxM_some {α : Type} {p : α → Bool} {l : List α} {j : Nat} (hj : j < l.length) (h : p l[j] = true) (hb : ∀ m (hm : m < l.length), m < j → p l[m] = false) : idxM p l = j := by
 have : l.findIdx? p = some j := by
  rw [List.findIdx?_eq_some_iff_getElem]
  exact ⟨hj, h, fun m hm => by simp [hb m (by omega) hm]⟩
 simp [idxM, this]
theorem idxM_none {α : Type} {p : α → Bool} {l : List α} (hb : ∀ m (hm : m < l.length), p l[m] = false) : idxM p l = -1 := by
 have : l.findIdx? p = none := by
  rw [List.findIdx?_eq_none_iff]
  intro x hx
  obtain ⟨i, hi, rfl⟩ := List.getElem_of_mem hx
  exact hb i hi
 simp [idxM, this]
theorem idxM_any {α : Type} (p : α → Bool) (l : List α) : decide (0 ≤ idxM p l) = l.any p := by
 unfold idxM
 cases h : l.findIdx? p with
 | none =>
  rw [List.findIdx?_eq_none_iff] at h
  have : l.any p = false := by rw [List.any_eq_false]; intro x hx; simp [h x hx]
  rw [this]; rfl
 | some i =>
  rw [List.findIdx?_eq_some_iff_getElem] at h
  obtain ⟨h1, h2, _⟩ := h
  have : l.any p = true := List.any_eq_true.2 ⟨_, List.getElem_mem h1, h2⟩
  rw [this]; simp
theorem cIdxS (ss : List (List UInt8)) (l : List V) (hl : l = strsV ss) (hs : ss.length ≤ 140737488355328) : CallR Tryz.prog 135 [.slice l, .clo 119 [.ref [.clo 118 []]]] fun rs => ∃ r : Int, rs = [.v (.int .i64 r)] ∧ r = idxM badM ss := by
 obtain ⟨r, hr⟩ : ∃ r, r = idxM badM ss := ⟨_, rfl⟩
 refine .of _ ⟨r, rfl, hr⟩ ?_
 refine FnR.of' T_ok M_ok (fn := Tryz.f135) (by kernel_rfl) rfl rfl rfl rfl (Nat.le_of_ble_eq_true rfl) fun A hA => ?_
 cbv
 refine loopF hA (ι := Int) (fun i => { n := 19, sl := [(0, .v (.slice l)), (1, .v (.clo 119 [.ref [.clo 118 []]])), (7, .v (.int .i64 (A.lenL l))), (8, .v (.int .i64 i))], ob := [] })
  (fun i => ∃ j : Nat, i = j ∧ j ≤ ss.length ∧ ∀ m (hm : m < ss.length), m < j → badM ss[m] = false) (fun i => ss.length - i.toNat) 0 (weakI rfl ⟨rfl, rfl, rfl, rfl, trivial⟩ trivial) ⟨0, rfl, Nat.zero_le _, fun _ _ h => by omega⟩ ?_
 rintro i ⟨j, hi, hj, hb⟩
 cbv
 refine condI hA (fun hc => ?_) (fun hc => ?_)
 ·have hjl := ltL hA (natEq hi) (lenS' hl) hc
  cbv
  refine getSN hA hl (natEq hi) hjl ?_
  rintro x hx
  cbv
  refine callI hA (cBad x) ?_
  intro rs_ h_
  obtain ⟨c, q_1, hcv⟩ := h_
  subst q_1
  cbv
  rw [hx] at hcv
  refine condI hA (fun h2 => ?_) (fun h2 => ?_)
  ·cbv
   refine retI hA ?_
   simp only [retOk, rsOk, retIds, idsD, idsDs, softOb, toV, Option.some.injEq, V.int.injEq, true_and, and_true]
   rw [hr, natEq hi]
   exact (idxM_some hjl (hcv.symm.trans h2) hb).symm
  ·refine ⟨_, weakI rfl ⟨rfl, rfl, rfl, rfl, trivial⟩ trivial, ⟨j + 1, upI hA (natEq hi) (by omega), hjl, fun m hm hmj => ?_⟩, upM hA (natEq hi) hjl hs⟩
   by_cases e : m = j
   ·subst e; exact hcv.symm.trans h2
   ·exact hb m hm (by omega)
 ·have hjl := geL hA (natEq hi) (lenS' hl) hc hj
  cbv
  refine retI hA ?_
  simp only [retOk, rsOk, retIds, idsD, idsDs, softOb, toV, Option.some.injEq, V.int.injEq, true_and, and_true]
  rw [hr]
  exact (idxM_none fun m hm => hb m hm (by omega)).symm
theorem cContS (ss : List (List UInt8)) (l : List V) (hl : l = strsV ss) (hs : ss.length ≤ 140737488355328) : CallR Tryz.prog 120 [.slice l, .clo 119 [.ref [.clo 118 []]]] fun rs => ∃ c, rs = [.v (.bool c)] ∧ c = ss.any badM := by
 obtain ⟨c, hcv⟩ : ∃ c, c = ss.any badM := ⟨_, rfl⟩
 refine .of _ ⟨c, rfl, hcv⟩ ?_
 refine FnR.of' T_ok M_ok (fn := Tryz.f120) (by kernel_rfl) rfl rfl rfl rfl (Nat.le_of_ble_eq_true rfl) fun A hA => ?_
 cbv
 refine callI hA (cIdxS ss l hl hs) ?_
 intro rs_ h_
 obtain ⟨r, q_1, hr⟩ := h_
 subst q_1
 cbv
 refine retI hA ?_
 simp only [retOk, rsOk, retIds, idsD, idsDs, softOb, toV, Option.some.injEq, V.bool.injEq, and_true]
 rw [hcv, hA, hr]; exact idxM_any badM ss
open Go Go.RowKit
def markZ (r : RecM) : Bool := r.mi == 0 && (r.mo == 0 && (r.si == 0 && r.so == 0))
def pathOk (p : List (List UInt8)) : Bool := inM p.length 1 8 && !(p.any badM)
def checkM (r : RecM) : Bool :=
 if r.k = 1 then pathOk r.path && (inM r.sz 0 8192 && markZ r)
 else if r.k = 2 then r.path == [] && (r.sz == 0 && (r.sm == 0 && (inM r.mi 1 24576 && inM r.mo 1 24576)))
 else if r.k = 3 then r.path == [] && (r.sz == 0 && (r.sm == 0 && markZ r))
 else false
def errM (c : Bool) (e : Int) : Int := if c then 0 else e
theorem notT {A : Prim} {P : Program} {R : List (Nat × AObj) → List D → Prop} (hA : A = std P R) {c : Bool} (h : A.not c = true) : c = false := by subst hA; simpa [std] using h
theorem notF {A : Prim} {P : Program} {R : List (Nat × AObj) → List D → Prop} (hA : A = std P R) {c : Bool} (h : A.not c = false) : c = true := by subst hA; simpa [std] using h
theorem checkSame (k sz sm mi mo si so : Int) (p : List (List UInt8)) : checkM ⟨k, p, sz, sm, mi, mo, si, so⟩ = if k = 1 then inM p.length 1 8 && (!(p.any badM) && (inM sz 0 8192 && sameM ⟨1, p, sz, sm, mi, mo, si, so⟩ ⟨1, p, sz, sm, 0, 0, 0, 0⟩)) else if k = 2 then inM mi 1 24576 && (inM mo 1 24576 && sameM ⟨2, p, sz, sm, mi, mo, si, so⟩ ⟨2, [], 0, 0, mi, mo, si, so⟩) else if k = 3 then sameM ⟨3, p, sz, sm, mi, mo, si, so⟩ ⟨3, [], 0, 0, 0, 0, 0, 0⟩ else false := by
 unfold checkM
 split
 ·simp [sameM, pathOk, markZ, Bool.and_assoc]
 ·split
  ·simp only [sameM, beq_self_eq_true, Bool.true_and, Bool.and_true]
   cases p == [] <;> cases sz == 0 <;> cases sm == 0 <;> simp
  ·split
   ·simp [sameM, markZ]
   ·rfl
theorem cCheck (a : RecM) (l : List V) (ha : l = strsV a.path) (hal : a.path.length ≤ 140737488355328) : CallR Tryz.prog 90 [.agg [.int .u8 a.k, .slice l, .int .i64 a.sz, .int .u32 a.sm, .int .i64 a.mi, .int .i64 a.mo, .int .u32 a.si, .int .u32 a.so]] fun rs => ∃ e : Int, rs = [.v (.int .i64 e)] ∧ e = errM (checkM a) 2 := by
 obtain ⟨e, he⟩ : ∃ e, e = errM (checkM a) 2 := ⟨_, rfl⟩
 refine .of _ ⟨e, rfl, he⟩ ?_
 obtain ⟨k, p, sz, sm, mi, mo, si, so⟩ := a
 dsimp only at *
 rw [checkSame] at he
 have hlen := lenS' ha
 refine FnR.of' T_ok M_ok (fn := Tryz.f90) (by kernel_rfl) rfl rfl rfl rfl (Nat.le_of_ble_eq_true rfl) fun A hA => ?_
 cbv
 refine condI hA (fun h1 => ?_) (fun h1 => ?_)
 ·replace h1 := eqT hA h1
  subst h1
  rw [if_pos rfl] at he
  cbv
  refine callI hA (cIn (A.lenL l) 1 8) ?_
  intro rs_ h_
  obtain ⟨c1, q_1, hc1⟩ := h_
  subst q_1
  cbv
  have hc1 : c1 = inM p.length 1 8 := by rw [hc1, hA]; simp only [std]; rw [hlen]
  refine condI hA (fun h2 => ?_) (fun h2 => ?_)
  ·replace h2 := notT hA h2
   cbv
   refine retI hA ?_
   simp only [retOk, rsOk, retIds, idsD, idsDs, softOb, toV, Option.some.injEq, V.int.injEq, true_and, and_true]
   rw [he]; simp [errM, ← hc1, h2]
  ·replace h2 := notF hA h2
   cbv
   refine callI hA (cContS p l ha hal) ?_
   intro rs_ h_
   obtain ⟨c2, q_1, hc2⟩ := h_
   subst q_1
   cbv
   refine condI hA (fun h3 => ?_) (fun h3 => ?_)
   ·cbv
    refine retI hA ?_
    simp only [retOk, rsOk, retIds, idsD, idsDs, softOb, toV, Option.some.injEq, V.int.injEq, true_and, and_true]
    rw [he]; simp [errM, ← hc2, h3]
   ·cbv
    refine callI hA (cIn sz 0 8192) ?_
    intro rs_ h_
    obtain ⟨c3, q_1, hc3⟩ := h_
    subst q_1
    cbv
    refine condI hA (fun h4 => ?_) (fun h4 => ?_)
    ·replace h4 := notT hA h4
     cbv
     refine retI hA ?_
     simp only [retOk, rsOk, retIds, idsD, idsDs, softOb, toV, Option.some.injEq, V.int.injEq, true_and, and_true]
     rw [he]; simp [errM, ← hc3, h4]
    ·replace h4 := notF hA h4
     cbv
     refine chkI hA (by kernel_rfl) ?_
     cbv
     refine callI hA (cSameR ⟨1, p, sz, sm, mi, mo, si, so⟩ ⟨1, p, sz, sm, 0, 0, 0, 0⟩ l l ha ha hal) ?_
     intro rs_ h_
     obtain ⟨c4, q_1, hc4⟩ := h_
     subst q_1
     cbv
     refine condI hA (fun h5 => ?_) (fun h5 => ?_)
     ·replace h5 := notT hA h5
      cbv
      refine retI hA ?_
      simp only [retOk, rsOk, retIds, idsD, idsDs, softOb, toV, Option.some.injEq, V.int.injEq, true_and, and_true]
      rw [he]; simp [errM, ← hc4, h5]
     ·replace h5 := notF hA h5
      cbv
      refine retI hA ?_
      simp only [retOk, rsOk, retIds, idsD, idsDs, softOb, toV, Option.some.injEq, V.int.injEq, true_and, and_true]
      rw [he]; simp [errM, ← hc1, ← hc2, ← hc3, ← hc4, h2, h3, h4, h5]
 ·replace h1 := eqF hA h1
  rw [if_neg h1] at he
  cbv
  refine condI hA (fun g1 => ?_) (fun g1 => ?_)
  ·replace g1 := eqT hA g1
   subst g1
   rw [if_pos rfl] at he
   cbv
   refine callI hA (cIn mi 1 24576) ?_
   intro rs_ h_
   obtain ⟨c1, q_1, hc1⟩ := h_
   subst q_1
   cbv
   refine condI hA (fun h2 => ?_) (fun h2 => ?_)
   ·replace h2 := notT hA h2
    cbv
    refine retI hA ?_
    simp only [retOk, rsOk, retIds, idsD, idsDs, softOb, toV, Option.some.injEq, V.int.injEq, true_and, and_true]
    rw [he]; simp [errM, ← hc1, h2]
   ·replace h2 := notF hA h2
    cbv
    refine callI hA (cIn mo 1 24576) ?_
    intro rs_ h_
    obtain ⟨c2, q_1, hc2⟩ := h_
    subst q_1
    cbv
    refine condI hA (fun h3 => ?_) (fun h3 => ?_)
    ·replace h3 := notT hA h3
     cbv
     refine retI hA ?_
     simp only [retOk, rsOk, retIds, idsD, idsDs, softOb, toV, Option.some.injEq, V.int.injEq, true_and, and_true]
     rw [he]; simp [errM, ← hc2, h3]
    ·replace h3 := notF hA h3
     cbv
     refine callI hA (cSameR ⟨2, p, sz, sm, mi, mo, si, so⟩ ⟨2, [], 0, 0, mi, mo, si, so⟩ l [] ha rfl hal) ?_
     intro rs_ h_
     obtain ⟨c4, q_1, hc4⟩ := h_
     subst q_1
     cbv
     refine condI hA (fun h5 => ?_) (fun h5 => ?_)
     ·replace h5 := notT hA h5
      cbv
      refine retI hA ?_
      simp only [retOk, rsOk, retIds, idsD, idsDs, softOb, toV, Option.some.injEq, V.int.injEq, true_and, and_true]
      rw [he]; simp [errM, ← hc4, h5]
     ·replace h5 := notF hA h5
      cbv
      refine retI hA ?_
      simp only [retOk, rsOk, retIds, idsD, idsDs, softOb, toV, Option.some.injEq, V.int.injEq, true_and, and_true]
      rw [he]; simp [errM, ← hc1, ← hc2, ← hc4, h2, h3, h5]
  ·replace g1 := eqF hA g1
   rw [if_neg g1] at he
   cbv
   refine condI hA (fun f1 => ?_) (fun f1 => ?_)
   ·replace f1 := eqT hA f1
    subst f1
    rw [if_pos rfl] at he
    cbv
    refine callI hA (cSameR ⟨3, p, sz, sm, mi, mo, si, so⟩ ⟨3, [], 0, 0, 0, 0, 0, 0⟩ l [] ha rfl hal) ?_
    intro rs_ h_
    obtain ⟨c4, q_1, hc4⟩ := h_
    subst q_1
    cbv
    refine condI hA (fun h5 => ?_) (fun h5 => ?_)
    ·replace h5 := notT hA h5
     cbv
     refine retI hA ?_
     simp only [retOk, rsOk, retIds, idsD, idsDs, softOb, toV, Option.some.injEq, V.int.injEq, true_and, and_true]
     rw [he]; simp [errM, ← hc4, h5]
    ·replace h5 := notF hA h5
     cbv
     refine retI hA ?_
     simp only [retOk, rsOk, retIds, idsD, idsDs, softOb, toV, Option.some.injEq, V.int.injEq, true_and, and_true]
     rw [he]; simp [errM, ← hc4, h5]
   ·replace f1 := eqF hA f1
    rw [if_neg f1] at he
    cbv
    refine retI hA ?_
    simp only [retOk, rsOk, retIds, idsD, idsDs, softOb, toV, Option.some.injEq, V.int.injEq, true_and, and_true]
    rw [he]; simp [errM, f1]
end Go.Proofs.YthioccbgjkbmdaaGreat.AM
