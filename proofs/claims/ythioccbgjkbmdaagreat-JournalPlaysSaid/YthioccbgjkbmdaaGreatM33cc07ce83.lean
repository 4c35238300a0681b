/-
 Contracts: the law's world: open.
-/
import Derived.Test.YthioccbgjkbmdaaGreatM32f882a79d
import Derived.Test.YthioccbgjkbmdaaGreatM27500feff9
import Derived.Test.YthioccbgjkbmdaaGreatRows
set_option linter.unusedVariables false
set_option linter.unusedSimpArgs false
set_option maxRecDepth 100000
set_option maxHeartbeats 4000000
namespace Go.Proofs.YthioccbgjkbmdaaGreat.AM
open Go Go.RowKit
theorem scanM_len : ∀ (m : Nat) (s : Nat) (b : List UInt8), b.length ≤ m → (scanM s b).1.length ≤ b.length := by
 intro m
 induction m with
 | zero =>
  intro s b hb
  cases h : stepM s b with
  | none => rw [scanM_none h]; exact Nat.zero_le _
  | some r => have := stepM_some h; omega
 | succ m ih =>
  intro s b hb
  cases h : stepM s b with
  | none => rw [scanM_none h]; exact Nat.zero_le _
  | some r =>
   have h1 := stepM_some h
   have h2 := ih (s + 1) (b.drop r.2) (by rw [List.length_drop]; omega)
   rw [scanM_some h, List.length_cons]
   rw [List.length_drop] at h2
   omega
theorem openD_cases {k : Dk} {B : Nat} (hp : PkOk k B) (hB : B ≤ 900000) : (∃ k1 e, k.openD = (k1, none, e) ∧ e ≠ 0) ∨ ∃ k1 f rs, k.openD = (k1, some (f, rs), 0) ∧ I64 f ∧ rs.length ≤ 900000 ∧ ∀ a ∈ rs, a.path.length ≤ 140737488355328 := by
 have hf : I64 (k.findE 1 jName).1 := findE_i64 hp
 have hl : (scanM 0 (k.readM (k.findE 1 jName).1 0 (sizeM k (k.findE 1 jName).1)).1).1.length ≤ 900000 :=
  Nat.le_trans (scanM_len _ _ _ (Nat.le_refl _)) (Nat.le_trans (readM_len hp _ _ _) hB)
 have hpl : ∀ a ∈ (scanM 0 (k.readM (k.findE 1 jName).1 0 (sizeM k (k.findE 1 jName).1)).1).1, a.path.length ≤ 140737488355328 := fun a ha =>
  Nat.le_trans (scan_paths _ _ _ (Nat.le_refl _) a ha) (Nat.le_trans (readM_len hp _ _ _) (by omega))
 unfold Dk.openD; dsimp only
 split
 ·exact .inr ⟨_, _, _, rfl, i64_0, Nat.zero_le _, fun a ha => (List.not_mem_nil ha).elim⟩
 ·split
  ·rename_i h; exact .inl ⟨_, _, rfl, h⟩
  ·split
   ·exact .inl ⟨_, _, rfl, by decide⟩
   ·split
    ·split
     ·rename_i h; exact .inl ⟨_, _, rfl, h⟩
     ·split
      ·rename_i h; exact .inl ⟨_, _, rfl, h⟩
      ·exact .inr ⟨_, _, _, rfl, hf, hl, hpl⟩
    ·exact .inr ⟨_, _, _, rfl, hf, hl, hpl⟩
def WSs (gh : GH) (p wp M B : Nat) : Prop := ∃ lab k jv ln r file n, WS gh lab p wp k M B jv ln r file n
theorem gOpenW {gh : GH} {lab : Lab} {p wp : Nat} {k : Dk} {M B : Nat} {jv : V} {ln : List V} {r : Dk} {file n : Int} (h : WS gh lab p wp k M B jv ln r file n) (hM : M ≤ 700000) (hB : B ≤ 800000) : FnG Tryz.prog 8 [.gp wp 0] gh fun rs g => ∃ b : Bool, rs = [.v (.bool b)] ∧ b = true ∧ WSs g p wp (M + 2) (B + 2) := by
 have hw := h.i.w.at_
 unfold wBox at hw
 have hop := gOpen h.i.d (by omega)
 have hop18 := cOpen18 h.d13 (by omega) (by omega)
 obtain ⟨hrel, hr2⟩ := h.rel.map wf_open
 have hK1 := h.K.open
 have hcap1 : k.openD.1.cap = k.cap := cap_open k
 rcases openD_cases h.i.d.ok (by omega) with ⟨k1, e0, q, he0⟩ | ⟨k1, f, recs, q, hfi, hrl, hpl⟩
 ·rw [q] at hop hrel hr2 hK1 hcap1
  rw [hr2] at hop18
  dsimp only at hop hop18 hrel hK1 hcap1
  have hopN : FnG Tryz.prog 11 [.gp p 0] gh fun rs g => ∃ e : Int, rs = [.v .nilp, .v (.slice []), .v (.int .i64 e)] ∧ e = e0 ∧ ∃ lab', Upd gh g lab lab' (fun _ => True) (fun _ => False) ∧ DI g lab' p k1 (B + 2) :=
   hop.mono fun rs g ⟨x, l, e, q1, q2, lab', u, hd, q3, q4⟩ => ⟨e, by rw [q1, q3, q4], q2, lab', u, hd⟩
  refine FnG.of' T_ok M_ok [] (fn := Tryz.f8) (by kernel_rfl) rfl rfl rfl rfl (Nat.le_of_ble_eq_true rfl) fun A hA => ?_
  cbv
  refine gldI hA _ (hw) ?_
  cbv
  refine callGI hA (hopN) ?_
  intro rs_ g1 h_
  obtain ⟨e, q_1, he, lab1, u1, hD1⟩ := h_
  subst q_1
  cbv
  have I1 := (WI.did h.i ⟨lab1, u1, hD1⟩)
  obtain ⟨lab2, I1⟩ := I1
  have hw1 := I1.w.at_
  unfold wBox at hw1
  cbv
  refine gldAI hA _ hw1 ?_
  cbv
  refine callI hA (hop18) ?_
  intro rs_ h_
  obtain ⟨lf, kf, ff, nf, rl, ef, q_1, hlf, hkf, hef, hff, hnf, hrlf⟩ := h_
  subst q_1
  cbv
  refine gstI hA _ hw1 ?_
  intro g2 hg2
  obtain I2 := I1.put (jv' := jv) (ln' := lf) (r' := kf) (file' := file) (n' := n) (jf' := file) (jn' := n) hg2 I1.j
  subst hff hnf hrlf
  have hee : e = ef := he.trans hef.symm
  have hef0 : ef ≠ 0 := fun q => he0 (hef.symm.trans q)
  cbv
  refine condF hA (zne_f hA hee) ?_
  cbv
  refine condF hA (zne_f hA rfl) ?_
  cbv
  have hnb : A.not (A.beq false (A.ieq ef 0)) = false := by rw [zeq_f hA hef0, hA]; rfl
  refine condF hA hnb ?_
  cbv
  refine loopF hA (ι := Unit) (fun _ => { n := 75, sl := [(10, .v (.int .i64 0)), (0, .v (.gp wp 0)), (4, .v (.slice [])), (3, .v .nilp), (7, .ptr 7 0)], ob := [(hk, .heap g2 []), (7, .box [.v (.int .i64 0), .v (.int .i64 0)])] }) (fun _ => True) (fun _ => 0) () (weakI rfl ⟨rfl, rfl, rfl, rfl, rfl, trivial⟩ ⟨rfl, rfl, trivial⟩) trivial ?_
  rintro _ _
  cbv
  refine condF hA (zlt_f hA (by rw [hA]; exact Int.lt_irrefl 0)) ?_
  cbv
  refine chkI hA (by kernel_rfl) ?_
  cbv
  have hw2 := I2.w.at_
  unfold wBox at hw2
  refine gstI hA _ hw2 ?_
  intro g3 hg3
  have I3 := I2.put (jv' := .nilp) (ln' := lf) (r' := kf) (file' := file) (n' := n) (jf' := 0) (jn' := 0) hg3 (.inl rfl)
  have hw3 := I3.w.at_
  unfold wBox at hw3
  cbv
  refine gstI hA _ hw3 ?_
  intro g4 hg4
  have I4 := I3.put (jv' := .nilp) (ln' := lf) (r' := kf) (file' := 0) (n' := 0) (jf' := 0) (jn' := 0) hg4 (.inl rfl)
  cbv
  exact retGI hA rfl [.v (.bool true)] g4 (⟨true, rfl, rfl, lab2, k1, .nilp, lf, kf, 0, 0, I4, by rw [hkf]; exact hrel, hK1, by rw [hcap1]; exact h.cap, hlf, i64_0, Int.le_refl 0, by omega⟩)
 ·rw [q] at hop hrel hr2 hK1 hcap1
  rw [hr2] at hop18
  dsimp only at hop hop18 hrel hK1 hcap1
  have hopS : FnG Tryz.prog 11 [.gp p 0] gh fun rs g => ∃ (jp : Nat) (l : List V) (e : Int), rs = [.v (.gp jp 0), .v (.slice l), .v (.int .i64 e)] ∧ e = 0 ∧ l = recsV recs ∧ gh.next ≤ jp ∧ ∃ lab', Upd gh g lab lab' (fun _ => True) (fun _ => False) ∧ DI g lab' p k1 (B + 2) ∧ Side g lab' jp (jBox p f (recs.length : Nat)) :=
   hop.mono fun rs g ⟨x, l, e, q1, q2, lab', u, hd, q3, jp, q4, q5, q6⟩ => ⟨jp, l, e, by rw [q1, q4], q2, q3, q5, lab', u, hd, q6⟩
  refine FnG.of' T_ok M_ok [] (fn := Tryz.f8) (by kernel_rfl) rfl rfl rfl rfl (Nat.le_of_ble_eq_true rfl) fun A hA => ?_
  cbv
  refine gldI hA _ (hw) ?_
  cbv
  refine callGI hA (hopS) ?_
  intro rs_ g1 h_
  obtain ⟨jp, l, e, q_1, he, hl, hjp, lab1, u1, hD1, hS1⟩ := h_
  subst q_1
  cbv
  have I1 := h.i.did' u1 hD1
  have hne : jp ≠ wp := fun q => by have := h.i.w.lt; omega
  have hw1 := I1.w.at_
  unfold wBox at hw1
  cbv
  refine gldAI hA _ hw1 ?_
  cbv
  refine callI hA (hop18) ?_
  intro rs_ h_
  obtain ⟨lf, kf, ff, nf, rl, ef, q_1, hlf, hkf, hef, hff, hnf, hrlf⟩ := h_
  subst q_1
  cbv
  refine gstI hA _ hw1 ?_
  intro g2 hg2
  have I2 := I1.put (jv' := jv) (ln' := lf) (r' := kf) (file' := file) (n' := n) (jf' := file) (jn' := n) hg2 I1.j
  have hS2 : Side g2 lab1 jp (jBox p f (recs.length : Nat)) := ⟨by rw [hg2]; simp only [GH.set_get]; rw [if_neg hne]; exact hS1.at_, hS1.no, by rw [hg2]; exact hS1.lt⟩
  have hnf : nf = ((recs.length : Nat) : Int) := natEq hnf
  have hnb2 : 0 ≤ nf ∧ nf ≤ 900000 + ((M + 2 : Nat) : Int) := by rw [hnf]; omega
  subst hff
  have hee : e = ef := he.trans hef.symm
  have hef0 : ef = 0 := hef
  have hll : A.lenL l = A.lenL rl := by rw [hl, hrlf]
  cbv
  refine condF hA (zne_f hA hee) ?_
  cbv
  refine condF hA (zne_f hA hll) ?_
  cbv
  have hnb : A.not (A.beq true (A.ieq ef 0)) = false := by rw [zeq_t hA hef0, hA]; rfl
  refine condF hA hnb ?_
  cbv
  refine loopF hA (ι := Int) (fun q => { n := 75, sl := [(10, .v (.int .i64 q)), (0, .v (.gp wp 0)), (4, .v (.slice l)), (8, .v (.slice rl)), (3, .v (.gp jp 0)), (7, .ptr 7 0)], ob := [(hk, .heap g2 []), (7, .box [.v (.int .i64 ff), .v (.int .i64 nf)])] }) (fun q => ∃ j : Nat, q = (j : Nat) ∧ j ≤ recs.length) (fun q => recs.length - q.toNat) _ (weakI rfl ⟨rfl, rfl, rfl, rfl, rfl, rfl, trivial⟩ ⟨rfl, rfl, trivial⟩) ⟨0, rfl, Nat.zero_le _⟩ ?_
  rintro i ⟨j, hi, hj⟩
  have hln : l.length = recs.length := by rw [hl, recsV_len]
  cbv
  refine condI hA (fun hcc => ?_) (fun hcc => ?_)
  ·have hjl := ltL hA (natEq hi) hln hcc
   cbv
   refine chkI hA (by kernel_rfl) ?_
   cbv
   refine getRN hA hl (natEq hi) hjl ?_
   rintro ga la hga hla
   cbv
   refine getRN hA hrlf (natEq hi) hjl ?_
   rintro gb lb hgb hlb
   have hab : ga = gb := hga.trans hgb.symm
   have hcs := cSame12 ga gb la lb hla hlb (by rw [hga]; exact hpl _ (List.getElem_mem hjl))
   cbv
   refine callI hA (hcs) ?_
   intro rs_ h_
   obtain ⟨c, q_1, hc⟩ := h_
   subst q_1
   cbv
   have hc : c = true := hc.trans ((sameM_iff ga gb).2 hab)
   refine condF hA (notI hA hc) ?_
   cbv
   exact ⟨_, weakI rfl ⟨rfl, rfl, rfl, rfl, rfl, rfl, trivial⟩ ⟨rfl, rfl, trivial⟩, ⟨j + 1, upI hA (natEq hi) (by omega), hjl⟩, upM hA (natEq hi) hjl (by omega)⟩
  ·cbv
   refine chkI hA (by kernel_rfl) ?_
   cbv
   have hw2 := I2.w.at_
   unfold wBox at hw2
   refine gstI hA _ hw2 ?_
   intro g3 hg3
   have I3 := I2.put (jv' := .gp jp 0) (ln' := lf) (r' := kf) (file' := file) (n' := n) (jf' := ff) (jn' := nf) hg3 (.inr ⟨jp, rfl, hne, by rw [hnf]; exact hS2⟩)
   have hw3 := I3.w.at_
   unfold wBox at hw3
   cbv
   refine gstI hA _ hw3 ?_
   intro g4 hg4
   have I4 := I3.put (jv' := .gp jp 0) (ln' := lf) (r' := kf) (file' := ff) (n' := nf) (jf' := ff) (jn' := nf) hg4 I3.j
   cbv
   exact retGI hA rfl [.v (.bool true)] g4 (⟨true, rfl, rfl, lab1, k1, .gp jp 0, lf, kf, ff, nf, I4, by rw [hkf]; exact hrel, hK1, by rw [hcap1]; exact h.cap, hlf, hfi, hnb2.1, hnb2.2⟩)
open Go Go.RowKit
structure ActM where
 kd : Int
 r : RecM
 data : Bs
 n : Int
 dn : Bool
def actV (a : ActM) : V := .agg [.int .u8 a.kd, .int .u8 a.r.k, .slice (strsV a.r.path), .int .i64 a.r.sz, .int .u32 a.r.sm, .int .i64 a.r.mi, .int .i64 a.r.mo, .int .u32 a.r.si, .int .u32 a.r.so, .slice (bytesV a.data), .int .u8 a.n, .bool a.dn]
def actsV (l : List ActM) : List V := l.map actV
theorem actsV_len (l : List ActM) : (actsV l).length = l.length := by simp [actsV]
structure ActOk (a : ActM) : Prop where
 r : RecOk a.r
 n0 : 0 ≤ a.n
 n1 : a.n ≤ 255
 d : a.data.length ≤ 140737488355328
theorem tv_act {k : Nat} {x : V} (h : TyV (k + 4) 47 x) : ∃ a : ActM, x = actV a ∧ ActOk a := by
 obtain ⟨ys, rfl, h1, h2⟩ := tv_struct (k := k + 3) rfl h
 match ys, h1, h2 with
 | [a, b, c, d, e], _, h2 =>
  obtain ⟨kd, rfl, k0, k1⟩ := tv_int (k := k + 2) (kd := .u8) rfl (h2 0 (by simp) (by decide))
  obtain ⟨r, rfl, hr⟩ := tv_rec (k := k) (h2 1 (by simp) (by decide))
  obtain ⟨dt, rfl, hd⟩ := tv_bytes (k := k + 1) rfl rfl rfl (h2 2 (by simp) (by decide))
  obtain ⟨n, rfl, n0, n1⟩ := tv_int (k := k + 2) (kd := .u8) rfl (h2 3 (by simp) (by decide))
  obtain ⟨dn, rfl⟩ := tv_bool (k := k + 2) rfl (h2 4 (by simp) (by decide))
  exact ⟨⟨kd, r, dt, n, dn⟩, rfl, hr, n0, n1, hd⟩
theorem tv_acts {k : Nat} {x : V} (h : TyV (k + 5) 23 x) : ∃ gs : List ActM, x = .slice (actsV gs) ∧ gs.length ≤ 140737488355328 ∧ ∀ a ∈ gs, ActOk a := by
 obtain ⟨l, rfl, h1, h2⟩ := tv_slice (k := k + 4) rfl h
 have key : ∀ l : List V, (∀ y ∈ l, TyV (k + 4) 47 y) → ∃ gs, l = actsV gs ∧ ∀ a ∈ gs, ActOk a := by
  intro l
  induction l with
  | nil => exact fun _ => ⟨[], rfl, by simp⟩
  | cons y r ih =>
   intro h
   obtain ⟨a, rfl, ha⟩ := tv_act (k := k) (h y (by simp))
   obtain ⟨gs, rfl, hgs⟩ := ih fun z hz => h z (List.mem_cons_of_mem _ hz)
   exact ⟨a :: gs, rfl, fun c hc => (List.mem_cons.1 hc).elim (fun e => e ▸ ha) (hgs c)⟩
 obtain ⟨gs, rfl, hgs⟩ := key l h2
 rw [actsV_len] at h1
 have hb : 1 ≤ (tyOf 47).bytes := by decide
 exact ⟨gs, rfl, Nat.le_trans (Nat.le_mul_of_pos_right _ hb) h1, hgs⟩
theorem getAct {A : Prim} {P : Program} {R : List (Nat × AObj) → List D → Prop} (hA : A = std P R) {l : List ActM} {lv : List V} {i : Int} {j : Nat} {K : List V → Prop} (hl : lv = actsV l) (hi : i = j) (hj : j < l.length) (hK : ∀ (a : ActM) (pl dl : List V), a = l[j]'hj → pl = strsV a.r.path → dl = bytesV a.data → K [.int .u8 a.kd, .int .u8 a.r.k, .slice pl, .int .i64 a.r.sz, .int .u32 a.r.sm, .int .i64 a.r.mi, .int .i64 a.r.mo, .int .u32 a.r.si, .int .u32 a.r.so, .slice dl, .int .u8 a.n, .bool a.dn]) : A.getA 12 lv i K :=
 getAI hA _ ⟨by omega, by rw [hl, hi, Int.toNat_natCast]; unfold actsV; rw [List.getElem?_map, List.getElem?_eq_getElem hj]; rfl, rfl⟩ (hK _ _ _ rfl rfl rfl)
theorem cFew (acts : List ActM) (l : List V) (hl : l = actsV acts) : CallR Tryz.prog 4 [.slice l] fun rs => ∃ b : Bool, rs = [.v (.bool b)] ∧ (b = true → acts.length ≤ 20 ∧ ∀ a ∈ acts, a.data.length ≤ 2000) := by
 obtain ⟨r, hr⟩ : ∃ b : Bool, b = (decide (acts.length ≤ 20) && decide ((acts.map fun a => min a.data.length 2001).sum ≤ 2000) && acts.all fun a => decide (a.r.path.length ≤ 40)) := ⟨_, rfl⟩
 have hmin : ∀ (l : List ActM), (l.map fun a => min a.data.length 2001).sum ≤ 2000 → ∀ a ∈ l, a.data.length ≤ 2000 := by
  intro l
  induction l with
  | nil => intro _ a ha; cases ha
  | cons x q ih =>
   intro h a ha
   rw [List.map_cons, List.sum_cons] at h
   rcases List.mem_cons.1 ha with e | e
   ·subst e; omega
   ·exact ih (by omega) a e
 refine .of _ ⟨r, rfl, fun q => ?_⟩ ?_
 ·rw [hr, Bool.and_eq_true, Bool.and_eq_true] at q
  exact ⟨of_decide_eq_true q.1.1, hmin acts (of_decide_eq_true q.1.2)⟩
 have hll : l.length = acts.length := by rw [hl, actsV_len]
 refine FnR.of' T_ok M_ok (fn := Tryz.f4) (by kernel_rfl) rfl rfl rfl rfl (Nat.le_of_ble_eq_true rfl) fun A hA => ?_
 cbv
 refine condI hA (fun h1 => ?_) (fun h1 => ?_)
 ·have h1 : ¬ acts.length ≤ 20 := by
   have h1 : 20 < A.lenL l := zltT hA h1
   rw [hA] at h1; have h1 : (20 : Int) < (l.length : Int) := h1; rw [hll] at h1; omega
  have q : r = false := by rw [hr, decide_eq_false h1]; rfl
  cbv
  refine retI hA ?_
  rw [q]; exact ⟨rfl, trivial⟩
 ·have h1 : acts.length ≤ 20 := by
   have h1 : ¬ 20 < A.lenL l := zltF hA h1
   rw [hA] at h1; have h1 : ¬ (20 : Int) < (l.length : Int) := h1; rw [hll] at h1; omega
  have hsm : ∀ j, (((acts.take j).map fun a => min a.data.length 2001).sum : Nat) ≤ 20 * 2001 := fun j => by
   refine Nat.le_trans (sum_le (fun a : ActM => min a.data.length 2001) 2001 (acts.take j) (fun x _ => Nat.min_le_right _ _)) (Nat.mul_le_mul_right _ (by rw [List.length_take]; omega))
  refine loopF hA (ι := Int × Int) (fun q => { n := 33, sl := [(4, .v (.int .i64 q.1)), (3, .v (.int .i64 q.2)), (0, .v (.slice l))], ob := [] }) (fun q => ∃ j : Nat, q.1 = (j : Nat) ∧ j ≤ acts.length ∧ q.2 = (((acts.take j).map fun a => min a.data.length 2001).sum : Nat) ∧ ∀ a ∈ acts.take j, a.r.path.length ≤ 40) (fun q => acts.length - q.1.toNat) (_, _) (weakI rfl ⟨rfl, rfl, rfl, trivial⟩ trivial) ⟨0, rfl, Nat.zero_le _, rfl, fun a ha => (List.not_mem_nil ha).elim⟩ ?_
  rintro ⟨i, x⟩ ⟨j, hi, hj, hx, hpa⟩
  dsimp only at hi hx
  cbv
  refine condI hA (fun hcc => ?_) (fun hcc => ?_)
  ·have hjl := ltL hA (natEq hi) hll hcc
   have hst := sum_take acts (fun a : ActM => min a.data.length 2001) j hjl
   have hs1 := hsm j
   cbv
   refine getAct hA hl (natEq hi) hjl ?_
   rintro a pl dl ha hpl hdl
   have hdn : dl.length = a.data.length := by rw [hdl, bytesV_len]
   have hmn : ∀ y : Int, y = A.imin (A.lenL dl) 2001 → y = ((min a.data.length 2001 : Nat) : Int) := fun y hy => by
    rw [hy, hA]
    show (if (2001 : Int) < ((dl.length : Nat) : Int) then (2001 : Int) else ((dl.length : Nat) : Int)) = _
    rw [hdn]; split <;> omega
   have hup : ∀ y : Int, y = A.imin (A.lenL dl) 2001 → w64 (x + y) = ((((acts.take (j + 1)).map fun a => min a.data.length 2001).sum : Nat) : Int) := fun y hy => by
    rw [hmn y hy, natEq hx, w64_add rfl rfl (by omega), hst, ha]
   have htk : ∀ b ∈ acts.take (j + 1), b ∈ acts.take j ∨ b = acts[j]'hjl := fun b hb => by
    rw [List.take_succ_eq_append_getElem hjl] at hb
    rcases List.mem_append.1 hb with q | q
    ·exact .inl q
    ·exact .inr (List.mem_singleton.1 q)
   cbv
   refine getAct hA hl (natEq hi) hjl ?_
   rintro a2 pl2 dl2 ha2 hpl2 hdl2
   have hpn : pl2.length = (acts[j]'hjl).r.path.length := by rw [hpl2, strsV_len, ha2]
   cbv
   refine condI hA (fun hp => ?_) (fun hp => ?_)
   ·have hp : 40 < (acts[j]'hjl).r.path.length := by
     have hp : 40 < A.lenL pl2 := zltT hA hp
     rw [hA] at hp; have hp : (40 : Int) < (pl2.length : Int) := hp; rw [hpn] at hp; omega
    have q : r = false := by
     rw [hr]
     have : (acts.all fun a => decide (a.r.path.length ≤ 40)) = false := by
      rw [Bool.eq_false_iff]; intro w
      have := of_decide_eq_true (List.all_eq_true.1 w _ (List.getElem_mem hjl)); omega
     rw [this, Bool.and_false]
    cbv
    refine retI hA ?_
    rw [q]; exact ⟨rfl, trivial⟩
   ·have hp : (acts[j]'hjl).r.path.length ≤ 40 := by
     have hp : ¬ 40 < A.lenL pl2 := zltF hA hp
     rw [hA] at hp; have hp : ¬ (40 : Int) < (pl2.length : Int) := hp; rw [hpn] at hp; omega
    cbv
    exact ⟨(_, _), weakI rfl ⟨rfl, rfl, rfl, trivial⟩ trivial, ⟨j + 1, upI hA (natEq hi) (by omega), hjl, (zadd hA x _).trans (hup _ rfl), fun b hb => (htk b hb).elim (hpa b) (fun e => by rw [e]; exact hp)⟩, upM hA (natEq hi) hjl (by omega)⟩
  ·have hjl := geL hA (natEq hi) hll hcc hj
   have q : A.ile x 2000 = r := by
    rw [hr, hA]
    show decide (x ≤ 2000) = _
    rw [natEq hx, hjl, List.take_length, decide_eq_true h1]
    have : (acts.all fun a => decide (a.r.path.length ≤ 40)) = true := List.all_eq_true.2 fun b hb => decide_eq_true (hpa b (by rw [hjl, List.take_length]; exact hb))
    rw [this, Bool.and_true, Bool.true_and]
    exact decide_eq_decide.2 (by omega)
   cbv
   refine retI hA ?_
   exact ⟨congrArg (fun q => some (V.bool q)) q, trivial⟩
open Go Go.RowKit
theorem WS.mono {gh : GH} {lab : Lab} {p wp : Nat} {k : Dk} {M B M' B' : Nat} {jv : V} {ln : List V} {r : Dk} {file n : Int} (h : WS gh lab p wp k M B jv ln r file n) (hM : M ≤ M') (hB : B ≤ B') : WS gh lab p wp k M' B' jv ln r file n :=
 ⟨⟨h.i.d.mono hB, h.i.w, h.i.j⟩, h.rel, h.K.mono hM, h.cap, h.ln, h.fl, h.nn.1, by have := h.nn.2; omega⟩
theorem WSs.mono {gh : GH} {p wp M B M' B' : Nat} (h : WSs gh p wp M B) (hM : M ≤ M') (hB : B ≤ B') : WSs gh p wp M' B' := by
 obtain ⟨lab, k, jv, ln, r, file, n, q⟩ := h
 exact ⟨lab, k, jv, ln, r, file, n, q.mono hM hB⟩
theorem failD_same (k : Dk) (n : Int) (d : Bool) : (k.failD n d).1.nodes = k.nodes ∧ (k.failD n d).1.cap = k.cap := by
 unfold Dk.failD; split
 ·exact ⟨rfl, rfl⟩
 ·split <;> exact ⟨rfl, rfl⟩
theorem fullD_same (k : Dk) (n : Int) : (k.fullD n).1.nodes = k.nodes ∧ (k.fullD n).1.cap = k.cap := by
 unfold Dk.fullD; split
 ·exact ⟨rfl, rfl⟩
 ·split <;> exact ⟨rfl, rfl⟩
theorem gActW {gh : GH} {lab : Lab} {p wp : Nat} {k : Dk} {M B : Nat} {jv : V} {ln : List V} {r : Dk} {file n : Int} (h : WS gh lab p wp k M B jv ln r file n) (hM : M ≤ 1000) (hB : B ≤ 700000) (a : ActM) (ha : ActOk a) (had : a.data.length ≤ 2000) (pl dl : List V) (hpl : pl = strsV a.r.path) (hdl : dl = bytesV a.data) :
  FnG Tryz.prog 10 [.gp wp 0, .agg [.int .u8 a.kd, .int .u8 a.r.k, .slice pl, .int .i64 a.r.sz, .int .u32 a.r.sm, .int .i64 a.r.mi, .int .i64 a.r.mo, .int .u32 a.r.si, .int .u32 a.r.so, .slice dl, .int .u8 a.n, .bool a.dn]] gh fun rs g => ∃ b : Bool, rs = [.v (.bool b)] ∧ b = true ∧ WSs g p wp (M + 10) (B + 5000) := by
 have hw := h.i.w.at_
 unfold wBox at hw
 have hD := h.d13
 have hok := hD.ok (by omega) (by omega)
 have hmo := hD.p.most
 refine FnG.of' T_ok M_ok [] (fn := Tryz.f10) (by kernel_rfl) rfl rfl rfl rfl (Nat.le_of_ble_eq_true rfl) fun A hA => ?_
 cbv
 refine nzI hA (by decide) ?_
 cbv
 refine condI hA (fun h2 => ?_) (fun h2 => ?_)
 ·rcases h.i.j with hj | ⟨jp, hj, hne, hjs⟩
  ·subst hj
   cbv
   refine gldI hA _ (hw) ?_
   cbv
   exact retGI hA rfl [.v (.bool (A.ieq 0 0))] gh (⟨_, rfl, zeq_t hA rfl, lab, k, .nilp, ln, r, file, n, h.mono (by omega) (by omega)⟩)
  ·subst hj
   have hcl := gClear (⟨h.i.d, hjs⟩ : JD gh lab p k B jp file n) (by omega)
   have hcl18 := cClear18 hD (by omega) (by omega) file n
   obtain ⟨hrel, hr2⟩ := h.rel.map (wf_clear file n)
   have hcj := clearD_j k file n
   have hfn := h.nn
   have hK1 := (h.K.clear file n).mono (show M + 2 ≤ M + 10 by omega)
   have hcap1 : 0 ≤ (k.clearD file n).1.cap ∧ (k.clearD file n).1.cap ≤ 1000000 := by rw [cap_clear]; exact h.cap
   have hfl1 : I64 (k.clearD file n).2.1 := by rcases hcj with ⟨q, _⟩ | ⟨q, _⟩ <;> rw [q]; exact h.fl; exact i64_0
   have hnn1 : 0 ≤ (k.clearD file n).2.2.1 ∧ (k.clearD file n).2.2.1 ≤ 900000 + ((M + 10 : Nat) : Int) := by rcases hcj with ⟨_, q⟩ | ⟨_, q⟩ <;> rw [q] <;> omega
   rw [hr2] at hcl18
   cbv
   refine gldI hA _ (hw) ?_
   cbv
   refine gldI hA _ (hw) ?_
   cbv
   refine callGI hA (hcl) ?_
   intro rs_ g1 h_
   obtain ⟨e, q_1, he, hjd⟩ := h_
   subst q_1
   cbv
   obtain ⟨lab1, I1⟩ := h.i.jdid rfl hne hjd
   have hw1 := I1.w.at_
   unfold wBox at hw1
   refine chkI hA (by kernel_rfl) ?_
   cbv
   refine gldAI hA _ hw1 ?_
   cbv
   refine gldAI hA _ hw1 ?_
   cbv
   refine callI hA (hcl18) ?_
   intro rs_ h_
   obtain ⟨lf, kf, ff, nf, ef, q_1, hlf, hkf, hff, hnf, hef⟩ := h_
   subst q_1
   cbv
   refine gstI hA _ hw1 ?_
   intro g2 hg2
   have I2 := I1.put (jv' := .gp jp 0) (ln' := lf) (r' := kf) (file' := file) (n' := n) (jf' := ff) (jn' := nf) hg2 (by rw [hff, hnf]; exact I1.j)
   have hw2 := I2.w.at_
   unfold wBox at hw2
   cbv
   refine gstI hA _ hw2 ?_
   intro g3 hg3
   have I3 := I2.put (jv' := .gp jp 0) (ln' := lf) (r' := kf) (file' := ff) (n' := nf) (jf' := ff) (jn' := nf) hg3 I2.j
   cbv
   exact retGI hA rfl [.v (.bool (A.ieq e ef))] g3 (⟨_, rfl, zeq_t hA (he.trans hef.symm), lab1, _, .gp jp 0, lf, kf, ff, nf, ⟨I3.d.mono (by omega), I3.w, I3.j⟩, by rw [hkf]; exact hrel, hK1, hcap1, hlf, by rw [hff]; exact hfl1, by rw [hnf]; exact hnn1⟩)
 ·cbv
  refine condI hA (fun h3 => ?_) (fun h3 => ?_)
  ·cbv
   refine chkI hA (by kernel_rfl) ?_
   cbv
   refine gldI hA _ (hw) ?_
   cbv
   refine callGI hA ((dCrash h.i.d (by omega) a.data dl hdl ha.d)) ?_
   intro rs_ g1 h_
   obtain ⟨q_1, hdid⟩ := h_
   subst q_1
   cbv
   obtain ⟨lab1, I1⟩ := h.i.did hdid
   have hw1 := I1.w.at_
   unfold wBox at hw1
   have hcr13 := cCrash13 ln r h.ln hmo hok a.data dl hdl ha.d
   refine chkI hA (by kernel_rfl) ?_
   cbv
   refine gldAI hA _ hw1 ?_
   cbv
   refine callI hA (hcr13) ?_
   intro rs_ h_
   obtain ⟨lf, kf, q_1, hlf, hkf⟩ := h_
   subst q_1
   cbv
   refine gstI hA _ hw1 ?_
   intro g2 hg2
   have I2 := I1.put (jv' := jv) (ln' := lf) (r' := kf) (file' := file) (n' := n) (jf' := file) (jn' := n) hg2 I1.j
   have W2 : WS g2 lab1 p wp (k.crash a.data) M B jv lf kf file n := ⟨I2, by rw [hkf]; exact h.rel.crash a.data, h.K.crash a.data, h.cap, hlf, h.fl, h.nn⟩
   have hop := gOpenW W2 (by omega) (by omega)
   cbv
   refine callGI hA (hop) ?_
   intro rs_ g3 h_
   obtain ⟨b, q_1, hb, hws⟩ := h_
   subst q_1
   cbv
   exact retGI hA rfl [.v (.bool b)] g3 (⟨b, rfl, hb, hws.mono (by omega) (by omega)⟩)
  ·cbv
   refine condI hA (fun h4 => ?_) (fun h4 => ?_)
   ·cbv
    refine chkI hA (by kernel_rfl) ?_
    cbv
    refine gldI hA _ (hw) ?_
    cbv
    refine nzI hA (by decide) ?_
    cbv
    refine callGI hA ((dFail h.i.d _ a.dn)) ?_
    intro rs_ g1 h_
    obtain ⟨e, q_1, he, hdid⟩ := h_
    subst q_1
    cbv
    obtain ⟨lab1, I1⟩ := h.i.did hdid
    have hw1 := I1.w.at_
    unfold wBox at hw1
    refine chkI hA (by kernel_rfl) ?_
    cbv
    refine gldAI hA _ hw1 ?_
    cbv
    refine nzI hA (by decide) ?_
    cbv
    refine callI hA ((cFail13 ln r _ a.dn)) ?_
    intro rs_ h_
    obtain ⟨kf, ef, q_1, hkf, hef⟩ := h_
    subst q_1
    cbv
    refine gstI hA _ hw1 ?_
    intro g2 hg2
    have hfs := fun y => failD_same k y a.dn
    have hrl := fun y => h.rel.fail y a.dn
    have hrn : kf.nodes = r.nodes := by rw [hkf]; exact (failD_same r _ a.dn).1
    have I2 := I1.put (jv' := jv) (ln' := ln) (r' := kf) (file' := file) (n' := n) (jf' := file) (jn' := n) hg2 I1.j
    have W2 : WS g2 lab1 p wp _ M B jv ln kf file n := ⟨I2, by rw [hkf]; exact (hrl _).1, h.K.same (hfs _).1, by rw [(hfs _).2]; exact h.cap, by rw [hrn]; exact h.ln, h.fl, h.nn⟩
    cbv
    exact retGI hA rfl [.v (.bool (A.ieq e ef))] g2 (⟨_, rfl, zeq_t hA (he.trans ((hrl _).2.symm.trans hef.symm)), lab1, _, jv, ln, kf, file, n, W2.mono (by omega) (by omega)⟩)
   ·cbv
    refine condI hA (fun h5 => ?_) (fun h5 => ?_)
    ·cbv
     refine gldI hA _ (hw) ?_
     cbv
     refine callGI hA ((dFind h.i.d 1 i64_1 jName)) ?_
     intro rs_ g_ h_
     obtain ⟨nn, g0, q_1, hnn, hg0, q_2⟩ := h_
     subst q_1
     subst q_2
     cbv
     have hI : I64 nn := hnn ▸ findE_i64 h.i.d.ok
     have hap13 := cApp13 ln r h.ln hD.p hD.K (by omega) a.data (by omega) hD.cap nn hI
     obtain ⟨hrel, hr2⟩ := h.rel.map (wf_app nn a.data)
     have hK1 := h.K.app nn a.data
     have hcap1 : 0 ≤ (k.appD nn a.data).1.cap ∧ (k.appD nn a.data).1.cap ≤ 1000000 := by rw [cap_app]; exact h.cap
     have hnn1 : 0 ≤ n ∧ n ≤ 900000 + ((M + 1 : Nat) : Int) := by have := h.nn; omega
     have hop0 := gOpenW h (by omega) (by omega)
     refine condI hA (fun hg => ?_) (fun hg => ?_)
     ·cbv
      refine chkI hA (by kernel_rfl) ?_
      cbv
      refine gldI hA _ (hw) ?_
      cbv
      refine callGI hA ((dAppend h.i.d nn hI a.data dl hdl (by omega))) ?_
      intro rs_ g1 h_
      obtain ⟨e, q_1, he, hdid⟩ := h_
      subst q_1
      cbv
      obtain ⟨lab1, I1⟩ := h.i.did hdid
      have hw1 := I1.w.at_
      unfold wBox at hw1
      refine chkI hA (by kernel_rfl) ?_
      cbv
      refine gldAI hA _ hw1 ?_
      cbv
      refine b2sI hA a.data hdl ?_
      cbv
      refine callI hA (hap13) ?_
      intro rs_ h_
      obtain ⟨lf, kf, ef, q_1, hlf, hkf, hef⟩ := h_
      subst q_1
      cbv
      refine gstI hA _ hw1 ?_
      intro g2 hg2
      have I2 := I1.put (jv' := jv) (ln' := lf) (r' := kf) (file' := file) (n' := n) (jf' := file) (jn' := n) hg2 I1.j
      have W2 : WS g2 lab1 p wp _ (M + 1) (B + a.data.length) jv lf kf file n := ⟨I2, by rw [hkf]; exact hrel, hK1, hcap1, hlf, h.fl, hnn1⟩
      have hop := gOpenW W2 (by omega) (by omega)
      cbv
      refine condT hA (zeq_t hA (he.trans (hr2.symm.trans hef.symm))) ?_
      cbv
      refine callGI hA (hop) ?_
      intro rs_ g3 h_
      obtain ⟨b, q_1, hb, hws⟩ := h_
      subst q_1
      cbv
      exact retGI hA rfl [.v (.bool b)] g3 (⟨b, rfl, hb, hws.mono (by omega) (by omega)⟩)
     ·cbv
      refine condT hA (zeq_t hA rfl) ?_
      cbv
      refine callGI hA (hop0) ?_
      intro rs_ g3 h_
      obtain ⟨b, q_1, hb, hws⟩ := h_
      subst q_1
      cbv
      exact retGI hA rfl [.v (.bool b)] g3 (⟨b, rfl, hb, hws.mono (by omega) (by omega)⟩)
    ·cbv
     refine condI hA (fun h6 => ?_) (fun h6 => ?_)
     ·cbv
      refine chkI hA (by kernel_rfl) ?_
      cbv
      refine gldI hA _ (hw) ?_
      cbv
      refine nzI hA (by decide) ?_
      cbv
      refine callGI hA ((dFull h.i.d _)) ?_
      intro rs_ g1 h_
      obtain ⟨e, q_1, he, hdid⟩ := h_
      subst q_1
      cbv
      obtain ⟨lab1, I1⟩ := h.i.did hdid
      have hw1 := I1.w.at_
      unfold wBox at hw1
      refine chkI hA (by kernel_rfl) ?_
      cbv
      refine gldAI hA _ hw1 ?_
      cbv
      refine nzI hA (by decide) ?_
      cbv
      refine callI hA ((cFullT13 ln r _)) ?_
      intro rs_ h_
      obtain ⟨kf, ef, q_1, hkf, hef⟩ := h_
      subst q_1
      cbv
      refine gstI hA _ hw1 ?_
      intro g2 hg2
      have hfs := fun y => fullD_same k y
      have hrl := fun y => h.rel.map (wf_full y)
      have hrn : kf.nodes = r.nodes := by rw [hkf]; exact (fullD_same r _).1
      have I2 := I1.put (jv' := jv) (ln' := ln) (r' := kf) (file' := file) (n' := n) (jf' := file) (jn' := n) hg2 I1.j
      have W2 : WS g2 lab1 p wp _ M B jv ln kf file n := ⟨I2, by rw [hkf]; exact (hrl _).1, h.K.same (hfs _).1, by rw [(hfs _).2]; exact h.cap, by rw [hrn]; exact h.ln, h.fl, h.nn⟩
      cbv
      exact retGI hA rfl [.v (.bool (A.ieq e ef))] g2 (⟨_, rfl, zeq_t hA (he.trans ((hrl _).2.symm.trans hef.symm)), lab1, _, jv, ln, kf, file, n, W2.mono (by omega) (by omega)⟩)
     ·rcases h.i.j with hj | ⟨jp, hj, hne, hjs⟩
      ·subst hj
       cbv
       refine gldI hA _ (hw) ?_
       cbv
       exact retGI hA rfl [.v (.bool (A.ieq 0 0))] gh (⟨_, rfl, zeq_t hA rfl, lab, k, .nilp, ln, r, file, n, h.mono (by omega) (by omega)⟩)
      ·subst hj
       have hfn := h.nn
       have had := gAdd (⟨h.i.d, hjs⟩ : JD gh lab p k B jp file n) (by omega) (by omega) h.fl a.r pl hpl ha.r
       have had18 := cAdd18 hD (by omega) (by omega) file n h.fl (by omega) a.r pl hpl ha.r
       obtain ⟨hrel, hr2⟩ := h.rel.map (wf_add file n a.r)
       have hK1 := (h.K.add file n a.r).mono (show M + 4 ≤ M + 10 by omega)
       have hcap1 : 0 ≤ (k.addD file n a.r).1.cap ∧ (k.addD file n a.r).1.cap ≤ 1000000 := by rw [cap_add]; exact h.cap
       have hfl1 : I64 (k.addD file n a.r).2.1 := addD_i64 h.i.d.ok h.fl n a.r
       have hnn1 : 0 ≤ (k.addD file n a.r).2.2.1 ∧ (k.addD file n a.r).2.2.1 ≤ 900000 + ((M + 10 : Nat) : Int) := by rcases addD_n k file n a.r with q | q <;> rw [q] <;> omega
       rw [hr2] at had18
       cbv
       refine gldI hA _ (hw) ?_
       cbv
       refine chkI hA (by kernel_rfl) ?_
       cbv
       refine gldI hA _ (hw) ?_
       cbv
       refine callGI hA (had) ?_
       intro rs_ g1 h_
       obtain ⟨e, q_1, he, hjd⟩ := h_
       subst q_1
       cbv
       obtain ⟨lab1, I1⟩ := h.i.jdid rfl hne hjd
       have hw1 := I1.w.at_
       unfold wBox at hw1
       refine chkI hA (by kernel_rfl) ?_
       cbv
       refine gldAI hA _ hw1 ?_
       cbv
       refine gldAI hA _ hw1 ?_
       cbv
       refine callI hA (had18) ?_
       intro rs_ h_
       obtain ⟨lf, kf, ff, nf, ef, q_1, hlf, hkf, hff, hnf, hef⟩ := h_
       subst q_1
       cbv
       refine gstI hA _ hw1 ?_
       intro g2 hg2
       have I2 := I1.put (jv' := .gp jp 0) (ln' := lf) (r' := kf) (file' := file) (n' := n) (jf' := ff) (jn' := nf) hg2 (by rw [hff, hnf]; exact I1.j)
       have hw2 := I2.w.at_
       unfold wBox at hw2
       cbv
       refine gstI hA _ hw2 ?_
       intro g3 hg3
       have I3 := I2.put (jv' := .gp jp 0) (ln' := lf) (r' := kf) (file' := ff) (n' := nf) (jf' := ff) (jn' := nf) hg3 I2.j
       cbv
       exact retGI hA rfl [.v (.bool (A.ieq e ef))] g3 (⟨_, rfl, zeq_t hA (he.trans hef.symm), lab1, _, .gp jp 0, lf, kf, ff, nf, ⟨I3.d.mono (by omega), I3.w, I3.j⟩, by rw [hkf]; exact hrel, hK1, hcap1, hlf, by rw [hff]; exact hfl1, by rw [hnf]; exact hnn1⟩)
open Go Go.RowKit
theorem gSame {gh : GH} {lab : Lab} {p wp : Nat} {k : Dk} {M B : Nat} {jv : V} {ln : List V} {r : Dk} {file n : Int} (h : WS gh lab p wp k M B jv ln r file n) (hM : M ≤ 800000) (hB : B ≤ 900000000) : FnG Tryz.prog 9 [.gp wp 0] gh fun rs g => ∃ b : Bool, rs = [.v (.bool b)] ∧ b = true ∧ g = gh := by
 have hD := h.d13
 have hok := hD.ok (by omega) (by omega)
 have hmo := hD.p.most
 obtain ⟨e1, e2, e3, e4, e5, e6, e7⟩ := h.rel.nodes
 have hw := h.i.w.at_
 unfold wBox at hw
 have hops := gOps h.i.d.i
 have hdown := gDown h.i.d.i
 obtain ⟨lz, hlz⟩ : ∃ q : Int, q = ((k.nodes.map Nd.parts).sum : Nat) := ⟨_, rfl⟩
 have hloo := dLoose h.i.d (by omega) lz hlz
 have hloo13 := cLooseN ln r h.ln hmo hok
 have hfin := dFind h.i.d 1 i64_1 jName
 have hfin13 := cFind13 ln r h.ln (by omega) 1 i64_1 hok jName
 have hrf : ∀ i s, r.findE i s = k.findE i s := by rcases h.rel with q | ⟨_, d, q⟩ <;> subst q <;> intros <;> rfl
 have hrs : ∀ i, sizeM r i = sizeM k i := by rcases h.rel with q | ⟨_, d, q⟩ <;> subst q <;> intros <;> rfl
 have hrr : ∀ i a n, r.readM i a n = k.readM i a n := by rcases h.rel with q | ⟨_, d, q⟩ <;> subst q <;> intros <;> rfl
 obtain ⟨fi, hfi⟩ : ∃ q, q = (k.findE 1 jName).1 := ⟨_, rfl⟩
 obtain ⟨fe, hfe⟩ : ∃ q, q = (k.findE 1 jName).2 := ⟨_, rfl⟩
 have hI : I64 fi := hfi ▸ findE_i64 h.i.d.ok
 rw [hrf, ← hfi, ← hfe] at hfin13
 rw [← hfi, ← hfe] at hfin
 obtain ⟨sz, hsz⟩ : ∃ q, q = sizeM k fi := ⟨_, rfl⟩
 have hszi : I64 sz := hsz ▸ sizeM_i64 h.i.d.ok (by omega) fi
 obtain ⟨bb, hbb⟩ : ∃ q, q = (k.readM fi 0 sz).1 := ⟨_, rfl⟩
 obtain ⟨be, hbe⟩ : ∃ q, q = (k.readM fi 0 sz).2 := ⟨_, rfl⟩
 obtain ⟨bl, hbl⟩ : ∃ q, q = bytesV bb := ⟨_, rfl⟩
 have hgs := gSize h.i.d.i fi hI
 have hgr := dRead h.i.d (by omega) fi 0 sz hI i64_0 hszi
 have hgs13 := cSize13 ln r h.ln hmo hok fi hI
 have hgr13 := cRead13 ln r h.ln hmo hok fi hI 0 sz i64_0 hszi
 rw [← hsz] at hgs
 rw [hrs, ← hsz] at hgs13
 rw [← hbb, ← hbe, ← hbl] at hgr
 rw [hrr, ← hbb, ← hbe] at hgr13
 refine FnG.of' T_ok M_ok [] (fn := Tryz.f9) (by kernel_rfl) rfl rfl rfl rfl (Nat.le_of_ble_eq_true rfl) fun A hA => ?_
 cbv
 refine chkI hA (by kernel_rfl) ?_
 cbv
 refine gldI hA _ (hw) ?_
 cbv
 refine gldI hA _ (hw) ?_
 cbv
 refine callHI hA [.v (.int .i64 k.ops)] (hops.mono fun rs g ⟨q1, q2⟩ => ⟨q1, q2.symm⟩) ?_
 cbv
 refine condF hA (zne_f hA e3.symm) ?_
 cbv
 refine gldI hA _ (hw) ?_
 cbv
 refine gldI hA _ (hw) ?_
 cbv
 refine callHI hA [.v (.bool k.down)] (hdown.mono fun rs g ⟨q1, q2⟩ => ⟨q1, q2.symm⟩) ?_
 cbv
 have hbn : A.not (A.beq k.down r.down) = false := by rw [hA, e5]; simp [std]
 refine condF hA hbn ?_
 cbv
 refine gldI hA _ (hw) ?_
 cbv
 refine gldAI hA _ hw ?_
 cbv
 refine callHI hA [.v (.int .i64 lz)] hloo ?_
 cbv
 refine callI hA (hloo13) ?_
 intro rs_ h_
 obtain ⟨m13, q_1, hm13⟩ := h_
 subst q_1
 cbv
 have hm13 : lz = m13 := by rw [hlz, hm13, e1]
 refine condF hA (zne_f hA hm13) ?_
 cbv
 refine gldI hA _ (hw) ?_
 cbv
 refine callGI hA (hfin) ?_
 intro rs_ g_ h_
 obtain ⟨nn, e, q_1, hnn, he, q_2⟩ := h_
 subst q_1
 subst q_2
 cbv
 refine gldAI hA _ hw ?_
 cbv
 refine callI hA (hfin13) ?_
 intro rs_ h_
 obtain ⟨mm, f, q_1, hmm, hf⟩ := h_
 subst q_1
 cbv
 subst hnn hmm he hf
 refine chkI hA (by kernel_rfl) ?_
 cbv
 refine gldI hA _ (hw) ?_
 cbv
 refine gldI hA _ (hw) ?_
 cbv
 refine callHI hA [.v (.int .i64 sz)] (hgs.mono fun rs g ⟨x, q1, q2, q3⟩ => ⟨by rw [q1, q2], q3.symm⟩) ?_
 cbv
 refine callHI hA [.v (.slice bl), .v (.int .i64 be)] (hgr.mono fun rs g ⟨x, y, q1, q2, q3, q4⟩ => ⟨by rw [q1, q2, q3], q4.symm⟩) ?_
 cbv
 refine chkI hA (by kernel_rfl) ?_
 cbv
 refine gldAI hA _ hw ?_
 cbv
 refine gldAI hA _ hw ?_
 cbv
 refine callI hA (hgs13) ?_
 intro rs_ h_
 obtain ⟨s2, q_1, hs2⟩ := h_
 subst q_1
 cbv
 subst hs2
 refine callI hA (hgr13) ?_
 intro rs_ h_
 obtain ⟨b2, f2, q_1, hb2, hf2⟩ := h_
 subst q_1
 cbv
 subst hb2
 refine condF hA (zne_f hA rfl) ?_
 cbv
 refine condF hA (zne_f hA rfl) ?_
 cbv
 refine b2sI hA b2 hbl ?_
 cbv
 refine condF hA (by rw [hA]; simp [std]) ?_
 cbv
 rcases h.i.j with hj | ⟨jp, hj, hne, hjs⟩
 ·subst hj
  refine chkI hA (by kernel_rfl) ?_
  cbv
  refine gldI hA _ (hw) ?_
  cbv
  exact retGI hA rfl [.v (.bool true)] gh (⟨true, rfl, rfl, rfl⟩)
 ·subst hj
  have hlen := gLen (⟨h.i.d, hjs⟩ : JD gh lab p k B jp file n)
  have hthe := gThere (⟨h.i.d, hjs⟩ : JD gh lab p k B jp file n)
  obtain ⟨tb, htb⟩ : ∃ q, q = decide (file ≠ 0) := ⟨_, rfl⟩
  refine chkI hA (by kernel_rfl) ?_
  cbv
  refine gldI hA _ (hw) ?_
  cbv
  refine gldI hA _ (hw) ?_
  cbv
  refine gldI hA _ (hw) ?_
  cbv
  refine callHI hA [.v (.int .i64 n)] (hlen.mono fun rs g ⟨m, q1, q2, q3⟩ => ⟨by rw [q1, q2], q3.symm⟩) ?_
  cbv
  refine condT hA (zeq_t hA rfl) ?_
  cbv
  refine gldI hA _ (hw) ?_
  cbv
  refine gldI hA _ (hw) ?_
  cbv
  refine callHI hA [.v (.bool tb)] (hthe.mono fun rs g ⟨m, q1, q2, q3⟩ => ⟨by rw [q1, show m = tb from by rw [htb]; cases m <;> simp_all], q3.symm⟩) ?_
  cbv
  exact retGI hA rfl [.v (.bool (A.beq tb (A.ine file 0)))] gh (⟨_, rfl, by rw [hA, htb]; by_cases q : file = 0 <;> simp [std, q], rfl⟩)
open Go Go.RowKit
theorem gPlays (gh : GH) (cap : Nat) (hcap : cap < 65536) (acts : List ActM) (l : List V) (hl : l = actsV acts) (ho : ∀ a ∈ acts, ActOk a) : FnG Tryz.prog 3 [.int .u16 (cap : Nat), .slice l] gh fun rs g => ∃ b : Bool, rs = [.v (.bool b)] ∧ b = true := by
 obtain ⟨c, hc⟩ : ∃ c : Int, c = (cap : Nat) := ⟨_, rfl⟩
 rw [← hc]
 have hll : l.length = acts.length := by rw [hl, actsV_len]
 have hcb : 0 ≤ c ∧ c ≤ 65535 := by omega
 have hawk := gAwake18
 have hfew := cFew acts l hl
 refine FnG.of' T_ok M_ok [18] (fn := Tryz.f3) (by kernel_rfl) rfl rfl rfl rfl (Nat.le_of_ble_eq_true rfl) fun A hA => ?_
 cbv
 refine callI hA (hfew) ?_
 intro rs_ h_
 obtain ⟨fw, q_1, hfw⟩ := h_
 subst q_1
 cbv
 refine condI hA (fun h1 => ?_) (fun h1 => ?_)
 ·cbv
  refine callGI hA ((hawk gh)) ?_
  intro rs_ g1 h_
  obtain ⟨b, q_1, hb⟩ := h_
  subst q_1
  cbv
  exact retGI hA rfl [.v (.bool b)] g1 (⟨b, rfl, hb⟩)
 ·have h1 : fw = true := znotF hA h1
  obtain ⟨hlen, hdat⟩ := hfw h1
  have hwc : A.wrap .i64 c = c := by rw [hA]; exact wrap_i64 (by omega) (by omega)
  have hnew := dNew gh (A.wrap .i64 c) (by rw [hwc]; omega) (by rw [hwc]; omega)
  have hnew13 := cNew13 (A.wrap .i64 c)
  have hc0 : 0 ≤ A.wrap .i64 c := by rw [hwc]; omega
  have hc1 : A.wrap .i64 c ≤ 1000000 := by rw [hwc]; omega
  cbv
  refine callGI hA (hnew) ?_
  intro rs_ g1 h_
  obtain ⟨p, lab1, q_1, hp, hnx, hold, hD1⟩ := h_
  subst q_1
  cbv
  refine callI hA (hnew13) ?_
  intro rs_ h_
  obtain ⟨lf, kf, q_1, hlf, hkf⟩ := h_
  subst q_1
  cbv
  refine gbxN hA ?_
  intro g2 wp hwp hg2
  obtain ⟨u2, hS2⟩ := newBox hD1.i.at_.1 hwp hg2
  have W0 : WS g2 lab1 p wp (dkNew (A.wrap .i64 c)) 0 0 .nilp lf kf 0 0 := ⟨⟨hD1.upd u2 (fun _ h => h.elim), hS2, .inl rfl⟩, by rw [hkf hc0]; exact .inl rfl, K13.new _, ⟨hc0, hc1⟩, hlf, i64_0, ⟨Int.le_refl 0, by decide⟩⟩
  have hop := gOpenW W0 (by decide) (by decide)
  cbv
  refine callGI hA (hop) ?_
  intro rs_ g3 h_
  obtain ⟨b, q_1, hb, hws⟩ := h_
  subst q_1
  cbv
  refine condF hA (notI hA hb) ?_
  cbv
  have hws0 := hws
  obtain ⟨lab3, k3, jv3, ln3, r3, f3, n3, W3⟩ := hws0
  refine callGI hA ((gSame W3 (by decide) (by decide))) ?_
  intro rs_ g4 h_
  obtain ⟨b2, q_1, hb2, q_2⟩ := h_
  subst q_1
  subst q_2
  cbv
  refine condF hA (notI hA hb2) ?_
  cbv
  refine loopF hA (ι := Int × GH) (fun q => { n := 46, sl := [(6, .v (.int .i64 q.1)), (5, .v (.gp wp 0)), (1, .v (.slice l))], ob := [(hk, .heap q.2 [18])] }) (fun q => ∃ j : Nat, q.1 = (j : Nat) ∧ j ≤ acts.length ∧ WSs q.2 p wp (2 + 10 * j) (2 + 5000 * j)) (fun q => acts.length - q.1.toNat) (_, _) (weakI rfl ⟨rfl, rfl, rfl, trivial⟩ ⟨rfl, trivial⟩) ⟨0, rfl, Nat.zero_le _, hws⟩ ?_
  rintro ⟨i, g5⟩ ⟨j, hi, hj, hw5⟩
  dsimp only at hi hw5
  cbv
  refine condI hA (fun hcc => ?_) (fun hcc => ?_)
  ·have hjl := ltL hA (natEq hi) hll hcc
   obtain ⟨lab5, k5, jv5, ln5, r5, f5, n5, W5⟩ := hw5
   cbv
   refine getAct hA hl (natEq hi) hjl ?_
   rintro a pl dl ha hpl hdl
   have hact := gActW W5 (by omega) (by omega) a (by rw [ha]; exact ho _ (List.getElem_mem hjl)) (by rw [ha]; exact hdat _ (List.getElem_mem hjl)) pl dl hpl hdl
   cbv
   refine callGI hA (hact) ?_
   intro rs_ g6 h_
   obtain ⟨b3, q_1, hb3, hw6⟩ := h_
   subst q_1
   cbv
   refine condF hA (notI hA hb3) ?_
   cbv
   have hw60 := hw6
   obtain ⟨lab6, k6, jv6, ln6, r6, f6, n6, W6⟩ := hw60
   refine callGI hA ((gSame W6 (by omega) (by omega))) ?_
   intro rs_ g7 h_
   obtain ⟨b4, q_1, hb4, q_2⟩ := h_
   subst q_1
   subst q_2
   cbv
   refine condF hA (notI hA hb4) ?_
   cbv
   exact ⟨(_, _), weakI rfl ⟨rfl, rfl, rfl, trivial⟩ ⟨rfl, trivial⟩, ⟨j + 1, upI hA (natEq hi) (by omega), hjl, hw6.mono (by omega) (by omega)⟩, upM hA (natEq hi) hjl (by omega)⟩
  ·cbv
   refine callGI hA ((hawk g5)) ?_
   intro rs_ g6 h_
   obtain ⟨b3, q_1, hb3⟩ := h_
   subst q_1
   cbv
   exact retGI hA rfl [.v (.bool b3)] g6 (⟨b3, rfl, hb3⟩)
theorem cPlays (cap : Nat) (hcap : cap < 65536) (acts : List ActM) (l : List V) (hl : l = actsV acts) (ho : ∀ a ∈ acts, ActOk a) : CallR Tryz.prog 3 [.int .u16 (cap : Nat), .slice l] fun rs => rs = [.v (.bool true)] :=
 .of _ rfl (.ofG (fun r hr => by rw [List.mem_singleton.1 hr]; exact NoG.bool true) fun n => (gPlays _ cap hcap acts l hl ho).mono fun rs g ⟨b, h1, h2⟩ => by rw [h1, h2])
end Go.Proofs.YthioccbgjkbmdaaGreat.AM
/-
 THE LAW JournalPlays HOLDS: Any records, crashes, failures and bytes laid behind leave the journal, the disk and the ops that the document says. No condition.
-/
namespace Go.Proofs.YthioccbgjkbmdaaGreat.AM
open Go Go.RowKit Go.ChangeShapes Go.WideShapes Go.ChangeAt
theorem progOwn : ownKnob Tryz.prog.godebug = none := by kernel_rfl
theorem progLaid : laidOutB Tryz.prog = true := by kernel_rfl
theorem argsRead : ([22, 23] : List Nat).all (fun t => Tryz.prog.readableRec t && Nat.blt t Tryz.prog.types.size) = true := by kernel_rfl
theorem journalPlays_lifted (os : Os) (started : os.Started) (H : Type) (enc : TypeId × Value → H) :
  ReturnsInHanded {} Tryz.checked os 3 .any (Rows.journalPlaysSpec.pre6 enc Tryz.prog Tryz.f3 Rows.journalPlaysRow.domain false) (Rows.journalPlaysSpec.post enc Tryz.prog Tryz.f3 false true false false) := by
 refine returnsInHanded_of_change_sized (C := Tryz.checked) progOwn started (by kernel_rfl) Tryz.func3
  (ChangeSpec.witness6 (enc := enc) (C := Tryz.checked) false ⟨#[], #[.int .u16 0, .slice none 0 0], []⟩ 8 (by kernel_rfl) (by kernel_rfl) (by kernel_rfl) (by kernel_rfl)) ?_
 intro W base args ds gs before hval hW hcnd hwt _
 refine calls_row T_ok (ts := [22, 23]) (tb := 4) (k := 8) (by rw [Tryz.params3]) (by kernel_rfl) Tryz.underlying4 (by decide) (fun t ht => ?_) progLaid rfl (fun ds hds => ?_) (fun xs hx hty => ?_) hval hW hwt
 ·have e := List.all_eq_true.1 argsRead t (by simpa using ht)
  rw [Bool.and_eq_true] at e
  exact ⟨e.1, Nat.le_of_ble_eq_true e.2⟩
 ·match ds, hds with
  | [d0, d1], _ => rfl
 ·match xs, hx, hty with
  | [x0, x1], _, hty =>
   obtain ⟨n0, rfl, h0⟩ := tv_u16 (k := 7) rfl (hty 0 (by simp) (by simp))
   obtain ⟨r1, rfl, g1, h1⟩ := tv_acts (k := 3) (hty 1 (by simp) (by simp))
   obtain ⟨rs, q1, rfl⟩ := cPlays n0 h0 r1 _ rfl h1
   exact .of_R q1
theorem journalPlays_holds : Rows.JournalPlaysSaid :=
 OpenClaim.holds_of_wide 3 Tryz.f3 rfl rfl rfl rfl rfl rfl rfl ⟨rfl, rfl, rfl, rfl, rfl⟩ rfl rfl rfl rfl rfl (by kernel_rfl) Tryz.func3 (by kernel_rfl)
  (of_decide_eq_true (by kernel_rfl)) (by unfold Func.isWrapper; rw [if_neg (by decide +kernel)]; exact ⟨rfl, rfl⟩)
  (fun os started H enc _ => journalPlays_lifted os started H enc)
end Go.Proofs.YthioccbgjkbmdaaGreat.AM
