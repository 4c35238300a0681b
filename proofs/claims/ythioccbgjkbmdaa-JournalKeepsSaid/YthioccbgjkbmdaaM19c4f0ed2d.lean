/-
  Contracts: how many parts a node has; what a crash leaves of it.
-/
import Derived.Test.YthioccbgjkbmdaaM181f1403d3
set_option linter.unusedVariables false
set_option linter.unusedSimpArgs false
namespace Go.Proofs.Ythioccbgjkbmdaa.AM
open Go Go.RowKit
set_option maxRecDepth 100000
set_option maxHeartbeats 4000000

def pSum (l : List Stp) (j : Nat) : Nat := ((l.take j).map Stp.parts).sum
theorem pSum_succ {l : List Stp} {j : Nat} {s : Stp} (h : l[j]? = some s) : pSum l (j + 1) = pSum l j + s.parts := by
  unfold pSum
  obtain ⟨h1, rfl⟩ := List.getElem?_eq_some_iff.1 h
  rw [List.take_succ_eq_append_getElem h1, List.map_append, List.sum_append]; simp
theorem pSum_mono {l : List Stp} {j k : Nat} (h : j ≤ k) : pSum l j ≤ pSum l k := by
  induction k with
  | zero => rw [show j = 0 by omega]; exact Nat.le_refl _
  | succ k ih =>
    rcases Nat.lt_or_ge j (k + 1) with q | q
    · refine Nat.le_trans (ih (by omega)) ?_
      cases hk : l[k]? with
      | some s => rw [pSum_succ hk]; omega
      | none =>
        have := List.getElem?_eq_none_iff.1 hk
        unfold pSum; rw [List.take_of_length_le this, List.take_of_length_le (by omega)]; exact Nat.le_refl _
    · rw [show j = k + 1 by omega]; exact Nat.le_refl _
theorem pSum_all (nd : Nd) : pSum nd.loose nd.loose.length = nd.parts := by unfold pSum Nd.parts; rw [List.take_length]
theorem pSum_le (nd : Nd) (j : Nat) : pSum nd.loose j ≤ nd.parts := by
  rw [← pSum_all]
  rcases Nat.le_total j nd.loose.length with h | h
  · exact pSum_mono h
  · unfold pSum; rw [List.take_of_length_le h, List.take_length]; exact Nat.le_refl _
theorem w64_add {a b : Int} {j k : Nat} (ha : a = (j : Nat)) (hb : b = (k : Nat)) (h : j + k ≤ 140737488355328) : w64 (a + b) = ((j + k : Nat) : Int) := by
  rw [ha, hb, w64_id (by omega)]; omega
theorem shapeX (s : Stp) : (∃ f caps, encC s = .clo f caps) ∨ encC s = .nilfn := by
  cases s with
  | app a => exact .inl ⟨_, _, rfl⟩
  | cut n => exact .inl ⟨_, _, rfl⟩
  | link s i => exact .inl ⟨_, _, rfl⟩
  | unl s => exact .inl ⟨_, _, rfl⟩
  | ren f t i => exact .inr rfl
theorem gParts {gh : GH} {lab : Lab} {i id : Nat} {nd : Nd} (h : NodeAt gh lab i id nd) (hl : nd.loose.length ≤ 1000000000) (hp : nd.parts ≤ 140737488355328) : FnG Try.prog 55 [.gp id 0] gh fun rs g => ∃ c : Int, rs = [.v (.int .i64 c)] ∧ c = (nd.parts : Nat) ∧ gh = g := by
  obtain ⟨vb, ve, wb, we, vl, hbox, hli, hvb, hve, hwb, hwe, hvl⟩ := h
  obtain ⟨b, hb⟩ : ∃ b, b = nd.dir := ⟨_, rfl⟩
  rw [← hb] at hbox
  rcases hvl with ⟨rfl, h0⟩ | ⟨lid, rfl, hll, hlg⟩
  · have hz : nd.parts = 0 := by unfold Nd.parts; rw [h0]; rfl
    refine FnG.of' T_ok M_ok [] (fn := Try.f55) (by kernel_rfl) rfl rfl rfl rfl (Nat.le_of_ble_eq_true rfl) fun A hA => ?_
    cbv
    refine gldI hA _ (hbox) ?_
    cbv
    refine loopF hA (ι := Unit) (fun p => { n := 21, sl := [(3, .v (.int .i64 0)), (10, .v (.int .i64 0)), (11, .v (.int .i64 0))], ob := [(hk, .heap gh [])] }) (fun _ => True) (fun _ => 0) () (weakI rfl ⟨rfl, rfl, rfl, trivial⟩ ⟨rfl, trivial⟩) trivial ?_
    rintro _ _
    cbv
    refine condI hA (fun h => ?_) (fun h => ?_)
    · exact absurd (zltT hA h) (by decide)
    · cbv
      exact retGI hA rfl [.v (.int .i64 0)] gh (⟨_, rfl, by rw [hz]; rfl, rfl⟩) (by first | exact ⟨rfl, trivial⟩ | exact ⟨rfl, rfl, trivial⟩ | exact ⟨rfl, rfl, rfl, trivial⟩ | trivial)
  · obtain ⟨n, hn⟩ : ∃ n : Int, n = (nd.loose.length : Nat) := ⟨_, rfl⟩
    rw [← hn] at hbox
    refine FnG.of' T_ok M_ok [] (fn := Try.f55) (by kernel_rfl) rfl rfl rfl rfl (Nat.le_of_ble_eq_true rfl) fun A hA => ?_
    cbv
    refine gldI hA _ (hbox) ?_
    cbv
    refine glenI hA ?_
    cbv
    refine loopF hA (ι := Int × Int) (fun p => { n := 21, sl := [(3, .v (.int .i64 p.2)), (9, .v (.gs lid n)), (10, .v (.int .i64 n)), (11, .v (.int .i64 p.1))], ob := [(hk, .heap gh [])] }) (fun p => ∃ j : Nat, p.1 = j ∧ j ≤ nd.loose.length ∧ p.2 = (pSum nd.loose j : Nat)) (fun p => nd.loose.length - p.1.toNat) (_, _) (weakI rfl ⟨rfl, rfl, rfl, rfl, trivial⟩ ⟨rfl, trivial⟩) ⟨0, rfl, Nat.zero_le _, rfl⟩ ?_
    rintro ⟨m, a⟩ ⟨j, hm, hj, ha⟩
    dsimp only at hm ha
    cbv
    replace hm := natEq hm
    replace ha := natEq ha
    replace hn := natEq hn
    refine condI hA (fun h => ?_) (fun h => ?_)
    · have h := zltT hA h
      have f1 : 0 ≤ m ∧ m < n := by rw [hm]; omega
      have f2 : j < nd.loose.length := by omega
      obtain ⟨s, hs⟩ : ∃ s, nd.loose[j]? = some s := ⟨_, List.getElem?_eq_getElem f2⟩
      have f3 : (nd.loose.map encS)[m.toNat]? = some (encS s) := by rw [hm, List.getElem?_map]; simp [hs]
      have hsum := pSum_succ hs
      have hle := pSum_le nd (j + 1)
      obtain ⟨pk, hpk⟩ : ∃ pk : Int, pk = (s.parts : Nat) := ⟨_, rfl⟩
      have f4 : w64 (a + pk) = (pSum nd.loose (j + 1) : Nat) := by rw [w64_add ha hpk (by omega), hsum]
      have f5 : w64 (m + 1) = ((j + 1 : Nat) : Int) := w64_add hm rfl (by omega)
      have hen : encS s = .agg [.int .i64 pk, encC s] := by rw [hpk]; rfl
      rw [hen] at f3
      obtain ⟨x, hx⟩ : ∃ x, x = encC s := ⟨_, rfl⟩
      rw [← hx] at f3
      have hstep : nd.loose.length - (j + 1) < nd.loose.length - j := by omega
      have hmu : (w64 (m + 1)).toNat = j + 1 := by rw [f5]; rfl
      have hmm : m.toNat = j := by rw [hm]; rfl
      cbv
      refine gixN hA rfl f1 ?_
      cbv
      rcases shapeX s with ⟨f, caps, hsh⟩ | hsh
      all_goals rw [← hx] at hsh
      all_goals subst hsh
      all_goals refine gldRAN hA rfl _ (.inr (.inr hlg)) f3 ?_
      all_goals cbv
      all_goals refine ⟨(_, _), weakI rfl ⟨rfl, rfl, rfl, rfl, trivial⟩ ⟨rfl, trivial⟩, ⟨j + 1, ?_, f2, ?_⟩, ?_⟩
      all_goals first
        | exact (zadd hA m 1).trans f5
        | exact (zadd hA a pk).trans f4
        | (change nd.loose.length - (A.wrap .i64 (A.add m 1)).toNat < nd.loose.length - m.toNat
           rw [zadd hA, hmu, hmm]; exact hstep)
    · have h := zltF hA h
      have hjn : j = nd.loose.length := by omega
      cbv
      exact retGI hA rfl [.v (.int .i64 a)] gh (⟨_, rfl, by rw [ha, hjn, pSum_all], rfl⟩) (by first | exact ⟨rfl, trivial⟩ | exact ⟨rfl, rfl, trivial⟩ | exact ⟨rfl, rfl, rfl, trivial⟩ | trivial)
/-- What is loose can be done, one behind the other. -/
def LsOk (dir : Bool) : Ct → List Stp → Prop
  | _, [] => True
  | c, s :: r => StOk dir c s.parts s ∧ 1 ≤ s.parts ∧ LsOk dir (s.run c s.parts) r
theorem StOk.less {dir : Bool} {c : Ct} {k : Nat} {s : Stp} (h : StOk dir c s.parts s) (h1 : 1 ≤ k) (h2 : k ≤ s.parts) : StOk dir c k s := by
  cases s with
  | app a => obtain ⟨q1, q2, q3, q4⟩ := h; exact ⟨q1, h1, h2, by have h2 : k ≤ a.length := h2; have : Stp.parts (.app a) = a.length := rfl; omega⟩
  | cut n => exact h
  | link s i => exact h
  | unl s => exact h
  | ren f t i => exact h
theorem runs_zero (c : Ct) (l : List Stp) : runs c l 0 = c := by cases l <;> simp [runs]
theorem cShape {dir : Bool} {c : Ct} {k : Nat} {s : Stp} (h : StOk dir c k s) : (∃ f y, encC s = .clo f [y]) ∨ ∃ f y z, encC s = .clo f [y, z] := shapeC s h
theorem gCloneN {gh : GH} {lab : Lab} {r r' : Nat × Nat} {vb ve : V} {b : Bs} {en : List (Bs × Nat)} {dir : Bool} (hd : Dom gh lab) (hb : ByV gh lab r vb b) (he : MpV gh lab r' dir ve en) (hl : b.length ≤ 140737488355328) : FnG Try.prog 81 [.agg [vb, ve]] gh fun rs g => ∃ (x : Nat) (n : Int) (we : V), rs = [.v (.agg [.gs x n, we])] ∧ x = gh.next ∧ Copied gh g dir b en n we :=
  (gClone hd hb he hl).mono fun rs g ⟨n, we, h1, h2⟩ => ⟨_, n, we, h1, rfl, h2⟩
theorem galN {A : Prim} {R : List (Nat × AObj) → List D → Prop} (hA : A = std Try.prog R) {o : Oper} {t : Nat} {gh : GH} {l : List V} {K : V → GH → Prop} (hK : ∀ g' x, x = gh.next → g' = gh.new (.box l) → K (.gp x 0) g') (ho : o.op = .alloc t := by rfl) (hkn : known (tyOf t).k = true := by rfl) (hz : toVas [] (tyOf t).zero = some l := by rfl) : A.gop o [] gh K := galI hA (fun g' h => hK g' _ rfl h) ho hkn hz
theorem Upd.new {gh g : GH} {lab lab' : Lab} {T : Nat × Nat → Prop} {X : Nat → Prop} (u : Upd gh g lab lab' T X) (hX : ∀ x, X x → gh.next ≤ x) : Upd gh g lab lab' T (fun _ => False) :=
  ⟨u.next, u.old, u.dom, fun x hx _ t => u.get x hx (fun q => absurd (hX x q) (by omega)) t⟩
theorem lsOk_at {dir : Bool} : ∀ {l : List Stp} {c : Ct}, LsOk dir c l → ∀ (j : Nat) (s : Stp), l[j]? = some s → ∃ c', StOk dir c' s.parts s ∧ 1 ≤ s.parts
  | [], _, _, j, s, h => by simp at h
  | x :: r, c, h, 0, s, e => by simp at e; subst e; exact ⟨c, h.1, h.2.1⟩
  | x :: r, c, h, j + 1, s, e => lsOk_at h.2.2 j s (by simpa using e)
theorem drop_cons {l : List Stp} {j : Nat} {s : Stp} (h : l[j]? = some s) : l.drop j = s :: l.drop (j + 1) := by
  obtain ⟨h1, rfl⟩ := List.getElem?_eq_some_iff.1 h
  exact List.drop_eq_getElem_cons h1
/-- Where the loop of a crash stands. -/
structure CrIn (gh : GH) (lab : Lab) (i cid : Nat) (nd : Nd) (k : Nat) (m q : Int) (g : GH) (j : Nat) (c : Ct) (lab' : Lab) (vb ve : V) : Prop where
  m_ : m = (j : Nat)
  j_ : j ≤ nd.loose.length
  q1 : -140737488355328 ≤ q
  q2 : q ≤ 140737488355328
  run : runs c (nd.loose.drop j) q.toNat = runs nd.safe nd.loose k
  ok : 0 < q → LsOk nd.dir c (nd.loose.drop j)
  u : Upd gh g lab lab' (fun r => r = (i, 3) ∨ r = (i, 4)) (fun x => x = cid)
  box : g.get cid = some (.box [vb, ve])
  b : ByV g lab' (i, 3) vb c.b
  e : MpV g lab' (i, 4) nd.dir ve c.en
  lo : gh.next ≤ cid
  hi : cid < g.next
  no : lab' cid = none
theorem CrIn.at_ {gh : GH} {lab : Lab} {i cid : Nat} {nd : Nd} {k : Nat} {m q : Int} {g : GH} {j : Nat} {c : Ct} {lab' : Lab} {vb ve : V} (h : CrIn gh lab i cid nd k m q g j c lab' vb ve) : CtAt g lab' (i, 3) (i, 4) nd.dir cid 0 [vb, ve] c :=
  ⟨h.u.dom, h.hi, h.box, by rw [h.no]; exact ⟨by simp, by simp⟩, by simp, vb, ve, rfl, rfl, h.b, h.e⟩
theorem CrIn.step {gh : GH} {lab : Lab} {i cid : Nat} {nd : Nd} {k : Nat} {m q : Int} {g : GH} {j : Nat} {c : Ct} {lab' : Lab} {vb ve : V} (h : CrIn gh lab i cid nd k m q g j c lab' vb ve) (hl : nd.loose.length ≤ 1000000000) (hp : nd.parts ≤ 140737488355328) {s : Stp} (hs : nd.loose[j]? = some s) (h0 : ¬ q ≤ 0) {g' : GH} (hd : Done g g' lab' (i, 3) (i, 4) nd.dir cid 0 [vb, ve] (s.run c (min q.toNat s.parts))) {m' q' : Int} (hm' : m' = w64 (m + 1)) (hq' : q' = w64 (q - (s.parts : Nat))) :
    ∃ j c lab' vb ve, CrIn gh lab i cid nd k m' q' g' j c lab' vb ve := by
  obtain ⟨lab2, vb2, ve2, u2, e1, e2, e3⟩ := hd
  have hj := (List.getElem?_eq_some_iff.1 hs).1
  have hpa := pSum_le nd (j + 1)
  rw [pSum_succ hs] at hpa
  have hdr := drop_cons hs
  have h1 := h.q1
  have h2 := h.q2
  have hq2 : q' = q - (s.parts : Nat) := by rw [hq', w64_id (by omega)]
  refine ⟨j + 1, _, lab2, vb2, ve2, by rw [hm']; exact w64_add h.m_ rfl (by omega), hj, by omega, by omega, ?_, fun hq0 => ?_, (h.u.trans (u2.weak (fun _ t => t) (fun x t => .inl t))), e1, e2, e3, h.lo, Nat.lt_of_lt_of_le h.hi u2.next, (u2.old cid h.hi).trans h.no⟩
  · rw [← h.run, hdr]
    rw [show runs c (s :: nd.loose.drop (j + 1)) q.toNat = runs (s.run c (min q.toNat s.parts)) (nd.loose.drop (j + 1)) (q.toNat - s.parts) from by rw [runs, if_neg (by omega)]]
    congr 1; omega
  · have q3 := h.ok (by omega)
    rw [hdr] at q3
    rw [show min q.toNat s.parts = s.parts by omega]
    exact q3.2.2
theorem CrIn.done {gh : GH} {lab : Lab} {i cid : Nat} {nd : Nd} {k : Nat} {m q : Int} {g : GH} {j : Nat} {c : Ct} {lab' : Lab} {vb ve : V} (h : CrIn gh lab i cid nd k m q g j c lab' vb ve) (h0 : q ≤ 0 ∨ j = nd.loose.length) : c = runs nd.safe nd.loose k := by
  rw [← h.run]
  rcases h0 with h0 | h0
  · rw [show q.toNat = 0 by omega, runs_zero]
  · rw [h0, List.drop_length]; rfl
theorem gCrashN {gh : GH} {lab : Lab} {i id : Nat} {nd : Nd} (hd : Dom gh lab) (h : NodeAt gh lab i id nd) (hok : LsOk nd.dir nd.safe nd.loose) (hl : nd.loose.length ≤ 1000000000) (hp : nd.parts ≤ 140737488355328) (hs : nd.safe.b.length ≤ 140737488355328) (k : Nat) (hkp : k ≤ nd.parts) (kk : Int) (hkk : kk = (k : Nat)) (hfin : (runs nd.safe nd.loose k).b.length ≤ 140737488355328) : FnG Try.prog 56 [.gp id 0, .int .i64 kk] gh fun rs g => rs = [] ∧ ∃ lab', Upd gh g lab lab' (NdT i) (fun _ => False) ∧ NodeAt g lab' i id (nd.crash k) := by
  obtain ⟨vb, ve, wb, we, vl, hbox, hli, hvb, hve, hwb, hwe, hvl⟩ := h
  have hlt := hd.lt hli
  obtain ⟨b, hb⟩ : ∃ b, b = nd.dir := ⟨_, rfl⟩
  rw [← hb] at hbox
  have hcl := gCloneN hd hvb hve hs
  have fin : ∀ (g5 g6 : GH) (m q : Int) (j : Nat) (lab5 : Lab) (vb' ve' : V) (c' : Ct) (cid : Nat), CrIn gh lab i cid nd k m q g5 j c' lab5 vb' ve' → (q ≤ 0 ∨ j = nd.loose.length) → g6 = g5.set id (.box [.bool b, vb, ve, vb', ve', vl]) →
      FnG Try.prog 60 [.gp id 0] g6 fun rs g => rs = [] ∧ ∃ lab', Upd gh g lab lab' (NdT i) (fun _ => False) ∧ NodeAt g lab' i id (nd.crash k) := by
    intro g5 g6 m q j lab5 vb' ve' c' cid hI h0 hg6
    have hc := hI.done h0
    have hli5 : lab5 id = some (i, 0) := (hI.u.old id hlt).trans hli
    have u6 := upd_set hI.u.dom (.box [.bool b, vb, ve, vb', ve', vl]) hli5
    rw [← hg6] at u6
    have h5 : Upd gh g5 lab lab5 (NdT i) (fun _ => False) := (hI.u.new (fun x hx => hx ▸ hI.lo)).weak (fun r h => by rcases h with rfl | rfl <;> exact ⟨rfl, Nat.le_of_ble_eq_true rfl⟩) (fun _ h => h.elim)
    have b6 := hI.b.upd hI.u.dom u6 (by simp) (fun _ h => h.elim)
    have e6 := hI.e.upd hI.u.dom u6 (by simp) (fun _ h => h.elim)
    refine (gSyncG u6.dom (dir := nd.dir) (c := c') (vb := vb) (ve := ve) (vl := vl) (by rw [hg6, hb]; simp) hli5 b6 e6 (by rw [hc]; exact hfin)).mono fun rs g ⟨r1, lab', u7, hN⟩ => ⟨r1, lab', (h5.trans (u6.weak (fun r h => by rw [h]; exact ⟨rfl, Nat.zero_le _⟩) (fun _ h => h.elim))).trans (u7.weak (fun r h => by rw [h]; exact ⟨rfl, Nat.le_of_ble_eq_true rfl⟩) (fun _ h => h.elim)), ?_⟩
    rw [hc] at hN; exact hN
  have start : ∀ (g1 g2 g3 : GH) (n : Int) (x cid : Nat) (me : V), Copied gh g1 nd.dir nd.safe.b nd.safe.en n me → x = gh.next → cid = g1.next → g2 = g1.new (.box [.nils, .nilmap]) → g3 = g2.set cid (.box [.gs x n, me]) → ∃ lab', CrIn gh lab i cid nd k 0 kk g3 0 nd.safe lab' (.gs x n) me := by
    intro g1 g2 g3 n x cid me hcp hx hc hg2 hg3
    subst hx hc
    obtain ⟨lab1, u, q1, q2⟩ := hcp.by hd (i, 3) (i, 4)
    have hno : lab1 g1.next = none := u.dom _ (Nat.le_refl _)
    have u2 : Upd g1 g3 lab1 lab1 (fun _ => False) (fun _ => False) := Upd.mk0 u.dom (by rw [hg3, hg2]; simp) (fun x hx _ _ => by rw [hg3, hg2]; simp; rw [if_neg (by omega), if_neg (by omega)])
    exact ⟨lab1, rfl, Nat.zero_le _, by omega, by omega, by rw [hkk]; rfl, fun _ => hok, (u.trans u2).weak (fun _ h => h.elim) (fun _ h => h.elim), by rw [hg3]; simp, q1.upd u.dom u2 (fun h => h) (fun _ h => h.elim), q2.upd u.dom u2 (fun h => h) (fun _ h => h.elim), u.next, by rw [hg3, hg2]; simp, hno⟩
  have boxAt : ∀ (g5 : GH) (m q : Int) (j : Nat) (lab5 : Lab) (vb' ve' : V) (c' : Ct) (cid : Nat), CrIn gh lab i cid nd k m q g5 j c' lab5 vb' ve' → g5.get id = some (.box [.bool b, vb, ve, wb, we, vl]) := fun g5 m q j lab5 vb' ve' c' cid hI => (hI.u.get id hlt (fun e => absurd hI.lo (by omega)) (fun r e => by rw [hli] at e; cases e; simp)).trans hbox
  rcases hvl with ⟨rfl, h0⟩ | ⟨lid, rfl, hll, hlg⟩
  · refine FnG.of' T_ok M_ok [4] (fn := Try.f56) (by kernel_rfl) rfl rfl rfl rfl (Nat.le_of_ble_eq_true rfl) fun A hA => ?_
    cbv
    refine gldAI hA _ hbox ?_
    cbv
    refine callGI hA (hcl) ?_
    intro rs_ g1 h_
    obtain ⟨x, n, me, q_1, hx, hcp⟩ := h_
    subst q_1
    cbv
    refine galN hA ?_
    intro g2 cid hcid hg2
    cbv
    refine gstI hA _ (show g2.get cid = some (.box [.nils, .nilmap]) by rw [hg2, hcid]; simp) ?_
    intro g3 hg3
    obtain ⟨lab', hI⟩ := start g1 g2 g3 n x cid me hcp hx hcid hg2 hg3
    have hb3 := boxAt _ _ _ _ _ _ _ _ _ hI
    cbv
    refine gldI hA _ (hb3) ?_
    cbv
    refine loopF hA (ι := Unit) (fun p => { n := 41, sl := [(0, .v (.gp id 0)), (4, .v (.gp cid 0)), (16, .v (.int .i64 0)), (17, .v (.int .i64 0))], ob := [(hk, .heap g3 [4])] }) (fun _ => True) (fun _ => 0) () (weakI rfl ⟨rfl, rfl, rfl, rfl, trivial⟩ ⟨rfl, trivial⟩) trivial ?_
    rintro _ _
    cbv
    refine condI hA (fun h => ?_) (fun h => ?_)
    · exact absurd (zltT hA h) (by decide)
    · cbv
      refine gldAI hA _ hI.box ?_
      cbv
      refine gstI hA _ (hb3) ?_
      rintro g6 hg6
      cbv
      refine callGI hA (fin _ _ _ _ _ _ _ _ _ _ hI (.inr (by rw [h0]; rfl)) hg6) ?_
      intro rs_ g7 h_
      obtain ⟨q_1, hpost⟩ := h_
      subst q_1
      cbv
      exact retGI hA rfl [] g7 ⟨rfl, hpost⟩ trivial
  · obtain ⟨n0, hn0⟩ : ∃ n : Int, n = (nd.loose.length : Nat) := ⟨_, rfl⟩
    rw [← hn0] at hbox boxAt fin
    refine FnG.of' T_ok M_ok [4] (fn := Try.f56) (by kernel_rfl) rfl rfl rfl rfl (Nat.le_of_ble_eq_true rfl) fun A hA => ?_
    cbv
    refine gldAI hA _ hbox ?_
    cbv
    refine callGI hA (hcl) ?_
    intro rs_ g1 h_
    obtain ⟨x, n, me, q_1, hx, hcp⟩ := h_
    subst q_1
    cbv
    refine galN hA ?_
    intro g2 cid hcid hg2
    cbv
    refine gstI hA _ (show g2.get cid = some (.box [.nils, .nilmap]) by rw [hg2, hcid]; simp) ?_
    intro g3 hg3
    obtain ⟨lab3, hI3⟩ := start g1 g2 g3 n x cid me hcp hx hcid hg2 hg3
    have hb3 := boxAt _ _ _ _ _ _ _ _ _ hI3
    cbv
    refine gldI hA _ (hb3) ?_
    cbv
    refine glenI hA ?_
    cbv
    refine loopF hA (ι := Int × Int × GH) (fun p => { n := 41, sl := [(0, .v (.gp id 0)), (1, .v (.int .i64 p.2.1)), (4, .v (.gp cid 0)), (15, .v (.gs lid n0)), (16, .v (.int .i64 n0)), (17, .v (.int .i64 p.1))], ob := [(hk, .heap p.2.2 [4])] }) (fun p => ∃ j c lab' vb ve, CrIn gh lab i cid nd k p.1 p.2.1 p.2.2 j c lab' vb ve) (fun p => nd.loose.length - p.1.toNat) (_, _, _) (weakI rfl ⟨rfl, rfl, rfl, rfl, rfl, rfl, trivial⟩ ⟨rfl, trivial⟩) ⟨_, _, _, _, _, hI3⟩ ?_
    rintro ⟨m, q, g⟩ ⟨j, c, lab', vb', ve', hI⟩
    dsimp only at hI
    have hm := hI.m_
    have hbg := boxAt _ _ _ _ _ _ _ _ _ hI
    cbv
    replace hn0 := natEq hn0
    replace hm := natEq hm
    refine condI hA (fun h => ?_) (fun h => ?_)
    · have h := zltT hA h
      have f1 : 0 ≤ m ∧ m < n0 := by omega
      have f2 : j < nd.loose.length := by omega
      obtain ⟨s, hs⟩ : ∃ s, nd.loose[j]? = some s := ⟨_, List.getElem?_eq_getElem f2⟩
      have f3 : (nd.loose.map encS)[m.toNat]? = some (encS s) := by rw [hm, List.getElem?_map]; simp [hs]
      obtain ⟨pk, hpk⟩ : ∃ pk : Int, pk = (s.parts : Nat) := ⟨_, rfl⟩
      rw [show encS s = .agg [.int .i64 pk, encC s] by rw [hpk]; rfl] at f3
      obtain ⟨c0, hok0, hp1⟩ := lsOk_at hok j s hs
      have hlg1 : g.get lid = some (.arow 2 (nd.loose.map encS)) := (hI.u.get lid (hd.lt hll) (fun e => absurd hI.lo (by have := hd.lt hll; omega)) (fun r e => by rw [hll] at e; cases e; simp)).trans hlg
      have hdo : ¬ q ≤ 0 → FnG Try.prog (fnOf s) (.gp cid 0 :: .int .i64 (A.imin q pk) :: capsOf s) g fun rs g' => rs = [] ∧ Done g g' lab' (i, 3) (i, 4) nd.dir cid 0 [vb', ve'] (s.run c (min q.toNat s.parts)) := fun h0 => by
        have hcok := hI.ok (by omega)
        rw [drop_cons hs] at hcok
        refine gDo' hI.at_ s _ (hcok.1.less (by omega) (by omega)) _ ?_
        rw [hA, hpk]
        change (if ((s.parts : Nat) : Int) < q then ((s.parts : Nat) : Int) else q) = _
        split <;> omega
      have hstep : nd.loose.length - (w64 (m + 1)).toNat < nd.loose.length - m.toNat := by rw [show w64 (m + 1) = ((j + 1 : Nat) : Int) from w64_add hm rfl (by omega)]; omega
      cbv
      refine gixN hA rfl f1 ?_
      cbv
      rcases cShape hok0 with ⟨f, y, hsh⟩ | ⟨f, y, z, hsh⟩
      all_goals (
        obtain ⟨q1, q2⟩ := fn_of hsh
        rw [q1, q2] at hdo
        rw [hsh] at f3
        refine gldRAN hA rfl _ (.inr (.inr hlg1)) f3 ?_
        cbv
        refine condI hA (fun h2 => ?_) (fun h2 => ?_)
        skip)
      · cbv
        refine gldAI hA _ hI.box ?_
        cbv
        refine gstI hA _ (hbg) ?_
        rintro g6 hg6
        cbv
        refine callGI hA (fin _ _ _ _ _ _ _ _ _ _ hI (.inl (zleT hA h2)) hg6) ?_
        intro rs_ g7 h_
        obtain ⟨q_1, hpost⟩ := h_
        subst q_1
        cbv
        exact retGI hA rfl [] g7 ⟨rfl, hpost⟩ trivial
      · have h2 := zleF hA h2
        have hq : w64 (q - pk) = w64 (q - (s.parts : Nat)) := by rw [hpk]
        cbv
        refine callGI hA (hdo h2) ?_
        intro rs_ g4 h_
        obtain ⟨q_1, hD⟩ := h_
        subst q_1
        cbv
        refine ⟨(_, _, _), weakI rfl ⟨rfl, rfl, rfl, rfl, rfl, rfl, trivial⟩ ⟨rfl, trivial⟩, hI.step hl hp hs h2 hD (zadd hA m 1) ((zsub hA q pk).trans hq), ?_⟩
        change nd.loose.length - (A.wrap .i64 (A.add m 1)).toNat < nd.loose.length - m.toNat
        rw [zadd hA]; exact hstep
      · cbv
        refine gldAI hA _ hI.box ?_
        cbv
        refine gstI hA _ (hbg) ?_
        rintro g6 hg6
        cbv
        refine callGI hA (fin _ _ _ _ _ _ _ _ _ _ hI (.inl (zleT hA h2)) hg6) ?_
        intro rs_ g7 h_
        obtain ⟨q_1, hpost⟩ := h_
        subst q_1
        cbv
        exact retGI hA rfl [] g7 ⟨rfl, hpost⟩ trivial
      · have h2 := zleF hA h2
        have hq : w64 (q - pk) = w64 (q - (s.parts : Nat)) := by rw [hpk]
        cbv
        refine callGI hA (hdo h2) ?_
        intro rs_ g4 h_
        obtain ⟨q_1, hD⟩ := h_
        subst q_1
        cbv
        refine ⟨(_, _, _), weakI rfl ⟨rfl, rfl, rfl, rfl, rfl, rfl, trivial⟩ ⟨rfl, trivial⟩, hI.step hl hp hs h2 hD (zadd hA m 1) ((zsub hA q pk).trans hq), ?_⟩
        change nd.loose.length - (A.wrap .i64 (A.add m 1)).toNat < nd.loose.length - m.toNat
        rw [zadd hA]; exact hstep
    · have h := zltF hA h
      have hjn : j = nd.loose.length := by have := hI.j_; omega
      cbv
      refine gldAI hA _ hI.box ?_
      cbv
      refine gstI hA _ (hbg) ?_
      rintro g6 hg6
      cbv
      refine callGI hA (fin _ _ _ _ _ _ _ _ _ _ hI (.inr hjn) hg6) ?_
      intro rs_ g7 h_
      obtain ⟨q_1, hpost⟩ := h_
      subst q_1
      cbv
      exact retGI hA rfl [] g7 ⟨rfl, hpost⟩ trivial
end Go.Proofs.Ythioccbgjkbmdaa.AM

/-
  Contracts: a disk's crash.
-/
set_option linter.unusedVariables false
set_option linter.unusedSimpArgs false
namespace Go.Proofs.Ythioccbgjkbmdaa.AM
open Go Go.RowKit
set_option maxRecDepth 100000
set_option maxHeartbeats 4000000

/-- A disk at a place, with the row of its nodes. -/
structure DkX (gh : GH) (lab : Lab) (p : Nat) (k : Dk) (v : V) (ids : List Nat) : Prop where
  dom : Dom gh lab
  lp : lab p = some (0, 6)
  box : gh.get p = some (boxD v k)
  ns : NsV gh lab v ids
  len : ids.length = k.nodes.length
  at_ : ∀ i id nd, ids[i]? = some id → k.nodes[i]? = some nd → NodeAt gh lab i id nd
theorem DiskAt.x {gh : GH} {lab : Lab} {p : Nat} {k : Dk} (h : DiskAt gh lab p k) : ∃ v ids, DkX gh lab p k v ids := by
  obtain ⟨h1, h2, v, ids, h3, h4, h5, h6⟩ := h
  exact ⟨v, ids, h1, h2, h3, h4, h5, h6⟩
theorem DkX.at {gh : GH} {lab : Lab} {p : Nat} {k : Dk} {v : V} {ids : List Nat} (h : DkX gh lab p k v ids) : DiskAt gh lab p k := ⟨h.dom, h.lp, v, ids, h.box, h.ns, h.len, h.at_⟩
/-- One node is another one. -/
theorem DkX.node {gh g : GH} {lab lab' : Lab} {p : Nat} {k : Dk} {v : V} {ids : List Nat} (h : DkX gh lab p k v ids) {i id : Nat} {nd nd' : Nd} (hi : ids[i]? = some id) (hn : k.nodes[i]? = some nd) (u : Upd gh g lab lab' (NdT i) (fun _ => False)) (hN : NodeAt g lab' i id nd') : DkX g lab' p { k with nodes := k.nodes.set i nd' } v ids := by
  have no : ∀ {j : Nat}, 5 < j → ¬ NdT i (0, j) := fun h t => by have := t.2; dsimp only at this; omega
  obtain ⟨q1, q2⟩ := upd_id h.dom u h.lp (no (by decide)) (fun h => h) h.box
  refine ⟨u.dom, q1, q2, h.ns.upd h.dom u (no (by decide)) (fun _ h => h.elim), by rw [h.len]; simp, fun j jd nj h1 h2 => ?_⟩
  rw [List.getElem?_set] at h2
  split at h2
  · rename_i e
    subst e
    split at h2
    · cases h2
      rw [hi] at h1; cases h1; exact hN
    · cases h2
  · rename_i e
    exact (h.at_ j jd nj h1 h2).upd h.dom u (fun x _ t => e t.1.symm) (fun _ h => h.elim)
/-- What holds of each node. -/
structure NdOk (nd : Nd) : Prop where
  ok : LsOk nd.dir nd.safe nd.loose
  sz : nd.safe.b.length + nd.parts ≤ 1000000000
theorem lsOk_len {dir : Bool} : ∀ {l : List Stp} {c : Ct}, LsOk dir c l → l.length ≤ (l.map Stp.parts).sum
  | [], _, _ => by simp
  | x :: r, c, h => by
    have := lsOk_len h.2.2
    have := h.2.1
    simp only [List.length_cons, List.map_cons, List.sum_cons]; omega
theorem Stp.run_len (s : Stp) (c : Ct) (k : Nat) : (s.run c k).b.length ≤ c.b.length + k := by
  cases s <;> simp [Stp.run] <;> omega
theorem runs_len : ∀ (l : List Stp) (c : Ct) (k : Nat), (runs c l k).b.length ≤ c.b.length + k
  | [], c, k => by simp [runs]
  | s :: r, c, k => by
    rw [runs]
    split
    · omega
    · have h1 := runs_len r (s.run c (min k s.parts)) (k - s.parts)
      have h2 := s.run_len c (min k s.parts)
      omega
theorem NdOk.crash {nd : Nd} (h : NdOk nd) (k : Nat) (hk : k ≤ nd.parts) : NdOk (nd.crash k) := by
  have := runs_len nd.loose nd.safe k
  have := h.sz
  exact ⟨trivial, by simp only [Nd.crash, Nd.parts, List.map_nil, List.sum_nil]; omega⟩
/-- How many parts stay. -/
def keepN (nd : Nd) (keep : Bs) : Nat := if nd.parts = 0 then 0 else match keep with
  | [] => 0
  | c :: _ => c.toNat % (nd.parts + 1)
def keepR (nd : Nd) (keep : Bs) : Bs := if nd.parts = 0 then keep else keep.tail
def crashL : List Nd → Bs → List Nd
  | [], _ => []
  | nd :: r, keep => nd.crash (keepN nd keep) :: crashL r (keepR nd keep)
def Dk.crash (k : Dk) (keep : Bs) : Dk := { k with nodes := crashL k.nodes keep, down := false, fail := ⟨false, 0⟩, full := ⟨false, 0⟩ }
theorem keepN_le (nd : Nd) (keep : Bs) : keepN nd keep ≤ nd.parts := by
  unfold keepN
  split
  · omega
  · cases keep with
    | nil => exact Nat.zero_le _
    | cons c r => exact Nat.le_of_lt_succ (Nat.mod_lt _ (Nat.succ_pos _))
theorem crashL_len : ∀ (l : List Nd) (keep : Bs), (crashL l keep).length = l.length
  | [], _ => rfl
  | nd :: r, keep => by simp [crashL, crashL_len r]
/-- Where the loop over the nodes stands. -/
structure CkIn (gh : GH) (lab : Lab) (p : Nat) (k : Dk) (keep : Bs) (v : V) (ids : List Nat) (m : Int) (l : List V) (g : GH) (j : Nat) (ns : List Nd) (kp : Bs) (lab' : Lab) : Prop where
  m_ : m = (j : Nat)
  j_ : j ≤ k.nodes.length
  x : DkX g lab' p { k with nodes := ns } v ids
  u : Upd gh g lab lab' (fun _ => True) (fun _ => False)
  l_ : l = bytesV kp
  dr : ns.drop j = k.nodes.drop j
  all : ns.take j ++ crashL (ns.drop j) kp = crashL k.nodes keep
theorem CkIn.step {gh : GH} {lab : Lab} {p : Nat} {k : Dk} {keep : Bs} {v : V} {ids : List Nat} {m : Int} {l : List V} {g : GH} {j : Nat} {ns : List Nd} {kp : Bs} {lab' : Lab} (h : CkIn gh lab p k keep v ids m l g j ns kp lab') {nd : Nd} {id : Nat} (hid : ids[j]? = some id) (hnd : ns[j]? = some nd) (hj : j < k.nodes.length) {g' : GH} {lab2 : Lab} (u : Upd g g' lab' lab2 (NdT j) (fun _ => False)) (hN : NodeAt g' lab2 j id (nd.crash (keepN nd kp))) {m' : Int} {l' : List V} (hm : m' = ((j + 1 : Nat) : Int)) (hl : l' = bytesV (keepR nd kp)) :
    ∃ j ns kp lab', CkIn gh lab p k keep v ids m' l' g' j ns kp lab' := by
  obtain ⟨h1, h1'⟩ := List.getElem?_eq_some_iff.1 hnd
  have hs : ns.set j (nd.crash (keepN nd kp)) = ns.take j ++ nd.crash (keepN nd kp) :: ns.drop (j + 1) := by rw [List.set_eq_take_append_cons_drop, if_pos h1]
  have hlt : (ns.take j).length = j := by simp; omega
  have hd : (ns.set j (nd.crash (keepN nd kp))).drop (j + 1) = ns.drop (j + 1) := by
    rw [hs, List.drop_append, hlt, List.drop_of_length_le (by omega)]; simp [show j + 1 - j = 1 by omega]
  have ht : (ns.set j (nd.crash (keepN nd kp))).take (j + 1) = ns.take j ++ [nd.crash (keepN nd kp)] := by
    rw [hs, List.take_append, hlt, List.take_of_length_le (by omega)]; simp [show j + 1 - j = 1 by omega]
  have e0 : ns.drop j = nd :: ns.drop (j + 1) := by rw [List.drop_eq_getElem_cons h1, h1']
  have e1 := h.all
  rw [e0, crashL] at e1
  refine ⟨j + 1, ns.set j (nd.crash (keepN nd kp)), keepR nd kp, lab2, hm, hj, h.x.node hid hnd u hN, h.u.trans (u.weak (fun _ _ => trivial) (fun _ h => h.elim)), hl, ?_, ?_⟩
  · rw [hd]
    have := congrArg (List.drop 1) h.dr
    rw [List.drop_drop, List.drop_drop] at this
    simpa [Nat.add_comm] using this
  · rw [hd, ht, List.append_assoc]; exact e1
theorem CkIn.end {gh : GH} {lab : Lab} {p : Nat} {k : Dk} {keep : Bs} {v : V} {ids : List Nat} {m : Int} {l : List V} {g : GH} {j : Nat} {ns : List Nd} {kp : Bs} {lab' : Lab} (h : CkIn gh lab p k keep v ids m l g j ns kp lab') (hl : ids.length = k.nodes.length) (hj : j = k.nodes.length) : DkX g lab' p { k with nodes := crashL k.nodes keep } v ids := by
  have h1 : ns.length = k.nodes.length := h.x.len.symm.trans hl
  have e := h.all
  rw [List.take_of_length_le (by omega), List.drop_of_length_le (by omega)] at e
  simp only [crashL, List.append_nil] at e
  rw [← e]; exact h.x
/-- The disk's own cells are other ones. -/
theorem DkX.cells {gh g : GH} {lab : Lab} {p : Nat} {k k' : Dk} {v : V} {ids : List Nat} (h : DkX gh lab p k v ids) (hg : g = gh.set p (boxD v k')) (hk : k'.nodes = k.nodes) : DkX g lab p k' v ids ∧ Upd gh g lab lab (fun r => r = (0, 6)) (fun _ => False) := by
  have u : Upd gh g lab lab (fun r => r = (0, 6)) (fun _ => False) := hg ▸ upd_set h.dom _ h.lp
  exact ⟨⟨u.dom, h.lp, by rw [hg]; simp, h.ns.upd h.dom u (by simp) (fun _ h => h.elim), by rw [hk]; exact h.len, fun i id nd h1 h2 => (h.at_ i id nd h1 (hk ▸ h2)).upd h.dom u (fun j hj e => by have := congrArg Prod.snd e; dsimp only at this; omega) (fun _ h => h.elim)⟩, u⟩
theorem keep_nil {nd : Nd} {kp : Bs} (h : kp = []) : keepN nd kp = 0 ∧ keepR nd kp = kp := by
  subst h; unfold keepN keepR; constructor <;> split <;> rfl
theorem keep_zero {nd : Nd} {kp : Bs} (h : nd.parts = 0) : keepN nd kp = 0 ∧ keepR nd kp = kp := by
  unfold keepN keepR; rw [if_pos h, if_pos h]; exact ⟨rfl, rfl⟩
theorem keepN_eq {A : Prim} {P : Program} {R : List (Nat × AObj) → List D → Prop} (hA : A = std P R) {nd : Nd} {kp : Bs} {v c : Int} (h1 : 0 < kp.length) (hv : v = ((kp[0]'h1).toNat : Nat)) (hc : c = (nd.parts : Nat)) (hp : nd.parts ≤ 1000000000) (h0 : nd.parts ≠ 0) : A.tmod (A.wrap .i64 v) (c + 1) = (keepN nd kp : Nat) := by
  match kp, h1, hv with
  | x :: r, _, hv =>
    have hx := x.toNat_lt
    have e : keepN nd (x :: r) = x.toNat % (nd.parts + 1) := by unfold keepN; rw [if_neg h0]
    have hm : x.toNat % (nd.parts + 1) < nd.parts + 1 := Nat.mod_lt _ (Nat.succ_pos _)
    have e1 : A.wrap .i64 v = (x.toNat : Nat) := by
      rw [hA, hv]; exact wrap_i64 (by omega) (by simp; omega)
    rw [e1, e, hA, hc]
    exact Int.ofNat_tmod _ _
theorem keepR_eq {nd : Nd} {kp : Bs} {m : Int} (hm : m = (kp.length : Nat)) (h0 : nd.parts ≠ 0) : ((bytesV kp).take m.toNat).drop (1 : Int).toNat = bytesV (keepR nd kp) := by
  unfold keepR
  rw [if_neg h0, hm, Int.toNat_natCast, List.take_of_length_le (by rw [bytesV_len]; exact Nat.le_refl _)]
  cases kp <;> rfl
theorem gCrash {gh : GH} {lab : Lab} {p : Nat} {k : Dk} (h : DkIn gh lab p k) (hok : ∀ nd ∈ k.nodes, NdOk nd) (hn : k.nodes.length ≤ 1000000000) (keep : Bs) (l : List V) (hl : l = bytesV keep) (hkl : keep.length ≤ 140737488355328) : FnG Try.prog 19 [.gp p 0, .slice l] gh fun rs g => rs = [] ∧ ∃ lab', Upd gh g lab lab' (fun _ => True) (fun _ => False) ∧ DkIn g lab' p (k.crash keep) := by
  obtain ⟨v, ids, hX⟩ := h.at_.x
  have hv : ∃ nid n, v = .gs nid n ∧ n = (ids.length : Nat) ∧ lab nid = some (0, 7) ∧ gh.get nid = some (.arow 1 (ids.map fun i => V.gp i 0)) := by
    rcases hX.ns with ⟨_, h2⟩ | ⟨nid, h1, h2, h3⟩
    · have := h.one; rw [← hX.len, h2] at this; exact absurd this (by decide)
    · exact ⟨nid, _, h1, rfl, h2, h3⟩
  obtain ⟨nid, n, rfl, hnn, hnl, hng⟩ := hv
  have hbox := hX.box
  have hnl2 : n = (k.nodes.length : Nat) := by rw [hnn, hX.len]
  obtain ⟨dn, hdn⟩ : ∃ dn, dn = k.down := ⟨_, rfl⟩
  refine FnG.of' T_ok M_ok [] (fn := Try.f19) (by kernel_rfl) rfl rfl rfl rfl (Nat.le_of_ble_eq_true rfl) fun A hA => ?_
  cbv
  refine gldI hA _ (hbox) ?_
  cbv
  refine glenI hA ?_
  cbv
  refine loopF hA (ι := Int × List V × GH) (fun q => { n := 52, sl := [(0, .v (.gp p 0)), (1, .v (.slice q.2.1)), (13, .v (.gs nid n)), (14, .v (.int .i64 n)), (15, .v (.int .i64 q.1))], ob := [(hk, .heap q.2.2 [])] }) (fun q => ∃ j ns kp lab', CkIn gh lab p k keep (.gs nid n) ids q.1 q.2.1 q.2.2 j ns kp lab') (fun q => k.nodes.length - q.1.toNat) (_, _, _) (weakI rfl ⟨rfl, rfl, rfl, rfl, rfl, trivial⟩ ⟨rfl, trivial⟩) ⟨0, k.nodes, keep, lab, rfl, Nat.zero_le _, hX, Upd.refl h.at_.1 _ _, hl, rfl, rfl⟩ ?_
  rintro ⟨m, l1, g⟩ ⟨j, ns, kp, lab', hI⟩
  dsimp only at hI
  have hm := hI.m_
  cbv
  replace hm := natEq hm
  replace hnl2 := natEq hnl2
  refine condI hA (fun h1 => ?_) (fun h1 => ?_)
  · have h1 := zltT hA h1
    have f1 : 0 ≤ m ∧ m < n := by omega
    have f2 : j < k.nodes.length := by omega
    obtain ⟨nd, hnd⟩ : ∃ nd, k.nodes[j]? = some nd := ⟨_, List.getElem?_eq_getElem f2⟩
    have hnd2 : ns[j]? = some nd := by
      have e := congrArg (·[0]?) hI.dr
      simpa [hnd] using e
    obtain ⟨id, hid⟩ : ∃ id, ids[j]? = some id := ⟨_, List.getElem?_eq_getElem (by rw [hX.len]; exact f2)⟩
    have f3 : (ids.map fun i => V.gp i 0)[m.toNat]? = some (.gp id 0) := by rw [hm, List.getElem?_map]; simp [hid]
    have hN := hI.x.at_ j id nd hid hnd2
    have hO := hok nd (List.mem_of_getElem? hnd)
    have hsz := hO.sz
    have hll : nd.loose.length ≤ 1000000000 := Nat.le_trans (lsOk_len hO.ok) (by unfold Nd.parts at hsz; omega)
    have hpp : nd.parts ≤ 140737488355328 := by omega
    have hng1 : g.get nid = some (.arow 1 (ids.map fun i => V.gp i 0)) := by
      rcases hI.x.ns with ⟨h, _⟩ | ⟨nid', h, _, h3⟩
      · cases h
      · cases h; exact h3
    cbv
    refine gixN hA rfl f1 ?_
    cbv
    refine gldRN hA (y := .gp id 0) rfl _ (.inr (.inr hng1)) f3 ?_
    cbv
    refine callGI hA (gParts hN hll hpp) ?_
    intro rs_ g_ h_
    obtain ⟨c, q_1, hc, q_2⟩ := h_
    subst q_1
    subst q_2
    cbv
    replace hc := natEq hc
    have f7 : w64 (c + 1) = c + 1 ∧ c + 1 ≠ 0 := ⟨w64_id (by omega), by omega⟩
    have p0 : 0 < c → nd.parts ≠ 0 := by omega
    have p1 : ¬ 0 < c → nd.parts = 0 := by omega
    have f9 : k.nodes.length - (j + 1) < k.nodes.length - m.toNat := by rw [hm]; exact Nat.sub_lt_sub_left f2 (Nat.lt_succ_self _)
    have f8 : w64 (m + 1) = ((j + 1 : Nat) : Int) := w64_add hm rfl (by omega)
    refine condI hA (fun h2 => ?_) (fun h2 => ?_)
    · have h2 := zltT hA h2
      cbv
      refine condI hA (fun h3 => ?_) (fun h3 => ?_)
      · have h3 := zltT hA h3
        have hk1 : 0 < kp.length := by
          have e := lenI hA hI.l_
          have h4 : 0 < A.lenL l1 := h3
          rw [e] at h4; omega
        have hl1 : l1.length = kp.length := by rw [hI.l_, bytesV_len]
        have f6 : (0 : Int) ≤ 1 ∧ 1 ≤ A.lenL l1 ∧ A.lenL l1 ≤ l1.length := by
          have e := lenI hA hI.l_
          rw [e, hl1]; omega
        cbv
        refine chkI hA (by kernel_rfl) ?_
        cbv
        refine getBN hA hI.l_ (j := 0) rfl hk1 ?_
        intro v0 hv0
        cbv
        refine nzI hA (fun e => f7.2 (f7.1.symm.trans ((zadd hA c 1).symm.trans e))) ?_
        cbv
        refine sizedI hA (bytesV_flat hI.l_) ?_
        refine subLN hA f6 ?_
        intro l2 hl2
        have k1 : A.tmod (A.wrap .i64 v0) (A.wrap .i64 (A.add c 1)) = (keepN nd kp : Nat) := by
          rw [show A.wrap .i64 (A.add c 1) = w64 (c + 1) from zadd hA c 1, f7.1]
          exact keepN_eq hA hk1 hv0 hc (by omega) (p0 h2)
        have k2 : l2 = bytesV (keepR nd kp) := by
          rw [hl2, hI.l_]; exact keepR_eq (hI.l_ ▸ lenI hA hI.l_) (p0 h2)
        have k3 := runs_len nd.loose nd.safe (keepN nd kp)
        have k4 := keepN_le nd kp
        have k5 : (runs nd.safe nd.loose (keepN nd kp)).b.length ≤ 140737488355328 := by omega
        cbv
        refine callGI hA (gCrashN hI.x.dom hN hO.ok hll hpp (by omega) _ k4 _ k1 k5) ?_
        intro rs_ g2 h_
        obtain ⟨q_1, lab2, u2, hN2⟩ := h_
        subst q_1
        cbv
        refine ⟨(_, _, _), weakI rfl ⟨rfl, rfl, rfl, rfl, rfl, trivial⟩ ⟨rfl, trivial⟩, hI.step hid hnd2 f2 u2 hN2 ((zadd hA m 1).trans f8) k2, ?_⟩
        change k.nodes.length - (A.wrap .i64 (A.add m 1)).toNat < k.nodes.length - m.toNat
        rw [zadd hA, f8]; exact f9
      · have k0 : keepN nd kp = 0 ∧ keepR nd kp = kp := by
          have e := lenI hA hI.l_
          have h4 : ¬ 0 < A.lenL l1 := zltF hA h3
          rw [e] at h4
          exact keep_nil (List.eq_nil_of_length_eq_zero (by omega))
        cbv
        refine callGI hA (gCrashN hI.x.dom hN hO.ok hll hpp (by omega) 0 (Nat.zero_le _) 0 rfl (by rw [runs_zero]; omega)) ?_
        intro rs_ g2 h_
        obtain ⟨q_1, lab2, u2, hN2⟩ := h_
        subst q_1
        cbv
        refine ⟨(_, _, _), weakI rfl ⟨rfl, rfl, rfl, rfl, rfl, trivial⟩ ⟨rfl, trivial⟩, hI.step hid hnd2 f2 u2 (by rw [k0.1]; exact hN2) ((zadd hA m 1).trans f8) (by rw [k0.2]; exact hI.l_), ?_⟩
        change k.nodes.length - (A.wrap .i64 (A.add m 1)).toNat < k.nodes.length - m.toNat
        rw [zadd hA, f8]; exact f9
    · have k0 : keepN nd kp = 0 ∧ keepR nd kp = kp := keep_zero (p1 (zltF hA h2))
      cbv
      refine callGI hA (gCrashN hI.x.dom hN hO.ok hll hpp (by omega) 0 (Nat.zero_le _) 0 rfl (by rw [runs_zero]; omega)) ?_
      intro rs_ g2 h_
      obtain ⟨q_1, lab2, u2, hN2⟩ := h_
      subst q_1
      cbv
      refine ⟨(_, _, _), weakI rfl ⟨rfl, rfl, rfl, rfl, rfl, trivial⟩ ⟨rfl, trivial⟩, hI.step hid hnd2 f2 u2 (by rw [k0.1]; exact hN2) ((zadd hA m 1).trans f8) (by rw [k0.2]; exact hI.l_), ?_⟩
      change k.nodes.length - (A.wrap .i64 (A.add m 1)).toNat < k.nodes.length - m.toNat
      rw [zadd hA, f8]; exact f9
  · have h1 := zltF hA h1
    have hjn : j = k.nodes.length := by have := hI.j_; omega
    have hE := hI.end hX.len hjn
    have bE := hE.box
    cbv
    refine gstI hA _ bE ?_
    intro g1 hg1
    have b1 : g1.get p = some (boxD (.gs nid n) { k with nodes := crashL k.nodes keep, down := false }) := by rw [hg1]; simp; rfl
    cbv
    refine gstI hA _ b1 ?_
    intro g2 hg2
    have b2 : g2.get p = some (boxD (.gs nid n) { k with nodes := crashL k.nodes keep, down := false, fail := ⟨false, 0⟩ }) := by rw [hg2]; simp; rfl
    cbv
    refine gstI hA _ b2 ?_
    intro g3 hg3
    have hg3' : g3 = g.set p (boxD (.gs nid n) (k.crash keep)) := by rw [hg3, hg2, hg1, set_set, set_set]; rfl
    obtain ⟨hF, u3⟩ := hE.cells hg3' rfl
    exact retGI hA rfl [] g3 ⟨rfl, lab', hI.u.trans (u3.weak (fun _ _ => trivial) (fun _ h => h.elim)), ⟨hF.at, by rw [show (k.crash keep).nodes = crashL k.nodes keep from rfl, crashL_len]; exact h.one⟩⟩ trivial
end Go.Proofs.Ythioccbgjkbmdaa.AM
