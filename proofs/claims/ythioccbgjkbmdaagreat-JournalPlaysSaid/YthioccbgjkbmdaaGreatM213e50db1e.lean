/-
 Contracts: a disk's crash.
-/
import Derived.Test.YthioccbgjkbmdaaGreatM2065078c18
set_option linter.unusedVariables false
set_option linter.unusedSimpArgs false
set_option maxRecDepth 100000
set_option maxHeartbeats 4000000
namespace Go.Proofs.YthioccbgjkbmdaaGreat.AM
open Go Go.RowKit
structure DkX (gh : GH) (lab : Lab) (p : Nat) (k : Dk) (v : V) (ids : List Nat) : Prop where
 dom : Dom gh lab
 lp : lab p = some (0, 6)
 box : gh.get p = some (boxD v k)
 ns : NsV gh lab v ids
 len : ids.length = k.nodes.length
 at_ : ∀ i id nd, ids[i]? = some id → k.nodes[i]? = some nd → NodeAt gh lab i id nd
theorem DiskAt.x {gh : GH} {lab : Lab} {p : Nat} {k : Dk} (h : DiskAt gh lab p k) : ∃ v ids, DkX gh lab p k v ids := by
 obtain ⟨h1, h2, v, ids, h3, h4, h5, h6⟩ := h
 exact ⟨v, ids, h1, h2, h3, h4, h5, h6⟩
theorem DkX.at {gh : GH} {lab : Lab} {p : Nat} {k : Dk} {v : V} {ids : List Nat} (h : DkX gh lab p k v ids) : DiskAt gh lab p k := ⟨h.dom, h.lp, v, ids, h.box, h.ns, h.len, h.at_⟩
theorem DkX.node {gh g : GH} {lab lab' : Lab} {p : Nat} {k : Dk} {v : V} {ids : List Nat} (h : DkX gh lab p k v ids) {i id : Nat} {nd nd' : Nd} (hi : ids[i]? = some id) (hn : k.nodes[i]? = some nd) (u : Upd gh g lab lab' (NdT i) (fun _ => False)) (hN : NodeAt g lab' i id nd') : DkX g lab' p { k with nodes := k.nodes.set i nd' } v ids := by
 have no : ∀ {j : Nat}, 5 < j → ¬ NdT i (0, j) := fun h t => by have := t.2; dsimp only at this; omega
 obtain ⟨q1, q2⟩ := upd_id h.dom u h.lp (no (by decide)) (fun h => h) h.box
 refine ⟨u.dom, q1, q2, h.ns.upd h.dom u (no (by decide)) (fun _ h => h.elim), by rw [h.len]; simp, fun j jd nj h1 h2 => ?_⟩
 rw [List.getElem?_set] at h2
 split at h2
 ·rename_i e
  subst e
  split at h2
  ·cases h2
   rw [hi] at h1; cases h1; exact hN
  ·cases h2
 ·rename_i e
  exact (h.at_ j jd nj h1 h2).upd h.dom u (fun x _ t => e t.1.symm) (fun _ h => h.elim)
structure NdOk (nd : Nd) : Prop where
 ok : LsOk nd.dir nd.safe nd.loose
 sz : nd.safe.b.length + nd.parts ≤ 1000000000
theorem lsOk_len {dir : Bool} : ∀ {l : List Stp} {c : Ct}, LsOk dir c l → l.length ≤ (l.map Stp.parts).sum
 | [], _, _ => by simp
 | x :: r, c, h => by
  have := lsOk_len h.2.2
  have := h.2.1
  simp only [List.length_cons, List.map_cons, List.sum_cons]; omega
theorem Stp.run_len (s : Stp) (c : Ct) (k : Nat) : (s.run c k).b.length ≤ c.b.length + k := by
 cases s <;> simp [Stp.run] <;> omega
theorem runs_len : ∀ (l : List Stp) (c : Ct) (k : Nat), (runs c l k).b.length ≤ c.b.length + k
 | [], c, k => by simp [runs]
 | s :: r, c, k => by
  rw [runs]
  split
  ·omega
  ·have h1 := runs_len r (s.run c (min k s.parts)) (k - s.parts)
   have h2 := s.run_len c (min k s.parts)
   omega
theorem NdOk.crash {nd : Nd} (h : NdOk nd) (k : Nat) (hk : k ≤ nd.parts) : NdOk (nd.crash k) := by
 have := runs_len nd.loose nd.safe k
 have := h.sz
 exact ⟨trivial, by simp only [Nd.crash, Nd.parts, List.map_nil, List.sum_nil]; omega⟩
def keepN (nd : Nd) (keep : Bs) : Nat := if nd.parts = 0 then 0 else match keep with
 | [] => 0
 | c :: _ => c.toNat % (nd.parts + 1)
def keepR (nd : Nd) (keep : Bs) : Bs := if nd.parts = 0 then keep else keep.tail
def crashL : List Nd → Bs → List Nd
 | [], _ => []
 | nd :: r, keep => nd.crash (keepN nd keep) :: crashL r (keepR nd keep)
def Dk.crash (k : Dk) (keep : Bs) : Dk := { k with nodes := crashL k.nodes keep, down := false, fail := ⟨false, 0⟩, full := ⟨false, 0⟩ }
theorem keepN_le (nd : Nd) (keep : Bs) : keepN nd keep ≤ nd.parts := by
 unfold keepN
 split
 ·omega
 ·cases keep with
  | nil => exact Nat.zero_le _
  | cons c r => exact Nat.le_of_lt_succ (Nat.mod_lt _ (Nat.succ_pos _))
theorem crashL_len : ∀ (l : List Nd) (keep : Bs), (crashL l keep).length = l.length
 | [], _ => rfl
 | nd :: r, keep => by simp [crashL, crashL_len r]
structure CkIn (gh : GH) (lab : Lab) (p : Nat) (k : Dk) (keep : Bs) (v : V) (ids : List Nat) (m : Int) (l : List V) (g : GH) (j : Nat) (ns : List Nd) (kp : Bs) (lab' : Lab) : Prop where
 m_ : m = (j : Nat)
 j_ : j ≤ k.nodes.length
 x : DkX g lab' p { k with nodes := ns } v ids
 u : Upd gh g lab lab' (fun _ => True) (fun _ => False)
 l_ : l = bytesV kp
 dr : ns.drop j = k.nodes.drop j
 all : ns.take j ++ crashL (ns.drop j) kp = crashL k.nodes keep
theorem CkIn.step {gh : GH} {lab : Lab} {p : Nat} {k : Dk} {keep : Bs} {v : V} {ids : List Nat} {m : Int} {l : List V} {g : GH} {j : Nat} {ns : List Nd} {kp : Bs} {lab' : Lab} (h : CkIn gh lab p k keep v ids m l g j ns kp lab') {nd : Nd} {id : Nat} (hid : ids[j]? = some id) (hnd : ns[j]? = some nd) (hj : j < k.nodes.length) {g' : GH} {lab2 : Lab} (u : Upd g g' lab' lab2 (NdT j) (fun _ => False)) (hN : NodeAt g' lab2 j id (nd.crash (keepN nd kp))) {m' : Int} {l' : List V} (hm : m' = ((j + 1 : Nat) : Int)) (hl : l' = bytesV (keepR nd kp)) :
  ∃ j ns kp lab', CkIn gh lab p k keep v ids m' l' g' j ns kp lab' := by
 obtain ⟨h1, h1'⟩ := List.getElem?_eq_some_iff.1 hnd
 have hs : ns.set j (nd.crash (keepN nd kp)) = ns.take j ++ nd.crash (keepN nd kp) :: ns.drop (j + 1) := by rw [List.set_eq_take_append_cons_drop, if_pos h1]
 have hlt : (ns.take j).length = j := by simp; omega
 have hd : (ns.set j (nd.crash (keepN nd kp))).drop (j + 1) = ns.drop (j + 1) := by
  rw [hs, List.drop_append, hlt, List.drop_of_length_le (by omega)]; simp [show j + 1 - j = 1 by omega]
 have ht : (ns.set j (nd.crash (keepN nd kp))).take (j + 1) = ns.take j ++ [nd.crash (keepN nd kp)] := by
  rw [hs, List.take_append, hlt, List.take_of_length_le (by omega)]; simp [show j + 1 - j = 1 by omega]
 have e0 : ns.drop j = nd :: ns.drop (j + 1) := by rw [List.drop_eq_getElem_cons h1, h1']
 have e1 := h.all
 rw [e0, crashL] at e1
 refine ⟨j + 1, ns.set j (nd.crash (keepN nd kp)), keepR nd kp, lab2, hm, hj, h.x.node hid hnd u hN, h.u.trans (u.weak (fun _ _ => trivial) (fun _ h => h.elim)), hl, ?_, ?_⟩
 ·rw [hd]
  have := congrArg (List.drop 1) h.dr
  rw [List.drop_drop, List.drop_drop] at this
  simpa [Nat.add_comm] using this
 ·rw [hd, ht, List.append_assoc]; exact e1
theorem CkIn.end {gh : GH} {lab : Lab} {p : Nat} {k : Dk} {keep : Bs} {v : V} {ids : List Nat} {m : Int} {l : List V} {g : GH} {j : Nat} {ns : List Nd} {kp : Bs} {lab' : Lab} (h : CkIn gh lab p k keep v ids m l g j ns kp lab') (hl : ids.length = k.nodes.length) (hj : j = k.nodes.length) : DkX g lab' p { k with nodes := crashL k.nodes keep } v ids := by
 have h1 : ns.length = k.nodes.length := h.x.len.symm.trans hl
 have e := h.all
 rw [List.take_of_length_le (by omega), List.drop_of_length_le (by omega)] at e
 simp only [crashL, List.append_nil] at e
 rw [← e]; exact h.x
theorem DkX.cells {gh g : GH} {lab : Lab} {p : Nat} {k k' : Dk} {v : V} {ids : List Nat} (h : DkX gh lab p k v ids) (hg : g = gh.set p (boxD v k')) (hk : k'.nodes = k.nodes) : DkX g lab p k' v ids ∧ Upd gh g lab lab (fun r => r = (0, 6)) (fun _ => False) := by
 have u : Upd gh g lab lab (fun r => r = (0, 6)) (fun _ => False) := hg ▸ upd_set h.dom _ h.lp
 exact ⟨⟨u.dom, h.lp, by rw [hg]; simp, h.ns.upd h.dom u (by simp) (fun _ h => h.elim), by rw [hk]; exact h.len, fun i id nd h1 h2 => (h.at_ i id nd h1 (hk ▸ h2)).upd h.dom u (fun j hj e => by have := congrArg Prod.snd e; dsimp only at this; omega) (fun _ h => h.elim)⟩, u⟩
theorem keep_nil {nd : Nd} {kp : Bs} (h : kp = []) : keepN nd kp = 0 ∧ keepR nd kp = kp := by
 subst h; unfold keepN keepR; constructor <;> split <;> rfl
theorem keep_zero {nd : Nd} {kp : Bs} (h : nd.parts = 0) : keepN nd kp = 0 ∧ keepR nd kp = kp := by
 unfold keepN keepR; rw [if_pos h, if_pos h]; exact ⟨rfl, rfl⟩
theorem keepN_eq {A : Prim} {P : Program} {R : List (Nat × AObj) → List D → Prop} (hA : A = std P R) {nd : Nd} {kp : Bs} {v c : Int} (h1 : 0 < kp.length) (hv : v = ((kp[0]'h1).toNat : Nat)) (hc : c = (nd.parts : Nat)) (hp : nd.parts ≤ 1000000000) (h0 : nd.parts ≠ 0) : A.tmod (A.wrap .i64 v) (c + 1) = (keepN nd kp : Nat) := by
 match kp, h1, hv with
 | x :: r, _, hv =>
  have hx := x.toNat_lt
  have e : keepN nd (x :: r) = x.toNat % (nd.parts + 1) := by unfold keepN; rw [if_neg h0]
  have hm : x.toNat % (nd.parts + 1) < nd.parts + 1 := Nat.mod_lt _ (Nat.succ_pos _)
  have e1 : A.wrap .i64 v = (x.toNat : Nat) := by
   rw [hA, hv]; exact wrap_i64 (by omega) (by simp; omega)
  rw [e1, e, hA, hc]
  exact Int.ofNat_tmod _ _
theorem keepR_eq {nd : Nd} {kp : Bs} {m : Int} (hm : m = (kp.length : Nat)) (h0 : nd.parts ≠ 0) : ((bytesV kp).take m.toNat).drop (1 : Int).toNat = bytesV (keepR nd kp) := by
 unfold keepR
 rw [if_neg h0, hm, Int.toNat_natCast, List.take_of_length_le (by rw [bytesV_len]; exact Nat.le_refl _)]
 cases kp <;> rfl
theorem gCrash {gh : GH} {lab : Lab} {p : Nat} {k : Dk} (h : DkIn gh lab p k) (hok : ∀ nd ∈ k.nodes, NdOk nd) (hn : k.nodes.length ≤ 1000000000) (keep : Bs) (l : List V) (hl : l = bytesV keep) (hkl : keep.length ≤ 140737488355328) : FnG Tryz.prog 30 [.gp p 0, .slice l] gh fun rs g => rs = [] ∧ ∃ lab', Upd gh g lab lab' (fun _ => True) (fun _ => False) ∧ DkIn g lab' p (k.crash keep) := by
 obtain ⟨v, ids, hX⟩ := h.at_.x
 have hv : ∃ nid n, v = .gs nid n ∧ n = (ids.length : Nat) ∧ lab nid = some (0, 7) ∧ gh.get nid = some (.arow 1 (ids.map fun i => V.gp i 0)) := by
  rcases hX.ns with ⟨_, h2⟩ | ⟨nid, h1, h2, h3⟩
  ·have := h.one; rw [← hX.len, h2] at this; exact absurd this (by decide)
  ·exact ⟨nid, _, h1, rfl, h2, h3⟩
 obtain ⟨nid, n, rfl, hnn, hnl, hng⟩ := hv
 have hbox := hX.box
 have hnl2 : n = (k.nodes.length : Nat) := by rw [hnn, hX.len]
 obtain ⟨dn, hdn⟩ : ∃ dn, dn = k.down := ⟨_, rfl⟩
 refine FnG.of' T_ok M_ok [] (fn := Tryz.f30) (by kernel_rfl) rfl rfl rfl rfl (Nat.le_of_ble_eq_true rfl) fun A hA => ?_
 cbv
 refine gldI hA _ (hbox) ?_
 cbv
 refine glenI hA ?_
 cbv
 refine loopF hA (ι := Int × List V × GH) (fun q => { n := 52, sl := [(0, .v (.gp p 0)), (1, .v (.slice q.2.1)), (13, .v (.gs nid n)), (14, .v (.int .i64 n)), (15, .v (.int .i64 q.1))], ob := [(hk, .heap q.2.2 [])] }) (fun q => ∃ j ns kp lab', CkIn gh lab p k keep (.gs nid n) ids q.1 q.2.1 q.2.2 j ns kp lab') (fun q => k.nodes.length - q.1.toNat) (_, _, _) (weakI rfl ⟨rfl, rfl, rfl, rfl, rfl, trivial⟩ ⟨rfl, trivial⟩) ⟨0, k.nodes, keep, lab, rfl, Nat.zero_le _, hX, Upd.refl h.at_.1 _ _, hl, rfl, rfl⟩ ?_
 rintro ⟨m, l1, g⟩ ⟨j, ns, kp, lab', hI⟩
 dsimp only at hI
 have hm := hI.m_
 cbv
 replace hm := natEq hm
 replace hnl2 := natEq hnl2
 refine condI hA (fun h1 => ?_) (fun h1 => ?_)
 ·have h1 := zltT hA h1
  have f1 : 0 ≤ m ∧ m < n := by omega
  have f2 : j < k.nodes.length := by omega
  obtain ⟨nd, hnd⟩ : ∃ nd, k.nodes[j]? = some nd := ⟨_, List.getElem?_eq_getElem f2⟩
  have hnd2 : ns[j]? = some nd := by
   have e := congrArg (·[0]?) hI.dr
   simpa [hnd] using e
  obtain ⟨id, hid⟩ : ∃ id, ids[j]? = some id := ⟨_, List.getElem?_eq_getElem (by rw [hX.len]; exact f2)⟩
  have f3 : (ids.map fun i => V.gp i 0)[m.toNat]? = some (.gp id 0) := by rw [hm, List.getElem?_map]; simp [hid]
  have hN := hI.x.at_ j id nd hid hnd2
  have hO := hok nd (List.mem_of_getElem? hnd)
  have hsz := hO.sz
  have hll : nd.loose.length ≤ 1000000000 := Nat.le_trans (lsOk_len hO.ok) (by unfold Nd.parts at hsz; omega)
  have hpp : nd.parts ≤ 140737488355328 := by omega
  have hng1 : g.get nid = some (.arow 1 (ids.map fun i => V.gp i 0)) := by
   rcases hI.x.ns with ⟨h, _⟩ | ⟨nid', h, _, h3⟩
   ·cases h
   ·cases h; exact h3
  cbv
  refine gixN hA rfl f1 ?_
  cbv
  refine gldRN hA (y := .gp id 0) rfl _ (.inr (.inr hng1)) f3 ?_
  cbv
  refine callGI hA (gParts hN hll hpp) ?_
  intro rs_ g_ h_
  obtain ⟨c, q_1, hc, q_2⟩ := h_
  subst q_1
  subst q_2
  cbv
  replace hc := natEq hc
  have f7 : w64 (c + 1) = c + 1 ∧ c + 1 ≠ 0 := ⟨w64_id (by omega), by omega⟩
  have p0 : 0 < c → nd.parts ≠ 0 := by omega
  have p1 : ¬ 0 < c → nd.parts = 0 := by omega
  have f9 : k.nodes.length - (j + 1) < k.nodes.length - m.toNat := by rw [hm]; exact Nat.sub_lt_sub_left f2 (Nat.lt_succ_self _)
  have f8 : w64 (m + 1) = ((j + 1 : Nat) : Int) := w64_add hm rfl (by omega)
  refine condI hA (fun h2 => ?_) (fun h2 => ?_)
  ·have h2 := zltT hA h2
   cbv
   refine condI hA (fun h3 => ?_) (fun h3 => ?_)
   ·have h3 := zltT hA h3
    have hk1 : 0 < kp.length := by
     have e := lenI hA hI.l_
     have h4 : 0 < A.lenL l1 := h3
     rw [e] at h4; omega
    have hl1 : l1.length = kp.length := by rw [hI.l_, bytesV_len]
    have f6 : (0 : Int) ≤ 1 ∧ 1 ≤ A.lenL l1 ∧ A.lenL l1 ≤ l1.length := by
     have e := lenI hA hI.l_
     rw [e, hl1]; omega
    cbv
    refine chkI hA (by kernel_rfl) ?_
    cbv
    refine getBN hA hI.l_ (j := 0) rfl hk1 ?_
    intro v0 hv0
    cbv
    refine nzI hA (fun e => f7.2 (f7.1.symm.trans ((zadd hA c 1).symm.trans e))) ?_
    cbv
    refine sizedI hA (bytesV_flat hI.l_) ?_
    refine subLN hA f6 ?_
    intro l2 hl2
    have k1 : A.tmod (A.wrap .i64 v0) (A.wrap .i64 (A.add c 1)) = (keepN nd kp : Nat) := by
     rw [show A.wrap .i64 (A.add c 1) = w64 (c + 1) from zadd hA c 1, f7.1]
     exact keepN_eq hA hk1 hv0 hc (by omega) (p0 h2)
    have k2 : l2 = bytesV (keepR nd kp) := by
     rw [hl2, hI.l_]; exact keepR_eq (hI.l_ ▸ lenI hA hI.l_) (p0 h2)
    have k3 := runs_len nd.loose nd.safe (keepN nd kp)
    have k4 := keepN_le nd kp
    have k5 : (runs nd.safe nd.loose (keepN nd kp)).b.length ≤ 140737488355328 := by omega
    cbv
    refine callGI hA (gCrashN hI.x.dom hN hO.ok hll hpp (by omega) _ k4 _ k1 k5) ?_
    intro rs_ g2 h_
    obtain ⟨q_1, lab2, u2, hN2⟩ := h_
    subst q_1
    cbv
    refine ⟨(_, _, _), weakI rfl ⟨rfl, rfl, rfl, rfl, rfl, trivial⟩ ⟨rfl, trivial⟩, hI.step hid hnd2 f2 u2 hN2 ((zadd hA m 1).trans f8) k2, ?_⟩
    change k.nodes.length - (A.wrap .i64 (A.add m 1)).toNat < k.nodes.length - m.toNat
    rw [zadd hA, f8]; exact f9
   ·have k0 : keepN nd kp = 0 ∧ keepR nd kp = kp := by
     have e := lenI hA hI.l_
     have h4 : ¬ 0 < A.lenL l1 := zltF hA h3
     rw [e] at h4
     exact keep_nil (List.eq_nil_of_length_eq_zero (by omega))
    cbv
    refine callGI hA (gCrashN hI.x.dom hN hO.ok hll hpp (by omega) 0 (Nat.zero_le _) 0 rfl (by rw [runs_zero]; omega)) ?_
    intro rs_ g2 h_
    obtain ⟨q_1, lab2, u2, hN2⟩ := h_
    subst q_1
    cbv
    refine ⟨(_, _, _), weakI rfl ⟨rfl, rfl, rfl, rfl, rfl, trivial⟩ ⟨rfl, trivial⟩, hI.step hid hnd2 f2 u2 (by rw [k0.1]; exact hN2) ((zadd hA m 1).trans f8) (by rw [k0.2]; exact hI.l_), ?_⟩
    change k.nodes.length - (A.wrap .i64 (A.add m 1)).toNat < k.nodes.length - m.toNat
    rw [zadd hA, f8]; exact f9
  ·have k0 : keepN nd kp = 0 ∧ keepR nd kp = kp := keep_zero (p1 (zltF hA h2))
   cbv
   refine callGI hA (gCrashN hI.x.dom hN hO.ok hll hpp (by omega) 0 (Nat.zero_le _) 0 rfl (by rw [runs_zero]; omega)) ?_
   intro rs_ g2 h_
   obtain ⟨q_1, lab2, u2, hN2⟩ := h_
   subst q_1
   cbv
   refine ⟨(_, _, _), weakI rfl ⟨rfl, rfl, rfl, rfl, rfl, trivial⟩ ⟨rfl, trivial⟩, hI.step hid hnd2 f2 u2 (by rw [k0.1]; exact hN2) ((zadd hA m 1).trans f8) (by rw [k0.2]; exact hI.l_), ?_⟩
   change k.nodes.length - (A.wrap .i64 (A.add m 1)).toNat < k.nodes.length - m.toNat
   rw [zadd hA, f8]; exact f9
 ·have h1 := zltF hA h1
  have hjn : j = k.nodes.length := by have := hI.j_; omega
  have hE := hI.end hX.len hjn
  have bE := hE.box
  cbv
  refine gstI hA _ bE ?_
  intro g1 hg1
  have b1 : g1.get p = some (boxD (.gs nid n) { k with nodes := crashL k.nodes keep, down := false }) := by rw [hg1]; simp; rfl
  cbv
  refine gstI hA _ b1 ?_
  intro g2 hg2
  have b2 : g2.get p = some (boxD (.gs nid n) { k with nodes := crashL k.nodes keep, down := false, fail := ⟨false, 0⟩ }) := by rw [hg2]; simp; rfl
  cbv
  refine gstI hA _ b2 ?_
  intro g3 hg3
  have hg3' : g3 = g.set p (boxD (.gs nid n) (k.crash keep)) := by rw [hg3, hg2, hg1, set_set, set_set]; rfl
  obtain ⟨hF, u3⟩ := hE.cells hg3' rfl
  exact retGI hA rfl [] g3 ⟨rfl, lab', hI.u.trans (u3.weak (fun _ _ => trivial) (fun _ h => h.elim)), ⟨hF.at, by rw [show (k.crash keep).nodes = crashL k.nodes keep from rfl, crashL_len]; exact h.one⟩⟩ trivial
open Go Go.RowKit
theorem GH.eq_of {a b : GH} (h1 : a.next = b.next) (h2 : ∀ x, a.get x = b.get x) : a = b := by
 cases a; cases b
 obtain rfl := h1
 obtain rfl := funext h2
 rfl
def Dk.tick0 (k : Dk) (change : Bool) : Dk := { k with ops := w64 (k.ops + 1), changes := if change then w64 (k.changes + 1) else k.changes, fail := k.fail.next }
def OpPost (gh : GH) (p : Nat) (k : Dk) (v : V) (change : Bool) (Q : GH → Prop) (g : GH) : Prop :=
 if k.does then ∃ g2, Q g2 ∧ (k.fail.hit = false → g = g2) ∧ (k.fail.hit = true → ∃ v' k', g2.get p = some (boxD v' k') ∧ g = g2.set p (boxD v' { k' with down := true })) else g = gh.set p (boxD v (k.tick0 change |> fun q => { q with down := true }))
def DoV (x : V) (f : Nat) (xs : List V) : Prop := (∃ a b, x = .clo f [a, b] ∧ xs = [a, b]) ∨ (∃ a b c, x = .clo f [a, b, c] ∧ xs = [a, b, c]) ∨ (∃ a b c d e, x = .clo f [a, b, c, d, e] ∧ xs = [a, b, c, d, e]) ∨ ∃ a, x = .mth f [a] ∧ xs = [a]
theorem gOpX {gh : GH} {p : Nat} {k : Dk} {v : V} (hg : gh.get p = some (boxD v k)) (change : Bool) (f : Nat) {x : V} {xs : List V} (hx : DoV x f xs) (Q : GH → Prop) (hdo : k.does = true → FnG Tryz.prog f xs (gh.set p (boxD v (k.tick0 change))) fun rs g => rs = [] ∧ Q g) (hQ : ∀ g, Q g → ∃ v' k', g.get p = some (boxD v' k')) :
  FnG Tryz.prog 74 [.gp p 0, .bool change, x] gh fun rs g => ∃ e : Int, rs = [.v (.int .i64 e)] ∧ e = k.opE ∧ OpPost gh p k v change Q g := by
 have nx : ∀ (g2 g3 : GH), g2 = gh.set p (boxD v { k with ops := w64 (k.ops + 1), changes := if change then w64 (k.changes + 1) else k.changes }) → g3.next = g2.next → (∀ x, x ≠ p → g3.get x = g2.get x) → g3.get p = some (boxD v (k.tick0 change)) → g3 = gh.set p (boxD v (k.tick0 change)) := fun g2 g3 e1 e2 e3 e4 => by
  refine GH.eq_of (by rw [e2, e1]; rfl) fun x => ?_
  rcases Nat.decEq x p with h | h
  ·rw [e3 x h, e1]; simp [h]
  ·rw [h, e4]; simp
 have c1 : k.fail.hit = false → k.does = true ∧ k.opE = 0 := fun h => by simp [Dk.does, Dk.opE, h]
 have c2 : k.fail.hit = true → k.opE = 12 := fun h => by simp [Dk.opE, h]
 have c3 : k.done = true → k.does = true := fun h => by simp [Dk.does, h]
 have c4 : k.fail.hit = true → ¬ k.done = true → ¬ k.does = true := fun h h2 => by simp [Dk.does, h, h2]
 have c5 : ∀ g, k.fail.hit = false → Q g → OpPost gh p k v change Q g := fun g h hq => by
  unfold OpPost; rw [if_pos (c1 h).1]; exact ⟨g, hq, fun _ => rfl, fun e => by rw [h] at e; cases e⟩
 have c6 : ∀ g2 g v' k', k.fail.hit = true → k.done = true → Q g2 → g2.get p = some (boxD v' k') → g = g2.set p (boxD v' { k' with down := true }) → OpPost gh p k v change Q g := fun g2 g v' k' h hd hq e1 e2 => by
  unfold OpPost; rw [if_pos (c3 hd)]; exact ⟨g2, hq, fun e => by rw [h] at e; (cases e), fun _ => ⟨v', k', e1, e2⟩⟩
 have c7 : ∀ g2 g, k.fail.hit = true → ¬ k.done = true → g2 = gh.set p (boxD v (k.tick0 change)) → g = g2.set p (boxD v { k.tick0 change with down := true }) → OpPost gh p k v change Q g := fun g2 g h hd e1 e2 => by
  unfold OpPost; rw [if_neg (c4 h hd), e2, e1, set_set]
 rcases hx with ⟨xc0, xc1, rfl, rfl⟩ | ⟨xc0, xc1, xc2, rfl, rfl⟩ | ⟨xc0, xc1, xc2, xc3, xc4, rfl, rfl⟩ | ⟨xc0, rfl, rfl⟩
 all_goals
  cases change
  ·refine FnG.of' T_ok M_ok [] (fn := Tryz.f74) (by kernel_rfl) rfl rfl rfl rfl (Nat.le_of_ble_eq_true rfl) fun A hA => ?_
   cbv
   refine gldI hA _ (hg) ?_
   cbv
   refine gstI hA _ hg ?_
   intro g1 hg1
   have hg1 : g1 = gh.set p (boxD v { k with ops := w64 (k.ops + 1) }) := hg1.trans (congrArg (fun n => gh.set p (boxD v { k with ops := n })) (zadd hA k.ops 1))
   obtain ⟨k1, hk1⟩ : ∃ q : Dk, q = { k with ops := w64 (k.ops + 1) } := ⟨_, rfl⟩
   have b1 : g1.get p = some (boxD v k1) := by rw [hg1, hk1]; simp
   cbv
   refine condF hA rfl ?_
   cbv
   refine callGI hA (gNext k1.fail b1 rfl rfl) ?_
   intro rs_ g3 h_
   obtain ⟨c, q_1, hc, e2, e3, e4⟩ := h_
   subst q_1
   cbv
   replace e4 : g3.get p = some (boxD v { k1 with fail := k1.fail.next }) := e4
   rw [hk1] at e4 hc
   have hg3 : g3 = gh.set p (boxD v (k.tick0 false)) := nx g1 g3 hg1 e2 e3 e4
   obtain ⟨k3, hk3⟩ : ∃ q : Dk, q = k.tick0 false := ⟨_, rfl⟩
   have b3 : g3.get p = some (boxD v k3) := by rw [hk3]; exact e4
   have hkd : k3.done = k.done := by rw [hk3]; rfl
   refine condI hA (fun h1 => ?_) (fun h1 => ?_)
   ·have h1 : k.fail.hit = false := hc ▸ znotT hA h1
    have hd := hdo (c1 h1).1
    rw [← hg3] at hd
    cbv
    refine callGI hA (hd) ?_
    intro rs_ g4 h_
    obtain ⟨q_1, hq⟩ := h_
    subst q_1
    cbv
    exact retGI hA rfl [.v (.int .i64 0)] g4 (⟨_, rfl, (c1 h1).2.symm, c5 g4 h1 hq⟩)
   ·have h1 : k.fail.hit = true := hc ▸ znotF hA h1
    cbv
    refine gldI hA _ (b3) ?_
    cbv
    refine condI hA (fun h2 => ?_) (fun h2 => ?_)
    ·have h2 : k.done = true := hkd ▸ h2
     have hd := hdo (c3 h2)
     rw [← hg3] at hd
     cbv
     refine callGI hA (hd) ?_
     intro rs_ g4 h_
     obtain ⟨q_1, hq⟩ := h_
     subst q_1
     cbv
     obtain ⟨v', k', e5⟩ := hQ g4 hq
     refine gstI hA _ (e5) ?_
     rintro g5 hg5
     cbv
     exact retGI hA rfl [.v (.int .i64 12)] g5 (⟨_, rfl, (c2 h1).symm, c6 g4 g5 v' k' h1 h2 hq e5 hg5⟩)
    ·cbv
     refine gstI hA _ (b3) ?_
     rintro g5 hg5
     cbv
     exact retGI hA rfl [.v (.int .i64 12)] g5 (⟨_, rfl, (c2 h1).symm, c7 g3 g5 h1 (by rw [← hkd, h2]; decide) hg3 (by rw [hg5, hk3]; rfl)⟩)
  ·refine FnG.of' T_ok M_ok [] (fn := Tryz.f74) (by kernel_rfl) rfl rfl rfl rfl (Nat.le_of_ble_eq_true rfl) fun A hA => ?_
   cbv
   refine gldI hA _ (hg) ?_
   cbv
   refine gstI hA _ hg ?_
   intro g1 hg1
   have hg1 : g1 = gh.set p (boxD v { k with ops := w64 (k.ops + 1) }) := hg1.trans (congrArg (fun n => gh.set p (boxD v { k with ops := n })) (zadd hA k.ops 1))
   obtain ⟨k1, hk1⟩ : ∃ q : Dk, q = { k with ops := w64 (k.ops + 1) } := ⟨_, rfl⟩
   have b1 : g1.get p = some (boxD v k1) := by rw [hg1, hk1]; simp
   cbv
   refine condT hA rfl ?_
   cbv
   refine gldI hA _ (b1) ?_
   cbv
   refine gstI hA _ b1 ?_
   intro g2 hg2
   have hg2 : g2 = g1.set p (boxD v { k1 with changes := w64 (k1.changes + 1) }) := hg2.trans (congrArg (fun n => g1.set p (boxD v { k1 with changes := n })) (zadd hA k1.changes 1))
   have hg2 : g2 = gh.set p (boxD v { k with ops := w64 (k.ops + 1), changes := w64 (k.changes + 1) }) := hg2.trans (by rw [hg1, set_set, hk1])
   obtain ⟨k2, hk2⟩ : ∃ q : Dk, q = { k with ops := w64 (k.ops + 1), changes := w64 (k.changes + 1) } := ⟨_, rfl⟩
   have b2 : g2.get p = some (boxD v k2) := by rw [hg2, hk2]; simp
   cbv
   refine callGI hA (gNext k2.fail b2 rfl rfl) ?_
   intro rs_ g3 h_
   obtain ⟨c, q_1, hc, e2, e3, e4⟩ := h_
   subst q_1
   cbv
   replace e4 : g3.get p = some (boxD v { k2 with fail := k2.fail.next }) := e4
   rw [hk2] at e4 hc
   have hg3 : g3 = gh.set p (boxD v (k.tick0 true)) := nx g2 g3 hg2 e2 e3 e4
   obtain ⟨k3, hk3⟩ : ∃ q : Dk, q = k.tick0 true := ⟨_, rfl⟩
   have b3 : g3.get p = some (boxD v k3) := by rw [hk3]; exact e4
   have hkd : k3.done = k.done := by rw [hk3]; rfl
   refine condI hA (fun h1 => ?_) (fun h1 => ?_)
   ·have h1 : k.fail.hit = false := hc ▸ znotT hA h1
    have hd := hdo (c1 h1).1
    rw [← hg3] at hd
    cbv
    refine callGI hA (hd) ?_
    intro rs_ g4 h_
    obtain ⟨q_1, hq⟩ := h_
    subst q_1
    cbv
    exact retGI hA rfl [.v (.int .i64 0)] g4 (⟨_, rfl, (c1 h1).2.symm, c5 g4 h1 hq⟩)
   ·have h1 : k.fail.hit = true := hc ▸ znotF hA h1
    cbv
    refine gldI hA _ (b3) ?_
    cbv
    refine condI hA (fun h2 => ?_) (fun h2 => ?_)
    ·have h2 : k.done = true := hkd ▸ h2
     have hd := hdo (c3 h2)
     rw [← hg3] at hd
     cbv
     refine callGI hA (hd) ?_
     intro rs_ g4 h_
     obtain ⟨q_1, hq⟩ := h_
     subst q_1
     cbv
     obtain ⟨v', k', e5⟩ := hQ g4 hq
     refine gstI hA _ (e5) ?_
     rintro g5 hg5
     cbv
     exact retGI hA rfl [.v (.int .i64 12)] g5 (⟨_, rfl, (c2 h1).symm, c6 g4 g5 v' k' h1 h2 hq e5 hg5⟩)
    ·cbv
     refine gstI hA _ (b3) ?_
     rintro g5 hg5
     cbv
     exact retGI hA rfl [.v (.int .i64 12)] g5 (⟨_, rfl, (c2 h1).symm, c7 g3 g5 h1 (by rw [← hkd, h2]; decide) hg3 (by rw [hg5, hk3]; rfl)⟩)
theorem gOp2 {gh : GH} {p : Nat} {k : Dk} {v : V} (hg : gh.get p = some (boxD v k)) (change : Bool) (f : Nat) (xc0 xc1 : V) (Q : GH → Prop) (hdo : k.does = true → FnG Tryz.prog f [xc0, xc1] (gh.set p (boxD v (k.tick0 change))) fun rs g => rs = [] ∧ Q g) (hQ : ∀ g, Q g → ∃ v' k', g.get p = some (boxD v' k')) :
  FnG Tryz.prog 74 [.gp p 0, .bool change, .clo f [xc0, xc1]] gh fun rs g => ∃ e : Int, rs = [.v (.int .i64 e)] ∧ e = k.opE ∧ OpPost gh p k v change Q g :=
 gOpX hg change f (.inl ⟨_, _, rfl, rfl⟩) Q hdo hQ
theorem gOp3 {gh : GH} {p : Nat} {k : Dk} {v : V} (hg : gh.get p = some (boxD v k)) (change : Bool) (f : Nat) (xc0 xc1 xc2 : V) (Q : GH → Prop) (hdo : k.does = true → FnG Tryz.prog f [xc0, xc1, xc2] (gh.set p (boxD v (k.tick0 change))) fun rs g => rs = [] ∧ Q g) (hQ : ∀ g, Q g → ∃ v' k', g.get p = some (boxD v' k')) :
  FnG Tryz.prog 74 [.gp p 0, .bool change, .clo f [xc0, xc1, xc2]] gh fun rs g => ∃ e : Int, rs = [.v (.int .i64 e)] ∧ e = k.opE ∧ OpPost gh p k v change Q g :=
 gOpX hg change f (.inr (.inl ⟨_, _, _, rfl, rfl⟩)) Q hdo hQ
theorem gOp5 {gh : GH} {p : Nat} {k : Dk} {v : V} (hg : gh.get p = some (boxD v k)) (change : Bool) (f : Nat) (xc0 xc1 xc2 xc3 xc4 : V) (Q : GH → Prop) (hdo : k.does = true → FnG Tryz.prog f [xc0, xc1, xc2, xc3, xc4] (gh.set p (boxD v (k.tick0 change))) fun rs g => rs = [] ∧ Q g) (hQ : ∀ g, Q g → ∃ v' k', g.get p = some (boxD v' k')) :
  FnG Tryz.prog 74 [.gp p 0, .bool change, .clo f [xc0, xc1, xc2, xc3, xc4]] gh fun rs g => ∃ e : Int, rs = [.v (.int .i64 e)] ∧ e = k.opE ∧ OpPost gh p k v change Q g :=
 gOpX hg change f (.inr (.inr (.inl ⟨_, _, _, _, _, rfl, rfl⟩))) Q hdo hQ
theorem gOpM {gh : GH} {p : Nat} {k : Dk} {v : V} (hg : gh.get p = some (boxD v k)) (change : Bool) (f : Nat) (xc0 : V) (Q : GH → Prop) (hdo : k.does = true → FnG Tryz.prog f [xc0] (gh.set p (boxD v (k.tick0 change))) fun rs g => rs = [] ∧ Q g) (hQ : ∀ g, Q g → ∃ v' k', g.get p = some (boxD v' k')) :
  FnG Tryz.prog 74 [.gp p 0, .bool change, .mth f [xc0]] gh fun rs g => ∃ e : Int, rs = [.v (.int .i64 e)] ∧ e = k.opE ∧ OpPost gh p k v change Q g :=
 gOpX hg change f (.inr (.inr (.inr ⟨_, rfl, rfl⟩))) Q hdo hQ
open Go Go.RowKit
theorem NsV.app {gh : GH} {lab : Lab} {v : V} {ids : List Nat} (h : NsV gh lab v ids) : SlApp gh 1 (ids.map fun i => V.gp i 0) v := by
 rcases h with ⟨h1, h2⟩ | ⟨id, h1, _, h2⟩
 ·exact .inl ⟨h1, by rw [h2]; rfl⟩
 ·exact .inr (.inr ⟨id, by rw [h1, List.length_map], h2⟩)
def nd0 (dir : Bool) : Nd := ⟨dir, ⟨[], []⟩, []⟩
def NewT (n : Nat) (r : Nat × Nat) : Prop := r = (0, 6) ∨ r = (0, 7) ∨ NdT n r
theorem DkX.push {gh g g5 g6 : GH} {lab lab' : Lab} {p : Nat} {k : Dk} {v : V} {ids : List Nat} (h : DkX gh lab p k v ids) {nid x : Nat} {nd : Nd} {m : Int}
  (u : Upd gh g lab lab' (NdT k.nodes.length) (fun _ => False)) (hN : NodeAt g lab' k.nodes.length nid nd) (hx : x = g.next) (e1 : g5.next = g.next + 1) (e2 : g5.get x = some (.arow 1 ((ids.map fun i => V.gp i 0) ++ [.gp nid 0]))) (e3 : ∀ j, j < g.next → (∀ n, v ≠ .gs j n) → g5.get j = g.get j) (e4 : m = (((ids.map fun i => V.gp i 0) ++ [V.gp nid 0]).length : Nat)) (e5 : g6 = g5.set p (boxD (.gs x m) k)) :
  m = ((k.nodes.length + 1 : Nat) : Int) ∧ ∃ lab6 ids', Upd gh g6 lab lab6 (NewT k.nodes.length) (fun _ => False) ∧ DkX g6 lab6 p { k with nodes := k.nodes ++ [nd] } (.gs x m) ids' ∧ ∀ (j id : Nat), ids[j]? = some id → ids'[j]? = some id := by
 subst hx
 have no : ∀ {j : Nat}, 5 < j → ¬ NdT k.nodes.length (0, j) := fun h t => by have := t.2; dsimp only at this; omega
 obtain ⟨q1, q2⟩ := upd_id h.dom u h.lp (no (by decide)) (fun h => h) h.box
 have hns := h.ns.upd h.dom u (no (by decide)) (fun _ h => h.elim)
 have hlen : m = ((k.nodes.length + 1 : Nat) : Int) := by rw [e4, ← h.len]; simp
 have hvl : ∀ j n, v = .gs j n → lab' j = some (0, 7) := fun j n e => by
  rcases hns with ⟨q, _⟩ | ⟨y, q, q3, _⟩
  ·rw [q] at e; cases e
  ·rw [q] at e; cases e; exact q3
 have u6 : Upd g g6 lab' (fun y => if y = g.next then some (0, 7) else lab' y) (fun r => r = (0, 6) ∨ r = (0, 7)) (fun _ => False) := by
  refine ⟨by rw [e5]; simp; omega, fun y hy => by rw [if_neg (by omega)], fun y hy => ?_, fun y hy _ t => ?_⟩
  ·rw [e5] at hy; simp at hy
   rw [if_neg (by omega)]; exact u.dom y (by omega)
  ·rw [e5]; simp only [GH.set_get]
   rw [if_neg (fun e => t (0, 6) (by rw [e]; exact q1) (.inl rfl))]
   exact e3 y hy fun n e => t (0, 7) (hvl y n e) (.inr rfl)
 have hp : p < g.next := u.dom.lt q1
 refine ⟨hlen, _, ids ++ [nid], (u.weak (T' := NewT k.nodes.length) (fun r t => .inr (.inr t)) (fun _ h => h.elim)).trans (u6.weak (fun r t => t.elim .inl (fun t => .inr (.inl t))) (fun _ h => h.elim)), ⟨u6.dom, (u6.old p hp).trans q1, by rw [e5]; simp; rfl, .inr ⟨g.next, by rw [e4]; simp, by simp, ?_⟩, by simp [h.len], fun i id nj h1 h2 => ?_⟩, fun j id q => by rw [List.getElem?_append_left (List.getElem?_eq_some_iff.1 q).1]; exact q⟩
 ·rw [e5]; simp only [GH.set_get]; rw [if_neg (by omega), e2]; simp
 ·have f : ∀ (r : Nat × Nat), r.2 ≤ 5 → ¬ (r = (0, 6) ∨ r = (0, 7)) := fun r hr e => by rcases e with rfl | rfl <;> simp at hr
  rcases Nat.lt_or_ge i k.nodes.length with q | q
  ·have h1' : ids[i]? = some id := by rw [List.getElem?_append_left (by rw [h.len]; exact q)] at h1; exact h1
   have h2' : k.nodes[i]? = some nj := by dsimp only at h2; rw [List.getElem?_append_left q] at h2; exact h2
   exact ((h.at_ i id nj h1' h2').upd h.dom u (fun j _ t => by have := t.1; dsimp only at this; omega) (fun _ h => h.elim)).upd u.dom u6 (fun j hj => f _ hj) (fun _ h => h.elim)
  ·dsimp only at h2
   have hi : i = k.nodes.length := by
    have := (List.getElem?_eq_some_iff.1 h2).1; simp at this; omega
   subst hi
   rw [List.getElem?_append_right (Nat.le_refl _)] at h2
   rw [List.getElem?_append_right (by rw [h.len]; exact Nat.le_refl _)] at h1
   simp [h.len] at h1 h2
   subst h1 h2
   exact hN.upd u.dom u6 (fun j hj => f _ hj) (fun _ h => h.elim)
section
variable {A : Prim} {R : List (Nat × AObj) → List D → Prop} (hA : A = std Tryz.prog R)
include hA
theorem gbxN {o : Oper} {t : Nat} {x : Operand} {gh : GH} {v : V} {K : V → GH → Prop} (hK : ∀ g' i, i = gh.next → g' = gh.new (.box v.flat) → K (.gp i 0) g') (ho : o.op = .box t x := by rfl) (hc : v.okc = true := by rfl) : A.gop o [v] gh K := gbxI hA (fun g' h => hK g' _ rfl h) ho hc
theorem gmakeN {o : Oper} {t : Nat} {gh : GH} {K : V → GH → Prop} (hK : ∀ g' i, i = gh.next → g' = gh.new (.map [] 0) → K (.gm i) g') (ho : o.op = .makeMap t none := by rfl) : A.gop o [] gh K := gmakeI hA (fun g' h => hK g' _ rfl h) ho
theorem gappN {o : Oper} {c : Call} {t t2 e z bt : Nat} {s x : Operand} {gh : GH} {y v : V} {K : V → GH → Prop} (l l2 : List V) (hy : SlApp gh z l y) (hsrc : SrcIs gh z v l2) (hne : l2 ≠ []) (hzl : ∀ x ∈ l, x.flat.length = z) (hroom : (l.length + l2.length) * bt ≤ 140737488355328)
  (hK : ∀ (g' : GH) (m : Int) (i : Nat), i = gh.next → g'.next = gh.next + 1 → g'.get i = some (.arow z (l ++ l2)) → (∀ j, j < gh.next → (∀ n, y ≠ .gs j n) → g'.get j = gh.get j) → m = ((l ++ l2).length : Nat) → K (.gs i m) g')
  (ho : o.op = .call c := by rfl) (hcb : c.callee = .builtin .append := by rfl) (hat : c.argTypes = #[t, t2] := by rfl) (has : c.args = #[s, x] := by rfl) (hkt : (tyOf t).k = .slice e := by rfl) (hkn : known (tyOf e).k = true := by rfl) (hz : (tyOf e).size = z := by rfl) (hbt : (tyOf e).bytes = bt := by rfl) (hz0 : 0 < z := by decide)
  (hst : isSrcV (tyOf t2).k v = true := by rfl) (hb0 : 0 < bt := by decide) : A.gop o [y, v] gh K :=
 gappSI hA l l2 hy hsrc hne hzl hroom (fun g' m h1 h2 h3 h4 => hK g' m _ rfl h1 h2 h3 h4) ho hcb hat has hkt hkn hz hbt hz0 hst hb0
end
theorem mp0 : MpOk [] 0 [] := ⟨by simp, by simp, .refl _, by first | exact .nil | simp [Ord]⟩
theorem gFresh {gh : GH} {lab : Lab} {p : Nat} {k : Dk} {v : V} {ids : List Nat} (h : DkX gh lab p k v ids) (dir : Bool) (hn : k.nodes.length ≤ 1000000000) : FnG Tryz.prog 17 [.gp p 0, .bool dir] gh fun rs g => ∃ (m : Int) (lab' : Lab) (v' : V) (ids' : List Nat), rs = [.v (.int .i64 m)] ∧ m = ((k.nodes.length + 1 : Nat) : Int) ∧ Upd gh g lab lab' (NewT k.nodes.length) (fun _ => False) ∧ DkX g lab' p { k with nodes := k.nodes ++ [nd0 dir] } v' ids' ∧ ∀ (j id : Nat), ids[j]? = some id → ids'[j]? = some id := by
 obtain ⟨n, hnn⟩ : ∃ n, n = k.nodes.length := ⟨_, rfl⟩
 have hp := h.dom.lt h.lp
 -- where the node has been made
 have mid : ∀ (g3 : GH) (lab3 : Lab) (g4 : GH) (lab4 : Lab) (nid : Nat), Upd gh g3 lab lab3 (fun _ => False) (fun _ => False) → Upd g3 g4 lab3 lab4 (fun r => r = (n, 0)) (fun _ => False) → Upd gh g4 lab lab4 (NdT k.nodes.length) (fun _ => False) ∧ g4.get p = some (boxD v k) ∧ SlApp g4 1 (ids.map fun i => V.gp i 0) v := fun g3 lab3 g4 lab4 nid u3 u4 => by
  have u : Upd gh g4 lab lab4 (NdT k.nodes.length) (fun _ => False) := (u3.weak (fun _ h => h.elim) (fun _ h => h.elim)).trans (u4.weak (fun r e => by rw [e, hnn]; exact ⟨rfl, Nat.zero_le _⟩) (fun _ h => h.elim))
  have no : ∀ {j : Nat}, 5 < j → ¬ NdT k.nodes.length (0, j) := fun h t => by have := t.2; dsimp only at this; omega
  exact ⟨u, (upd_id h.dom u h.lp (no (by decide)) (fun h => h) h.box).2, (h.ns.upd h.dom u (no (by decide)) (fun _ h => h.elim)).app⟩
 have hzl : ∀ x ∈ (ids.map fun i => V.gp i 0), x.flat.length = 1 := fun x hx => by
  obtain ⟨_, _, rfl⟩ := List.mem_map.1 hx
  rfl
 have hroom : ((ids.map fun i => V.gp i 0).length + 1) * 8 ≤ 140737488355328 := by
  rw [List.length_map, h.len]; omega
 obtain ⟨ls, hls⟩ : ∃ ls, ls = ids.map fun i => V.gp i 0 := ⟨_, rfl⟩
 rw [← hls] at mid hzl hroom
 have push : ∀ {g g5 g6 : GH} {lab' : Lab} {nid x : Nat} {nd : Nd} {m : Int}, Upd gh g lab lab' (NdT k.nodes.length) (fun _ => False) → NodeAt g lab' k.nodes.length nid nd → x = g.next → g5.next = g.next + 1 → g5.get x = some (.arow 1 (ls ++ [.gp nid 0])) → (∀ j, j < g.next → (∀ n, v ≠ .gs j n) → g5.get j = g.get j) → m = ((ls ++ [V.gp nid 0]).length : Nat) → g6 = g5.set p (boxD (.gs x m) k) →
   m = ((k.nodes.length + 1 : Nat) : Int) ∧ ∃ lab6 ids', Upd gh g6 lab lab6 (NewT k.nodes.length) (fun _ => False) ∧ DkX g6 lab6 p { k with nodes := k.nodes ++ [nd] } (.gs x m) ids' ∧ ∀ (j id : Nat), ids[j]? = some id → ids'[j]? = some id := fun u hN hx e1 e2 e3 e4 e5 => h.push u hN hx e1 (hls ▸ e2) e3 (hls ▸ e4) e5
 have hvp : ∀ (g : GH) (lab' : Lab), Upd gh g lab lab' (NdT k.nodes.length) (fun _ => False) → ∀ n, v ≠ .gs p n := fun g lab' u n e => by
  rcases h.ns with ⟨q, _⟩ | ⟨y, q, q3, _⟩
  ·rw [q] at e; cases e
  ·rw [q] at e; cases e
   rw [h.lp] at q3; cases q3
 have bp := h.box
 have hv : v = .nils ∨ ∃ a n, v = .gs a n := by
  rcases h.ns with ⟨q, _⟩ | ⟨y, q, _⟩
  ·exact .inl q
  ·exact .inr ⟨_, _, q⟩
 have hd := h.dom
 clear h
 rcases hv with rfl | ⟨va, vn, rfl⟩
 all_goals cases dir
 ·refine FnG.of' T_ok M_ok [8, 24] (fn := Tryz.f17) (by kernel_rfl) rfl rfl rfl rfl (Nat.le_of_ble_eq_true rfl) fun A hA => ?_
  cbv
  refine gbxN hA ?_
  intro g1 nid hnid hg1
  have hb1 : g1.get nid = some (.box [.bool false, .nils, .nilmap, .nils, .nilmap, .nils]) := by rw [hg1, hnid]; simp; rfl
  cbv
  refine condF hA rfl ?_
  cbv
  have u3 : Upd gh g1 lab (fun x => if x = nid then some (n, 0) else lab x) (fun _ => False) (fun _ => False) := ⟨by rw [hg1]; simp, fun x hx => by rw [if_neg (by omega)], fun x hx => by
   rw [hg1] at hx; simp at hx
   rw [if_neg (by omega)]; exact hd x (by omega), fun x hx _ _ => by
   rw [hg1]; simp only [GH.new_get]; rw [if_neg (by omega)]⟩
  have hsy := gSyncG (i := n) (c := ⟨[], []⟩) (dir := false) u3.dom hb1 (by rw [if_pos rfl]) (.inl ⟨rfl, rfl⟩) ⟨rfl, rfl⟩ (by simp)
  refine callGI hA (hsy) ?_
  intro rs_ g4 h_
  obtain ⟨q_1, lab4, u4, hN⟩ := h_
  subst q_1
  cbv
  obtain ⟨u, bp4, hap⟩ := mid _ _ g4 lab4 nid u3 u4
  rw [hnn] at hN
  have hvp4 := hvp g4 lab4 u
  refine gldI hA _ (bp4) ?_
  cbv
  refine gappN hA ls [.gp nid 0] hap ?_ (by simp) hzl hroom ?_
  ·exact ⟨rfl, by intro q hq; simp at hq; subst hq; rfl⟩
  intro g5 m x hx e1 e2 e3 e4
  have bp5 : g5.get p = some (boxD _ k) := (e3 p (Nat.lt_of_lt_of_le hp u.next) hvp4).trans bp4
  cbv
  refine gstI hA _ bp5 ?_
  intro g6 hg6
  have hg6 : g6 = g5.set p (boxD (.gs x m) k) := hg6
  obtain ⟨hm, lab6, ids', u6, hX, hids⟩ := push u hN hx e1 e2 e3 e4 hg6
  have bp6 := hX.box
  cbv
  refine gldI hA _ (bp6) ?_
  cbv
  refine glenI hA ?_
  cbv
  exact retGI hA rfl [.v (.int .i64 m)] g6 (⟨m, lab6, _, ids', rfl, hm, u6, hX, hids⟩)
 ·refine FnG.of' T_ok M_ok [8, 24] (fn := Tryz.f17) (by kernel_rfl) rfl rfl rfl rfl (Nat.le_of_ble_eq_true rfl) fun A hA => ?_
  cbv
  refine gbxN hA ?_
  intro g1 nid hnid hg1
  have hb1 : g1.get nid = some (.box [.bool true, .nils, .nilmap, .nils, .nilmap, .nils]) := by rw [hg1, hnid]; simp; rfl
  cbv
  refine condT hA rfl ?_
  cbv
  refine gmakeN hA ?_
  intro g2 mid1 hmid hg2
  have hne : nid ≠ g1.next := by rw [hnid, hg1, GH.new_next]; omega
  have hb2 : g2.get nid = some (.box [.bool true, .nils, .nilmap, .nils, .nilmap, .nils]) := by rw [hg2]; simp only [GH.new_get]; rw [if_neg hne]; exact hb1
  cbv
  refine gstI hA _ hb2 ?_
  intro g3 hg3
  have hg3 : g3 = g2.set nid (.box [.bool true, .nils, .nilmap, .nils, .gm mid1, .nils]) := hg3
  cbv
  have hn1 : g1.next = gh.next + 1 := by rw [hg1]; rfl
  have u3 : Upd gh g3 lab (labN lab gh.next (n, 0) (n, 4)) (fun _ => False) (fun _ => False) := ⟨by rw [hg3, hg2, hg1]; simp; omega, fun x hx => by unfold labN; rw [if_neg (by omega), if_neg (by omega)], fun x hx => by
   rw [hg3, hg2, hg1] at hx; simp at hx
   unfold labN; rw [if_neg (by omega), if_neg (by omega)]; exact hd x (by omega), fun x hx _ _ => by
   rw [hg3]; simp only [GH.set_get]; rw [if_neg (by omega), hg2]; simp only [GH.new_get]; rw [if_neg (by omega), hg1]; simp only [GH.new_get]; rw [if_neg (by omega)]⟩
  have hb3 : g3.get nid = some (.box [.bool true, .nils, .nilmap, .nils, .gm mid1, .nils]) := by rw [hg3]; simp
  have hsy := gSyncG (i := n) (c := ⟨[], []⟩) (dir := true) u3.dom hb3 (by unfold labN; rw [if_pos hnid]) (.inl ⟨rfl, rfl⟩) ⟨mid1, [], 0, rfl, by unfold labN; rw [if_neg (by omega), if_pos (by omega)], by rw [hg3]; simp only [GH.set_get]; rw [if_neg (by omega), hg2, hmid]; simp; rfl, mp0⟩ (by simp)
  refine callGI hA (hsy) ?_
  intro rs_ g4 h_
  obtain ⟨q_1, lab4, u4, hN⟩ := h_
  subst q_1
  cbv
  obtain ⟨u, bp4, hap⟩ := mid _ _ g4 lab4 nid u3 u4
  rw [hnn] at hN
  have hvp4 := hvp g4 lab4 u
  refine gldI hA _ (bp4) ?_
  cbv
  refine gappN hA ls [.gp nid 0] hap ?_ (by simp) hzl hroom ?_
  ·exact ⟨rfl, by intro q hq; simp at hq; subst hq; rfl⟩
  intro g5 m x hx e1 e2 e3 e4
  have bp5 : g5.get p = some (boxD _ k) := (e3 p (Nat.lt_of_lt_of_le hp u.next) hvp4).trans bp4
  cbv
  refine gstI hA _ bp5 ?_
  intro g6 hg6
  have hg6 : g6 = g5.set p (boxD (.gs x m) k) := hg6
  obtain ⟨hm, lab6, ids', u6, hX, hids⟩ := push u hN hx e1 e2 e3 e4 hg6
  have bp6 := hX.box
  cbv
  refine gldI hA _ (bp6) ?_
  cbv
  refine glenI hA ?_
  cbv
  exact retGI hA rfl [.v (.int .i64 m)] g6 (⟨m, lab6, _, ids', rfl, hm, u6, hX, hids⟩)
 ·refine FnG.of' T_ok M_ok [8, 24] (fn := Tryz.f17) (by kernel_rfl) rfl rfl rfl rfl (Nat.le_of_ble_eq_true rfl) fun A hA => ?_
  cbv
  refine gbxN hA ?_
  intro g1 nid hnid hg1
  have hb1 : g1.get nid = some (.box [.bool false, .nils, .nilmap, .nils, .nilmap, .nils]) := by rw [hg1, hnid]; simp; rfl
  cbv
  refine condF hA rfl ?_
  cbv
  have u3 : Upd gh g1 lab (fun x => if x = nid then some (n, 0) else lab x) (fun _ => False) (fun _ => False) := ⟨by rw [hg1]; simp, fun x hx => by rw [if_neg (by omega)], fun x hx => by
   rw [hg1] at hx; simp at hx
   rw [if_neg (by omega)]; exact hd x (by omega), fun x hx _ _ => by
   rw [hg1]; simp only [GH.new_get]; rw [if_neg (by omega)]⟩
  have hsy := gSyncG (i := n) (c := ⟨[], []⟩) (dir := false) u3.dom hb1 (by rw [if_pos rfl]) (.inl ⟨rfl, rfl⟩) ⟨rfl, rfl⟩ (by simp)
  refine callGI hA (hsy) ?_
  intro rs_ g4 h_
  obtain ⟨q_1, lab4, u4, hN⟩ := h_
  subst q_1
  cbv
  obtain ⟨u, bp4, hap⟩ := mid _ _ g4 lab4 nid u3 u4
  rw [hnn] at hN
  have hvp4 := hvp g4 lab4 u
  refine gldI hA _ (bp4) ?_
  cbv
  refine gappN hA ls [.gp nid 0] hap ?_ (by simp) hzl hroom ?_
  ·exact ⟨rfl, by intro q hq; simp at hq; subst hq; rfl⟩
  intro g5 m x hx e1 e2 e3 e4
  have bp5 : g5.get p = some (boxD _ k) := (e3 p (Nat.lt_of_lt_of_le hp u.next) hvp4).trans bp4
  cbv
  refine gstI hA _ bp5 ?_
  intro g6 hg6
  have hg6 : g6 = g5.set p (boxD (.gs x m) k) := hg6
  obtain ⟨hm, lab6, ids', u6, hX, hids⟩ := push u hN hx e1 e2 e3 e4 hg6
  have bp6 := hX.box
  cbv
  refine gldI hA _ (bp6) ?_
  cbv
  refine glenI hA ?_
  cbv
  exact retGI hA rfl [.v (.int .i64 m)] g6 (⟨m, lab6, _, ids', rfl, hm, u6, hX, hids⟩)
 ·refine FnG.of' T_ok M_ok [8, 24] (fn := Tryz.f17) (by kernel_rfl) rfl rfl rfl rfl (Nat.le_of_ble_eq_true rfl) fun A hA => ?_
  cbv
  refine gbxN hA ?_
  intro g1 nid hnid hg1
  have hb1 : g1.get nid = some (.box [.bool true, .nils, .nilmap, .nils, .nilmap, .nils]) := by rw [hg1, hnid]; simp; rfl
  cbv
  refine condT hA rfl ?_
  cbv
  refine gmakeN hA ?_
  intro g2 mid1 hmid hg2
  have hne : nid ≠ g1.next := by rw [hnid, hg1, GH.new_next]; omega
  have hb2 : g2.get nid = some (.box [.bool true, .nils, .nilmap, .nils, .nilmap, .nils]) := by rw [hg2]; simp only [GH.new_get]; rw [if_neg hne]; exact hb1
  cbv
  refine gstI hA _ hb2 ?_
  intro g3 hg3
  have hg3 : g3 = g2.set nid (.box [.bool true, .nils, .nilmap, .nils, .gm mid1, .nils]) := hg3
  cbv
  have hn1 : g1.next = gh.next + 1 := by rw [hg1]; rfl
  have u3 : Upd gh g3 lab (labN lab gh.next (n, 0) (n, 4)) (fun _ => False) (fun _ => False) := ⟨by rw [hg3, hg2, hg1]; simp; omega, fun x hx => by unfold labN; rw [if_neg (by omega), if_neg (by omega)], fun x hx => by
   rw [hg3, hg2, hg1] at hx; simp at hx
   unfold labN; rw [if_neg (by omega), if_neg (by omega)]; exact hd x (by omega), fun x hx _ _ => by
   rw [hg3]; simp only [GH.set_get]; rw [if_neg (by omega), hg2]; simp only [GH.new_get]; rw [if_neg (by omega), hg1]; simp only [GH.new_get]; rw [if_neg (by omega)]⟩
  have hb3 : g3.get nid = some (.box [.bool true, .nils, .nilmap, .nils, .gm mid1, .nils]) := by rw [hg3]; simp
  have hsy := gSyncG (i := n) (c := ⟨[], []⟩) (dir := true) u3.dom hb3 (by unfold labN; rw [if_pos hnid]) (.inl ⟨rfl, rfl⟩) ⟨mid1, [], 0, rfl, by unfold labN; rw [if_neg (by omega), if_pos (by omega)], by rw [hg3]; simp only [GH.set_get]; rw [if_neg (by omega), hg2, hmid]; simp; rfl, mp0⟩ (by simp)
  refine callGI hA (hsy) ?_
  intro rs_ g4 h_
  obtain ⟨q_1, lab4, u4, hN⟩ := h_
  subst q_1
  cbv
  obtain ⟨u, bp4, hap⟩ := mid _ _ g4 lab4 nid u3 u4
  rw [hnn] at hN
  have hvp4 := hvp g4 lab4 u
  refine gldI hA _ (bp4) ?_
  cbv
  refine gappN hA ls [.gp nid 0] hap ?_ (by simp) hzl hroom ?_
  ·exact ⟨rfl, by intro q hq; simp at hq; subst hq; rfl⟩
  intro g5 m x hx e1 e2 e3 e4
  have bp5 : g5.get p = some (boxD _ k) := (e3 p (Nat.lt_of_lt_of_le hp u.next) hvp4).trans bp4
  cbv
  refine gstI hA _ bp5 ?_
  intro g6 hg6
  have hg6 : g6 = g5.set p (boxD (.gs x m) k) := hg6
  obtain ⟨hm, lab6, ids', u6, hX, hids⟩ := push u hN hx e1 e2 e3 e4 hg6
  have bp6 := hX.box
  cbv
  refine gldI hA _ (bp6) ?_
  cbv
  refine glenI hA ?_
  cbv
  exact retGI hA rfl [.v (.int .i64 m)] g6 (⟨m, lab6, _, ids', rfl, hm, u6, hX, hids⟩)
def lab0 : Lab := fun _ => none
def dk0 (cap : Int) : Dk := ⟨[], cap, 0, 0, false, false, ⟨false, 0⟩, ⟨false, 0⟩⟩
def dkNew (cap : Int) : Dk := { dk0 cap with nodes := [nd0 true] }
theorem gNew (gh : GH) (lab : Lab) (hd : Dom gh lab) (hl : ∀ x, lab x ≠ some (0, 6)) (c : Int) (hc : 0 ≤ c) : FnG Tryz.prog 6 [.int .i64 c] gh fun rs g => ∃ (p : Nat) (lab' : Lab), rs = [.v (.gp p 0)] ∧ gh.next ≤ p ∧ Upd gh g lab lab' (NewT 0) (fun _ => False) ∧ DkIn g lab' p (dkNew c) := by
 have hX : ∀ (g1 : GH) (p : Nat), p = gh.next → g1 = gh.new (boxD .nils (dk0 c)) → DkX g1 (fun x => if x = p then some (0, 6) else lab x) p (dk0 c) .nils [] ∧ Upd gh g1 lab (fun x => if x = p then some (0, 6) else lab x) (NewT 0) (fun _ => False) := fun g1 p hp hg => by
  have hd1 : Dom g1 (fun x => if x = p then some (0, 6) else lab x) := fun x hx => by
   rw [hg] at hx; simp at hx
   dsimp only
   rw [if_neg (by omega)]; exact hd x (by omega)
  exact ⟨⟨hd1, by simp, by rw [hg, hp]; simp, .inl ⟨rfl, rfl⟩, rfl, fun i id nd h1 h2 => by simp at h1⟩, by rw [hg]; simp, fun x hx => by rw [if_neg (by omega)], hd1, fun x hx _ _ => by rw [hg]; simp only [GH.new_get]; rw [if_neg (by omega)]⟩
 refine FnG.of' T_ok M_ok [7] (fn := Tryz.f6) (by kernel_rfl) rfl rfl rfl rfl (Nat.le_of_ble_eq_true rfl) fun A hA => ?_
 cbv
 have hmx : A.imax 0 c = c := by
  rw [hA]
  change (if c > 0 then c else 0) = c
  split <;> omega
 refine gbxN hA ?_
 intro g1 p hp hg1
 have hg1 : g1 = gh.new (boxD .nils (dk0 c)) := hg1.trans (congrArg (fun n => gh.new (boxD .nils (dk0 n))) hmx)
 obtain ⟨hX1, u1⟩ := hX g1 p hp hg1
 cbv
 refine callGI hA (gFresh hX1 true (by simp [dk0])) ?_
 intro rs_ g2 h_
 obtain ⟨m, lab2, v2, ids2, q_1, hm, u2, hX2, _⟩ := h_
 subst q_1
 cbv
 exact retGI hA rfl [.v (.gp p 0)] g2 (⟨p, lab2, rfl, by omega, u1.trans u2, hX2.at, by simp [dkNew]⟩)
open Go Go.RowKit
theorem boxD_down {v v' : V} {k k' : Dk} (h : boxD v' k' = boxD v k) : boxD v' { k' with down := true } = boxD v { k with down := true } := by
 unfold boxD at *
 simp only [GObj.box.injEq, List.cons.injEq, V.int.injEq, V.bool.injEq, true_and, and_true] at h ⊢
 obtain ⟨h1, h2, h3, h4, h5, h6, h7, h8, h9, h10⟩ := h
 simp_all
theorem node_at {k : Dk} {i : Nat} {nd : Nd} (h : k.nodes[i]? = some nd) : k.node? ((i : Int) + 1) = some nd := by
 unfold Dk.node?
 rw [if_pos (by omega), show ((i : Int) + 1 - 1).toNat = i by omega]; exact h
theorem set_at_ (k : Dk) (i : Nat) (nd : Nd) : k.set ((i : Int) + 1) nd = { k with nodes := k.nodes.set i nd } := by
 unfold Dk.set; rw [show ((i : Int) + 1 - 1).toNat = i by omega]
def Op1T (i : Nat) (r : Nat × Nat) : Prop := r = (0, 6) ∨ NdT i r
theorem OpPost.node {gh g : GH} {lab : Lab} {p : Nat} {k : Dk} {v : V} {ids : List Nat} (h : DkX gh lab p k v ids) (hup : k.down = false) {i id : Nat} {nd : Nd} (hi : ids[i]? = some id) (hn : k.nodes[i]? = some nd) (f : Nd → Nd) {change : Bool}
  (hO : OpPost gh p k v change (fun g => ∃ lab2, Upd (gh.set p (boxD v (k.tick0 change))) g lab lab2 (NdT i) (fun _ => False) ∧ NodeAt g lab2 i id (f nd)) g) :
  ∃ lab', Upd gh g lab lab' (Op1T i) (fun _ => False) ∧ DkX g lab' p (k.op change ((i : Int) + 1) f) v ids := by
 obtain ⟨hX0, u0⟩ := h.cells (k' := k.tick0 change) rfl rfl
 have u0' := u0.weak (T' := Op1T i) (X' := fun _ => False) (fun r e => .inl e) (fun _ h => h.elim)
 unfold OpPost at hO
 have hop : k.op change ((i : Int) + 1) f = if k.does then { k.tick change with nodes := k.nodes.set i (f nd) } else k.tick change := by
  unfold Dk.op; rw [node_at hn]; dsimp only; rw [set_at_]; rfl
 rw [hop]
 split at hO
 ·rename_i hdoes
  rw [if_pos hdoes]
  obtain ⟨g2, ⟨lab2, u2, hN⟩, e1, e2⟩ := hO
  have hX2 := hX0.node hi hn u2 hN
  have u2' := u0'.trans (u2.weak (T' := Op1T i) (X' := fun _ => False) (fun r e => .inr e) (fun _ h => h.elim))
  cases hh : k.fail.hit with
  | false =>
   obtain rfl := e1 hh
   refine ⟨lab2, u2', ?_⟩
   have e : ({ k.tick change with nodes := k.nodes.set i (f nd) } : Dk) = { k.tick0 change with nodes := k.nodes.set i (f nd) } := by
    unfold Dk.tick Dk.tick0; rw [hh, hup]; rfl
   rw [e]; exact hX2
  | true =>
   obtain ⟨v', k', q1, q2⟩ := e2 hh
   have hb : boxD v' k' = boxD v { k.tick0 change with nodes := k.nodes.set i (f nd) } := Option.some.inj (q1.symm.trans hX2.box)
   obtain ⟨hX3, u3⟩ := hX2.cells (g := g) (k' := { k.tick change with nodes := k.nodes.set i (f nd) }) (by rw [q2, boxD_down hb]; unfold Dk.tick Dk.tick0; rw [hh, Bool.or_true]) rfl
   exact ⟨lab2, u2'.trans (u3.weak (fun r e => .inl e) (fun _ h => h.elim)), hX3⟩
 ·rename_i hdoes
  rw [if_neg hdoes]
  have hh : k.fail.hit = true := by
   cases q : k.fail.hit with
   | true => rfl
   | false => exact absurd (show k.does = true by simp [Dk.does, q]) hdoes
  obtain ⟨hX1, u1⟩ := h.cells (k' := k.tick change) (g := g) (by rw [hO]; unfold Dk.tick Dk.tick0; rw [hh, Bool.or_true]) rfl
  exact ⟨lab, u1.weak (fun r e => .inl e) (fun _ h => h.elim), hX1⟩
theorem Got.at_ {k : Dk} {ids : List Nat} {i : Int} {x : V} {id : Nat} {nd : Nd} (h : Got k ids i x id nd) : ∃ j : Nat, i = (j : Int) + 1 ∧ ids[j]? = some id ∧ k.nodes[j]? = some nd :=
 ⟨(i - 1).toNat, by have := h.pos; omega, h.id, h.nd⟩
structure PkOk (k : Dk) (B : Nat) : Prop where
 one : 1 ≤ k.nodes.length
 most : k.nodes.length ≤ 4096
 ls : ∀ nd ∈ k.nodes, LsOk nd.dir nd.safe nd.loose
 sz : ∀ nd ∈ k.nodes, nd.safe.b.length + nd.parts ≤ B
 root : ∃ nd, k.nodes[0]? = some nd ∧ nd.dir = true
 en : ∀ (i : Nat) (nd : Nd), k.nodes[i]? = some nd → (∀ e ∈ nd.safe.en, i + 1 < e.2 ∧ e.2 ≤ k.nodes.length) ∧ ∀ s j, Stp.link s j ∈ nd.loose → i + 1 < j ∧ j ≤ k.nodes.length
theorem seen_len (nd : Nd) : nd.seen.b.length ≤ nd.safe.b.length + nd.parts := by
 unfold Nd.seen Nd.parts
 generalize nd.safe = c
 generalize nd.loose = l
 induction l generalizing c with
 | nil => simp
 | cons s r ih =>
  have h1 := ih (s.run c s.parts)
  have h2 := s.run_len c s.parts
  simp only [List.foldl_cons, List.map_cons, List.sum_cons]; omega
theorem lsOk_app {dir : Bool} : ∀ {l : List Stp} {c : Ct} {s : Stp}, LsOk dir c l → StOk dir (l.foldl (fun c s => s.run c s.parts) c) s.parts s → 1 ≤ s.parts → LsOk dir c (l ++ [s])
 | [], c, s, _, h, h1 => ⟨h, h1, trivial⟩
 | x :: r, c, s, h, h2, h1 => ⟨h.1, h.2.1, lsOk_app h.2.2 h2 h1⟩
end Go.Proofs.YthioccbgjkbmdaaGreat.AM
