/-
  Contracts: a disk's crash.
-/
import Derived.Test.YthioccbgjkbmdaaM18209dae3d
set_option linter.unusedVariables false
set_option linter.unusedSimpArgs false
namespace Go.Proofs.Ythioccbgjkbmdaa.AM
open Go Go.RowKit
set_option maxRecDepth 100000
set_option maxHeartbeats 4000000

/-- A disk at a place, with the row of its nodes. -/
structure DkX (gh : GH) (lab : Lab) (p : Nat) (k : Dk) (v : V) (ids : List Nat) : Prop where
  dom : Dom gh lab
  lp : lab p = some (0, 6)
  box : gh.get p = some (boxD v k)
  ns : NsV gh lab v ids
  len : ids.length = k.nodes.length
  at_ : ∀ i id nd, ids[i]? = some id → k.nodes[i]? = some nd → NodeAt gh lab i id nd
theorem DiskAt.x {gh : GH} {lab : Lab} {p : Nat} {k : Dk} (h : DiskAt gh lab p k) : ∃ v ids, DkX gh lab p k v ids := by
  obtain ⟨h1, h2, v, ids, h3, h4, h5, h6⟩ := h
  exact ⟨v, ids, h1, h2, h3, h4, h5, h6⟩
theorem DkX.at {gh : GH} {lab : Lab} {p : Nat} {k : Dk} {v : V} {ids : List Nat} (h : DkX gh lab p k v ids) : DiskAt gh lab p k := ⟨h.dom, h.lp, v, ids, h.box, h.ns, h.len, h.at_⟩
/-- One node is another one. -/
theorem DkX.node {gh g : GH} {lab lab' : Lab} {p : Nat} {k : Dk} {v : V} {ids : List Nat} (h : DkX gh lab p k v ids) {i id : Nat} {nd nd' : Nd} (hi : ids[i]? = some id) (hn : k.nodes[i]? = some nd) (u : Upd gh g lab lab' (NdT i) (fun _ => False)) (hN : NodeAt g lab' i id nd') : DkX g lab' p { k with nodes := k.nodes.set i nd' } v ids := by
  have no : ∀ {j : Nat}, 5 < j → ¬ NdT i (0, j) := fun h t => by have := t.2; dsimp only at this; omega
  obtain ⟨q1, q2⟩ := upd_id h.dom u h.lp (no (by decide)) (fun h => h) h.box
  refine ⟨u.dom, q1, q2, h.ns.upd h.dom u (no (by decide)) (fun _ h => h.elim), by rw [h.len]; simp, fun j jd nj h1 h2 => ?_⟩
  rw [List.getElem?_set] at h2
  split at h2
  · rename_i e
    subst e
    split at h2
    · cases h2
      rw [hi] at h1; cases h1; exact hN
    · cases h2
  · rename_i e
    exact (h.at_ j jd nj h1 h2).upd h.dom u (fun x _ t => e t.1.symm) (fun _ h => h.elim)
/-- What holds of each node. -/
structure NdOk (nd : Nd) : Prop where
  ok : LsOk nd.dir nd.safe nd.loose
  sz : nd.safe.b.length + nd.parts ≤ 1000000000
theorem lsOk_len {dir : Bool} : ∀ {l : List Stp} {c : Ct}, LsOk dir c l → l.length ≤ (l.map Stp.parts).sum
  | [], _, _ => by simp
  | x :: r, c, h => by
    have := lsOk_len h.2.2
    have := h.2.1
    simp only [List.length_cons, List.map_cons, List.sum_cons]; omega
theorem Stp.run_len (s : Stp) (c : Ct) (k : Nat) : (s.run c k).b.length ≤ c.b.length + k := by
  cases s <;> simp [Stp.run] <;> omega
theorem runs_len : ∀ (l : List Stp) (c : Ct) (k : Nat), (runs c l k).b.length ≤ c.b.length + k
  | [], c, k => by simp [runs]
  | s :: r, c, k => by
    rw [runs]
    split
    · omega
    · have h1 := runs_len r (s.run c (min k s.parts)) (k - s.parts)
      have h2 := s.run_len c (min k s.parts)
      omega
theorem NdOk.crash {nd : Nd} (h : NdOk nd) (k : Nat) (hk : k ≤ nd.parts) : NdOk (nd.crash k) := by
  have := runs_len nd.loose nd.safe k
  have := h.sz
  exact ⟨trivial, by simp only [Nd.crash, Nd.parts, List.map_nil, List.sum_nil]; omega⟩
/-- How many parts stay. -/
def keepN (nd : Nd) (keep : Bs) : Nat := if nd.parts = 0 then 0 else match keep with
  | [] => 0
  | c :: _ => c.toNat % (nd.parts + 1)
def keepR (nd : Nd) (keep : Bs) : Bs := if nd.parts = 0 then keep else keep.tail
def crashL : List Nd → Bs → List Nd
  | [], _ => []
  | nd :: r, keep => nd.crash (keepN nd keep) :: crashL r (keepR nd keep)
def Dk.crash (k : Dk) (keep : Bs) : Dk := { k with nodes := crashL k.nodes keep, down := false, fail := ⟨false, 0⟩, full := ⟨false, 0⟩ }
theorem keepN_le (nd : Nd) (keep : Bs) : keepN nd keep ≤ nd.parts := by
  unfold keepN
  split
  · omega
  · cases keep with
    | nil => exact Nat.zero_le _
    | cons c r => exact Nat.le_of_lt_succ (Nat.mod_lt _ (Nat.succ_pos _))
theorem crashL_len : ∀ (l : List Nd) (keep : Bs), (crashL l keep).length = l.length
  | [], _ => rfl
  | nd :: r, keep => by simp [crashL, crashL_len r]
/-- Where the loop over the nodes stands. -/
structure CkIn (gh : GH) (lab : Lab) (p : Nat) (k : Dk) (keep : Bs) (v : V) (ids : List Nat) (m : Int) (l : List V) (g : GH) (j : Nat) (ns : List Nd) (kp : Bs) (lab' : Lab) : Prop where
  m_ : m = (j : Nat)
  j_ : j ≤ k.nodes.length
  x : DkX g lab' p { k with nodes := ns } v ids
  u : Upd gh g lab lab' (fun _ => True) (fun _ => False)
  l_ : l = bytesV kp
  dr : ns.drop j = k.nodes.drop j
  all : ns.take j ++ crashL (ns.drop j) kp = crashL k.nodes keep
theorem CkIn.step {gh : GH} {lab : Lab} {p : Nat} {k : Dk} {keep : Bs} {v : V} {ids : List Nat} {m : Int} {l : List V} {g : GH} {j : Nat} {ns : List Nd} {kp : Bs} {lab' : Lab} (h : CkIn gh lab p k keep v ids m l g j ns kp lab') {nd : Nd} {id : Nat} (hid : ids[j]? = some id) (hnd : ns[j]? = some nd) (hj : j < k.nodes.length) {g' : GH} {lab2 : Lab} (u : Upd g g' lab' lab2 (NdT j) (fun _ => False)) (hN : NodeAt g' lab2 j id (nd.crash (keepN nd kp))) {m' : Int} {l' : List V} (hm : m' = ((j + 1 : Nat) : Int)) (hl : l' = bytesV (keepR nd kp)) :
    ∃ j ns kp lab', CkIn gh lab p k keep v ids m' l' g' j ns kp lab' := by
  obtain ⟨h1, h1'⟩ := List.getElem?_eq_some_iff.1 hnd
  have hs : ns.set j (nd.crash (keepN nd kp)) = ns.take j ++ nd.crash (keepN nd kp) :: ns.drop (j + 1) := by rw [List.set_eq_take_append_cons_drop, if_pos h1]
  have hlt : (ns.take j).length = j := by simp; omega
  have hd : (ns.set j (nd.crash (keepN nd kp))).drop (j + 1) = ns.drop (j + 1) := by
    rw [hs, List.drop_append, hlt, List.drop_of_length_le (by omega)]; simp [show j + 1 - j = 1 by omega]
  have ht : (ns.set j (nd.crash (keepN nd kp))).take (j + 1) = ns.take j ++ [nd.crash (keepN nd kp)] := by
    rw [hs, List.take_append, hlt, List.take_of_length_le (by omega)]; simp [show j + 1 - j = 1 by omega]
  have e0 : ns.drop j = nd :: ns.drop (j + 1) := by rw [List.drop_eq_getElem_cons h1, h1']
  have e1 := h.all
  rw [e0, crashL] at e1
  refine ⟨j + 1, ns.set j (nd.crash (keepN nd kp)), keepR nd kp, lab2, hm, hj, h.x.node hid hnd u hN, h.u.trans (u.weak (fun _ _ => trivial) (fun _ h => h.elim)), hl, ?_, ?_⟩
  · rw [hd]
    have := congrArg (List.drop 1) h.dr
    rw [List.drop_drop, List.drop_drop] at this
    simpa [Nat.add_comm] using this
  · rw [hd, ht, List.append_assoc]; exact e1
theorem CkIn.end {gh : GH} {lab : Lab} {p : Nat} {k : Dk} {keep : Bs} {v : V} {ids : List Nat} {m : Int} {l : List V} {g : GH} {j : Nat} {ns : List Nd} {kp : Bs} {lab' : Lab} (h : CkIn gh lab p k keep v ids m l g j ns kp lab') (hl : ids.length = k.nodes.length) (hj : j = k.nodes.length) : DkX g lab' p { k with nodes := crashL k.nodes keep } v ids := by
  have h1 : ns.length = k.nodes.length := h.x.len.symm.trans hl
  have e := h.all
  rw [List.take_of_length_le (by omega), List.drop_of_length_le (by omega)] at e
  simp only [crashL, List.append_nil] at e
  rw [← e]; exact h.x
/-- The disk's own cells are other ones. -/
theorem DkX.cells {gh g : GH} {lab : Lab} {p : Nat} {k k' : Dk} {v : V} {ids : List Nat} (h : DkX gh lab p k v ids) (hg : g = gh.set p (boxD v k')) (hk : k'.nodes = k.nodes) : DkX g lab p k' v ids ∧ Upd gh g lab lab (fun r => r = (0, 6)) (fun _ => False) := by
  have u : Upd gh g lab lab (fun r => r = (0, 6)) (fun _ => False) := hg ▸ upd_set h.dom _ h.lp
  exact ⟨⟨u.dom, h.lp, by rw [hg]; simp, h.ns.upd h.dom u (by simp) (fun _ h => h.elim), by rw [hk]; exact h.len, fun i id nd h1 h2 => (h.at_ i id nd h1 (hk ▸ h2)).upd h.dom u (fun j hj e => by have := congrArg Prod.snd e; dsimp only at this; omega) (fun _ h => h.elim)⟩, u⟩
end Go.Proofs.Ythioccbgjkbmdaa.AM

/-
  Contracts: an op of a disk.
-/
set_option linter.unusedVariables false
set_option linter.unusedSimpArgs false
namespace Go.Proofs.Ythioccbgjkbmdaa.AM
open Go Go.RowKit
set_option maxRecDepth 100000
set_option maxHeartbeats 4000000

theorem GH.eq_of {a b : GH} (h1 : a.next = b.next) (h2 : ∀ x, a.get x = b.get x) : a = b := by
  cases a; cases b
  obtain rfl := h1
  obtain rfl := funext h2
  rfl
/-- What is counted ahead of an op. -/
def Dk.tick0 (k : Dk) (change : Bool) : Dk := { k with ops := w64 (k.ops + 1), changes := if change then w64 (k.changes + 1) else k.changes, fail := k.fail.next }
/-- What an op leaves. -/
def OpPost (gh : GH) (p : Nat) (k : Dk) (v : V) (change : Bool) (Q : GH → Prop) (g : GH) : Prop :=
  if k.does then ∃ g2, Q g2 ∧ (k.fail.hit = false → g = g2) ∧ (k.fail.hit = true → ∃ v' k', g2.get p = some (boxD v' k') ∧ g = g2.set p (boxD v' { k' with down := true })) else g = gh.set p (boxD v (k.tick0 change |> fun q => { q with down := true }))
theorem gOp2 {gh : GH} {p : Nat} {k : Dk} {v : V} (hg : gh.get p = some (boxD v k)) (change : Bool) (f : Nat) (xc0 xc1 : V) (Q : GH → Prop) (hdo : k.does = true → FnG Try.prog f [xc0, xc1] (gh.set p (boxD v (k.tick0 change))) fun rs g => rs = [] ∧ Q g) (hQ : ∀ g, Q g → ∃ v' k', g.get p = some (boxD v' k')) :
    FnG Try.prog 46 [.gp p 0, .bool change, .clo f [xc0, xc1]] gh fun rs g => ∃ e : Int, rs = [.v (.int .i64 e)] ∧ e = k.opE ∧ OpPost gh p k v change Q g := by
  have nx : ∀ (g2 g3 : GH), g2 = gh.set p (boxD v { k with ops := w64 (k.ops + 1), changes := if change then w64 (k.changes + 1) else k.changes }) → g3.next = g2.next → (∀ x, x ≠ p → g3.get x = g2.get x) → g3.get p = some (boxD v (k.tick0 change)) → g3 = gh.set p (boxD v (k.tick0 change)) := fun g2 g3 e1 e2 e3 e4 => by
    refine GH.eq_of (by rw [e2, e1]; rfl) fun x => ?_
    rcases Nat.decEq x p with h | h
    · rw [e3 x h, e1]; simp [h]
    · rw [h, e4]; simp
  have c1 : k.fail.hit = false → k.does = true ∧ k.opE = 0 := fun h => by simp [Dk.does, Dk.opE, h]
  have c2 : k.fail.hit = true → k.opE = 12 := fun h => by simp [Dk.opE, h]
  have c3 : k.done = true → k.does = true := fun h => by simp [Dk.does, h]
  have c4 : k.fail.hit = true → ¬ k.done = true → ¬ k.does = true := fun h h2 => by simp [Dk.does, h, h2]
  have c5 : ∀ g, k.fail.hit = false → Q g → OpPost gh p k v change Q g := fun g h hq => by
    unfold OpPost; rw [if_pos (c1 h).1]; exact ⟨g, hq, fun _ => rfl, fun e => by rw [h] at e; cases e⟩
  have c6 : ∀ g2 g v' k', k.fail.hit = true → k.done = true → Q g2 → g2.get p = some (boxD v' k') → g = g2.set p (boxD v' { k' with down := true }) → OpPost gh p k v change Q g := fun g2 g v' k' h hd hq e1 e2 => by
    unfold OpPost; rw [if_pos (c3 hd)]; exact ⟨g2, hq, fun e => by rw [h] at e; (cases e), fun _ => ⟨v', k', e1, e2⟩⟩
  have c7 : ∀ g2 g, k.fail.hit = true → ¬ k.done = true → g2 = gh.set p (boxD v (k.tick0 change)) → g = g2.set p (boxD v { k.tick0 change with down := true }) → OpPost gh p k v change Q g := fun g2 g h hd e1 e2 => by
    unfold OpPost; rw [if_neg (c4 h hd), e2, e1, set_set]
  cases change
  · refine FnG.of' T_ok M_ok [] (fn := Try.f46) (by kernel_rfl) rfl rfl rfl rfl (Nat.le_of_ble_eq_true rfl) fun A hA => ?_
    cbv
    refine gldI hA _ (hg) ?_
    cbv
    refine gstI hA _ hg ?_
    intro g1 hg1
    have hg1 : g1 = gh.set p (boxD v { k with ops := w64 (k.ops + 1) }) := hg1.trans (congrArg (fun n => gh.set p (boxD v { k with ops := n })) (zadd hA k.ops 1))
    obtain ⟨k1, hk1⟩ : ∃ q : Dk, q = { k with ops := w64 (k.ops + 1) } := ⟨_, rfl⟩
    have b1 : g1.get p = some (boxD v k1) := by rw [hg1, hk1]; simp
    cbv
    refine condF hA rfl ?_
    cbv
    refine callGI hA (gNext k1.fail b1 rfl rfl) ?_
    intro rs_ g3 h_
    obtain ⟨c, q_1, hc, e2, e3, e4⟩ := h_
    subst q_1
    cbv
    replace e4 : g3.get p = some (boxD v { k1 with fail := k1.fail.next }) := e4
    rw [hk1] at e4 hc
    have hg3 : g3 = gh.set p (boxD v (k.tick0 false)) := nx g1 g3 hg1 e2 e3 e4
    obtain ⟨k3, hk3⟩ : ∃ q : Dk, q = k.tick0 false := ⟨_, rfl⟩
    have b3 : g3.get p = some (boxD v k3) := by rw [hk3]; exact e4
    have hkd : k3.done = k.done := by rw [hk3]; rfl
    refine condI hA (fun h1 => ?_) (fun h1 => ?_)
    · have h1 : k.fail.hit = false := hc ▸ znotT hA h1
      have hd : FnG Try.prog f [xc0, xc1] g3 fun rs g => rs = [] ∧ Q g := by rw [hg3]; exact hdo (c1 h1).1
      cbv
      refine callGI hA (hd) ?_
      intro rs_ g4 h_
      obtain ⟨q_1, hq⟩ := h_
      subst q_1
      cbv
      exact retGI hA rfl [.v (.int .i64 0)] g4 (⟨_, rfl, (c1 h1).2.symm, c5 g4 h1 hq⟩) (by first | exact ⟨rfl, trivial⟩ | exact ⟨rfl, rfl, trivial⟩ | exact ⟨rfl, rfl, rfl, trivial⟩ | trivial)
    · have h1 : k.fail.hit = true := hc ▸ znotF hA h1
      cbv
      refine gldI hA _ (b3) ?_
      cbv
      refine condI hA (fun h2 => ?_) (fun h2 => ?_)
      · have h2 : k.done = true := hkd ▸ h2
        have hd : FnG Try.prog f [xc0, xc1] g3 fun rs g => rs = [] ∧ Q g := by rw [hg3]; exact hdo (c3 h2)
        cbv
        refine callGI hA (hd) ?_
        intro rs_ g4 h_
        obtain ⟨q_1, hq⟩ := h_
        subst q_1
        cbv
        obtain ⟨v', k', e5⟩ := hQ g4 hq
        refine gstI hA _ (e5) ?_
        rintro g5 hg5
        cbv
        exact retGI hA rfl [.v (.int .i64 12)] g5 (⟨_, rfl, (c2 h1).symm, c6 g4 g5 v' k' h1 h2 hq e5 hg5⟩) (by first | exact ⟨rfl, trivial⟩ | exact ⟨rfl, rfl, trivial⟩ | exact ⟨rfl, rfl, rfl, trivial⟩ | trivial)
      · cbv
        refine gstI hA _ (b3) ?_
        rintro g5 hg5
        cbv
        exact retGI hA rfl [.v (.int .i64 12)] g5 (⟨_, rfl, (c2 h1).symm, c7 g3 g5 h1 (by rw [← hkd, h2]; decide) hg3 (by rw [hg5, hk3]; rfl)⟩) (by first | exact ⟨rfl, trivial⟩ | exact ⟨rfl, rfl, trivial⟩ | exact ⟨rfl, rfl, rfl, trivial⟩ | trivial)
  · refine FnG.of' T_ok M_ok [] (fn := Try.f46) (by kernel_rfl) rfl rfl rfl rfl (Nat.le_of_ble_eq_true rfl) fun A hA => ?_
    cbv
    refine gldI hA _ (hg) ?_
    cbv
    refine gstI hA _ hg ?_
    intro g1 hg1
    have hg1 : g1 = gh.set p (boxD v { k with ops := w64 (k.ops + 1) }) := hg1.trans (congrArg (fun n => gh.set p (boxD v { k with ops := n })) (zadd hA k.ops 1))
    obtain ⟨k1, hk1⟩ : ∃ q : Dk, q = { k with ops := w64 (k.ops + 1) } := ⟨_, rfl⟩
    have b1 : g1.get p = some (boxD v k1) := by rw [hg1, hk1]; simp
    cbv
    refine condT hA rfl ?_
    cbv
    refine gldI hA _ (b1) ?_
    cbv
    refine gstI hA _ b1 ?_
    intro g2 hg2
    have hg2 : g2 = g1.set p (boxD v { k1 with changes := w64 (k1.changes + 1) }) := hg2.trans (congrArg (fun n => g1.set p (boxD v { k1 with changes := n })) (zadd hA k1.changes 1))
    have hg2 : g2 = gh.set p (boxD v { k with ops := w64 (k.ops + 1), changes := w64 (k.changes + 1) }) := hg2.trans (by rw [hg1, set_set, hk1])
    obtain ⟨k2, hk2⟩ : ∃ q : Dk, q = { k with ops := w64 (k.ops + 1), changes := w64 (k.changes + 1) } := ⟨_, rfl⟩
    have b2 : g2.get p = some (boxD v k2) := by rw [hg2, hk2]; simp
    cbv
    refine callGI hA (gNext k2.fail b2 rfl rfl) ?_
    intro rs_ g3 h_
    obtain ⟨c, q_1, hc, e2, e3, e4⟩ := h_
    subst q_1
    cbv
    replace e4 : g3.get p = some (boxD v { k2 with fail := k2.fail.next }) := e4
    rw [hk2] at e4 hc
    have hg3 : g3 = gh.set p (boxD v (k.tick0 true)) := nx g2 g3 hg2 e2 e3 e4
    obtain ⟨k3, hk3⟩ : ∃ q : Dk, q = k.tick0 true := ⟨_, rfl⟩
    have b3 : g3.get p = some (boxD v k3) := by rw [hk3]; exact e4
    have hkd : k3.done = k.done := by rw [hk3]; rfl
    refine condI hA (fun h1 => ?_) (fun h1 => ?_)
    · have h1 : k.fail.hit = false := hc ▸ znotT hA h1
      have hd : FnG Try.prog f [xc0, xc1] g3 fun rs g => rs = [] ∧ Q g := by rw [hg3]; exact hdo (c1 h1).1
      cbv
      refine callGI hA (hd) ?_
      intro rs_ g4 h_
      obtain ⟨q_1, hq⟩ := h_
      subst q_1
      cbv
      exact retGI hA rfl [.v (.int .i64 0)] g4 (⟨_, rfl, (c1 h1).2.symm, c5 g4 h1 hq⟩) (by first | exact ⟨rfl, trivial⟩ | exact ⟨rfl, rfl, trivial⟩ | exact ⟨rfl, rfl, rfl, trivial⟩ | trivial)
    · have h1 : k.fail.hit = true := hc ▸ znotF hA h1
      cbv
      refine gldI hA _ (b3) ?_
      cbv
      refine condI hA (fun h2 => ?_) (fun h2 => ?_)
      · have h2 : k.done = true := hkd ▸ h2
        have hd : FnG Try.prog f [xc0, xc1] g3 fun rs g => rs = [] ∧ Q g := by rw [hg3]; exact hdo (c3 h2)
        cbv
        refine callGI hA (hd) ?_
        intro rs_ g4 h_
        obtain ⟨q_1, hq⟩ := h_
        subst q_1
        cbv
        obtain ⟨v', k', e5⟩ := hQ g4 hq
        refine gstI hA _ (e5) ?_
        rintro g5 hg5
        cbv
        exact retGI hA rfl [.v (.int .i64 12)] g5 (⟨_, rfl, (c2 h1).symm, c6 g4 g5 v' k' h1 h2 hq e5 hg5⟩) (by first | exact ⟨rfl, trivial⟩ | exact ⟨rfl, rfl, trivial⟩ | exact ⟨rfl, rfl, rfl, trivial⟩ | trivial)
      · cbv
        refine gstI hA _ (b3) ?_
        rintro g5 hg5
        cbv
        exact retGI hA rfl [.v (.int .i64 12)] g5 (⟨_, rfl, (c2 h1).symm, c7 g3 g5 h1 (by rw [← hkd, h2]; decide) hg3 (by rw [hg5, hk3]; rfl)⟩) (by first | exact ⟨rfl, trivial⟩ | exact ⟨rfl, rfl, trivial⟩ | exact ⟨rfl, rfl, rfl, trivial⟩ | trivial)
theorem gOp3 {gh : GH} {p : Nat} {k : Dk} {v : V} (hg : gh.get p = some (boxD v k)) (change : Bool) (f : Nat) (xc0 xc1 xc2 : V) (Q : GH → Prop) (hdo : k.does = true → FnG Try.prog f [xc0, xc1, xc2] (gh.set p (boxD v (k.tick0 change))) fun rs g => rs = [] ∧ Q g) (hQ : ∀ g, Q g → ∃ v' k', g.get p = some (boxD v' k')) :
    FnG Try.prog 46 [.gp p 0, .bool change, .clo f [xc0, xc1, xc2]] gh fun rs g => ∃ e : Int, rs = [.v (.int .i64 e)] ∧ e = k.opE ∧ OpPost gh p k v change Q g := by
  have nx : ∀ (g2 g3 : GH), g2 = gh.set p (boxD v { k with ops := w64 (k.ops + 1), changes := if change then w64 (k.changes + 1) else k.changes }) → g3.next = g2.next → (∀ x, x ≠ p → g3.get x = g2.get x) → g3.get p = some (boxD v (k.tick0 change)) → g3 = gh.set p (boxD v (k.tick0 change)) := fun g2 g3 e1 e2 e3 e4 => by
    refine GH.eq_of (by rw [e2, e1]; rfl) fun x => ?_
    rcases Nat.decEq x p with h | h
    · rw [e3 x h, e1]; simp [h]
    · rw [h, e4]; simp
  have c1 : k.fail.hit = false → k.does = true ∧ k.opE = 0 := fun h => by simp [Dk.does, Dk.opE, h]
  have c2 : k.fail.hit = true → k.opE = 12 := fun h => by simp [Dk.opE, h]
  have c3 : k.done = true → k.does = true := fun h => by simp [Dk.does, h]
  have c4 : k.fail.hit = true → ¬ k.done = true → ¬ k.does = true := fun h h2 => by simp [Dk.does, h, h2]
  have c5 : ∀ g, k.fail.hit = false → Q g → OpPost gh p k v change Q g := fun g h hq => by
    unfold OpPost; rw [if_pos (c1 h).1]; exact ⟨g, hq, fun _ => rfl, fun e => by rw [h] at e; cases e⟩
  have c6 : ∀ g2 g v' k', k.fail.hit = true → k.done = true → Q g2 → g2.get p = some (boxD v' k') → g = g2.set p (boxD v' { k' with down := true }) → OpPost gh p k v change Q g := fun g2 g v' k' h hd hq e1 e2 => by
    unfold OpPost; rw [if_pos (c3 hd)]; exact ⟨g2, hq, fun e => by rw [h] at e; (cases e), fun _ => ⟨v', k', e1, e2⟩⟩
  have c7 : ∀ g2 g, k.fail.hit = true → ¬ k.done = true → g2 = gh.set p (boxD v (k.tick0 change)) → g = g2.set p (boxD v { k.tick0 change with down := true }) → OpPost gh p k v change Q g := fun g2 g h hd e1 e2 => by
    unfold OpPost; rw [if_neg (c4 h hd), e2, e1, set_set]
  cases change
  · refine FnG.of' T_ok M_ok [] (fn := Try.f46) (by kernel_rfl) rfl rfl rfl rfl (Nat.le_of_ble_eq_true rfl) fun A hA => ?_
    cbv
    refine gldI hA _ (hg) ?_
    cbv
    refine gstI hA _ hg ?_
    intro g1 hg1
    have hg1 : g1 = gh.set p (boxD v { k with ops := w64 (k.ops + 1) }) := hg1.trans (congrArg (fun n => gh.set p (boxD v { k with ops := n })) (zadd hA k.ops 1))
    obtain ⟨k1, hk1⟩ : ∃ q : Dk, q = { k with ops := w64 (k.ops + 1) } := ⟨_, rfl⟩
    have b1 : g1.get p = some (boxD v k1) := by rw [hg1, hk1]; simp
    cbv
    refine condF hA rfl ?_
    cbv
    refine callGI hA (gNext k1.fail b1 rfl rfl) ?_
    intro rs_ g3 h_
    obtain ⟨c, q_1, hc, e2, e3, e4⟩ := h_
    subst q_1
    cbv
    replace e4 : g3.get p = some (boxD v { k1 with fail := k1.fail.next }) := e4
    rw [hk1] at e4 hc
    have hg3 : g3 = gh.set p (boxD v (k.tick0 false)) := nx g1 g3 hg1 e2 e3 e4
    obtain ⟨k3, hk3⟩ : ∃ q : Dk, q = k.tick0 false := ⟨_, rfl⟩
    have b3 : g3.get p = some (boxD v k3) := by rw [hk3]; exact e4
    have hkd : k3.done = k.done := by rw [hk3]; rfl
    refine condI hA (fun h1 => ?_) (fun h1 => ?_)
    · have h1 : k.fail.hit = false := hc ▸ znotT hA h1
      have hd : FnG Try.prog f [xc0, xc1, xc2] g3 fun rs g => rs = [] ∧ Q g := by rw [hg3]; exact hdo (c1 h1).1
      cbv
      refine callGI hA (hd) ?_
      intro rs_ g4 h_
      obtain ⟨q_1, hq⟩ := h_
      subst q_1
      cbv
      exact retGI hA rfl [.v (.int .i64 0)] g4 (⟨_, rfl, (c1 h1).2.symm, c5 g4 h1 hq⟩) (by first | exact ⟨rfl, trivial⟩ | exact ⟨rfl, rfl, trivial⟩ | exact ⟨rfl, rfl, rfl, trivial⟩ | trivial)
    · have h1 : k.fail.hit = true := hc ▸ znotF hA h1
      cbv
      refine gldI hA _ (b3) ?_
      cbv
      refine condI hA (fun h2 => ?_) (fun h2 => ?_)
      · have h2 : k.done = true := hkd ▸ h2
        have hd : FnG Try.prog f [xc0, xc1, xc2] g3 fun rs g => rs = [] ∧ Q g := by rw [hg3]; exact hdo (c3 h2)
        cbv
        refine callGI hA (hd) ?_
        intro rs_ g4 h_
        obtain ⟨q_1, hq⟩ := h_
        subst q_1
        cbv
        obtain ⟨v', k', e5⟩ := hQ g4 hq
        refine gstI hA _ (e5) ?_
        rintro g5 hg5
        cbv
        exact retGI hA rfl [.v (.int .i64 12)] g5 (⟨_, rfl, (c2 h1).symm, c6 g4 g5 v' k' h1 h2 hq e5 hg5⟩) (by first | exact ⟨rfl, trivial⟩ | exact ⟨rfl, rfl, trivial⟩ | exact ⟨rfl, rfl, rfl, trivial⟩ | trivial)
      · cbv
        refine gstI hA _ (b3) ?_
        rintro g5 hg5
        cbv
        exact retGI hA rfl [.v (.int .i64 12)] g5 (⟨_, rfl, (c2 h1).symm, c7 g3 g5 h1 (by rw [← hkd, h2]; decide) hg3 (by rw [hg5, hk3]; rfl)⟩) (by first | exact ⟨rfl, trivial⟩ | exact ⟨rfl, rfl, trivial⟩ | exact ⟨rfl, rfl, rfl, trivial⟩ | trivial)
  · refine FnG.of' T_ok M_ok [] (fn := Try.f46) (by kernel_rfl) rfl rfl rfl rfl (Nat.le_of_ble_eq_true rfl) fun A hA => ?_
    cbv
    refine gldI hA _ (hg) ?_
    cbv
    refine gstI hA _ hg ?_
    intro g1 hg1
    have hg1 : g1 = gh.set p (boxD v { k with ops := w64 (k.ops + 1) }) := hg1.trans (congrArg (fun n => gh.set p (boxD v { k with ops := n })) (zadd hA k.ops 1))
    obtain ⟨k1, hk1⟩ : ∃ q : Dk, q = { k with ops := w64 (k.ops + 1) } := ⟨_, rfl⟩
    have b1 : g1.get p = some (boxD v k1) := by rw [hg1, hk1]; simp
    cbv
    refine condT hA rfl ?_
    cbv
    refine gldI hA _ (b1) ?_
    cbv
    refine gstI hA _ b1 ?_
    intro g2 hg2
    have hg2 : g2 = g1.set p (boxD v { k1 with changes := w64 (k1.changes + 1) }) := hg2.trans (congrArg (fun n => g1.set p (boxD v { k1 with changes := n })) (zadd hA k1.changes 1))
    have hg2 : g2 = gh.set p (boxD v { k with ops := w64 (k.ops + 1), changes := w64 (k.changes + 1) }) := hg2.trans (by rw [hg1, set_set, hk1])
    obtain ⟨k2, hk2⟩ : ∃ q : Dk, q = { k with ops := w64 (k.ops + 1), changes := w64 (k.changes + 1) } := ⟨_, rfl⟩
    have b2 : g2.get p = some (boxD v k2) := by rw [hg2, hk2]; simp
    cbv
    refine callGI hA (gNext k2.fail b2 rfl rfl) ?_
    intro rs_ g3 h_
    obtain ⟨c, q_1, hc, e2, e3, e4⟩ := h_
    subst q_1
    cbv
    replace e4 : g3.get p = some (boxD v { k2 with fail := k2.fail.next }) := e4
    rw [hk2] at e4 hc
    have hg3 : g3 = gh.set p (boxD v (k.tick0 true)) := nx g2 g3 hg2 e2 e3 e4
    obtain ⟨k3, hk3⟩ : ∃ q : Dk, q = k.tick0 true := ⟨_, rfl⟩
    have b3 : g3.get p = some (boxD v k3) := by rw [hk3]; exact e4
    have hkd : k3.done = k.done := by rw [hk3]; rfl
    refine condI hA (fun h1 => ?_) (fun h1 => ?_)
    · have h1 : k.fail.hit = false := hc ▸ znotT hA h1
      have hd : FnG Try.prog f [xc0, xc1, xc2] g3 fun rs g => rs = [] ∧ Q g := by rw [hg3]; exact hdo (c1 h1).1
      cbv
      refine callGI hA (hd) ?_
      intro rs_ g4 h_
      obtain ⟨q_1, hq⟩ := h_
      subst q_1
      cbv
      exact retGI hA rfl [.v (.int .i64 0)] g4 (⟨_, rfl, (c1 h1).2.symm, c5 g4 h1 hq⟩) (by first | exact ⟨rfl, trivial⟩ | exact ⟨rfl, rfl, trivial⟩ | exact ⟨rfl, rfl, rfl, trivial⟩ | trivial)
    · have h1 : k.fail.hit = true := hc ▸ znotF hA h1
      cbv
      refine gldI hA _ (b3) ?_
      cbv
      refine condI hA (fun h2 => ?_) (fun h2 => ?_)
      · have h2 : k.done = true := hkd ▸ h2
        have hd : FnG Try.prog f [xc0, xc1, xc2] g3 fun rs g => rs = [] ∧ Q g := by rw [hg3]; exact hdo (c3 h2)
        cbv
        refine callGI hA (hd) ?_
        intro rs_ g4 h_
        obtain ⟨q_1, hq⟩ := h_
        subst q_1
        cbv
        obtain ⟨v', k', e5⟩ := hQ g4 hq
        refine gstI hA _ (e5) ?_
        rintro g5 hg5
        cbv
        exact retGI hA rfl [.v (.int .i64 12)] g5 (⟨_, rfl, (c2 h1).symm, c6 g4 g5 v' k' h1 h2 hq e5 hg5⟩) (by first | exact ⟨rfl, trivial⟩ | exact ⟨rfl, rfl, trivial⟩ | exact ⟨rfl, rfl, rfl, trivial⟩ | trivial)
      · cbv
        refine gstI hA _ (b3) ?_
        rintro g5 hg5
        cbv
        exact retGI hA rfl [.v (.int .i64 12)] g5 (⟨_, rfl, (c2 h1).symm, c7 g3 g5 h1 (by rw [← hkd, h2]; decide) hg3 (by rw [hg5, hk3]; rfl)⟩) (by first | exact ⟨rfl, trivial⟩ | exact ⟨rfl, rfl, trivial⟩ | exact ⟨rfl, rfl, rfl, trivial⟩ | trivial)
theorem gOp5 {gh : GH} {p : Nat} {k : Dk} {v : V} (hg : gh.get p = some (boxD v k)) (change : Bool) (f : Nat) (xc0 xc1 xc2 xc3 xc4 : V) (Q : GH → Prop) (hdo : k.does = true → FnG Try.prog f [xc0, xc1, xc2, xc3, xc4] (gh.set p (boxD v (k.tick0 change))) fun rs g => rs = [] ∧ Q g) (hQ : ∀ g, Q g → ∃ v' k', g.get p = some (boxD v' k')) :
    FnG Try.prog 46 [.gp p 0, .bool change, .clo f [xc0, xc1, xc2, xc3, xc4]] gh fun rs g => ∃ e : Int, rs = [.v (.int .i64 e)] ∧ e = k.opE ∧ OpPost gh p k v change Q g := by
  have nx : ∀ (g2 g3 : GH), g2 = gh.set p (boxD v { k with ops := w64 (k.ops + 1), changes := if change then w64 (k.changes + 1) else k.changes }) → g3.next = g2.next → (∀ x, x ≠ p → g3.get x = g2.get x) → g3.get p = some (boxD v (k.tick0 change)) → g3 = gh.set p (boxD v (k.tick0 change)) := fun g2 g3 e1 e2 e3 e4 => by
    refine GH.eq_of (by rw [e2, e1]; rfl) fun x => ?_
    rcases Nat.decEq x p with h | h
    · rw [e3 x h, e1]; simp [h]
    · rw [h, e4]; simp
  have c1 : k.fail.hit = false → k.does = true ∧ k.opE = 0 := fun h => by simp [Dk.does, Dk.opE, h]
  have c2 : k.fail.hit = true → k.opE = 12 := fun h => by simp [Dk.opE, h]
  have c3 : k.done = true → k.does = true := fun h => by simp [Dk.does, h]
  have c4 : k.fail.hit = true → ¬ k.done = true → ¬ k.does = true := fun h h2 => by simp [Dk.does, h, h2]
  have c5 : ∀ g, k.fail.hit = false → Q g → OpPost gh p k v change Q g := fun g h hq => by
    unfold OpPost; rw [if_pos (c1 h).1]; exact ⟨g, hq, fun _ => rfl, fun e => by rw [h] at e; cases e⟩
  have c6 : ∀ g2 g v' k', k.fail.hit = true → k.done = true → Q g2 → g2.get p = some (boxD v' k') → g = g2.set p (boxD v' { k' with down := true }) → OpPost gh p k v change Q g := fun g2 g v' k' h hd hq e1 e2 => by
    unfold OpPost; rw [if_pos (c3 hd)]; exact ⟨g2, hq, fun e => by rw [h] at e; (cases e), fun _ => ⟨v', k', e1, e2⟩⟩
  have c7 : ∀ g2 g, k.fail.hit = true → ¬ k.done = true → g2 = gh.set p (boxD v (k.tick0 change)) → g = g2.set p (boxD v { k.tick0 change with down := true }) → OpPost gh p k v change Q g := fun g2 g h hd e1 e2 => by
    unfold OpPost; rw [if_neg (c4 h hd), e2, e1, set_set]
  cases change
  · refine FnG.of' T_ok M_ok [] (fn := Try.f46) (by kernel_rfl) rfl rfl rfl rfl (Nat.le_of_ble_eq_true rfl) fun A hA => ?_
    cbv
    refine gldI hA _ (hg) ?_
    cbv
    refine gstI hA _ hg ?_
    intro g1 hg1
    have hg1 : g1 = gh.set p (boxD v { k with ops := w64 (k.ops + 1) }) := hg1.trans (congrArg (fun n => gh.set p (boxD v { k with ops := n })) (zadd hA k.ops 1))
    obtain ⟨k1, hk1⟩ : ∃ q : Dk, q = { k with ops := w64 (k.ops + 1) } := ⟨_, rfl⟩
    have b1 : g1.get p = some (boxD v k1) := by rw [hg1, hk1]; simp
    cbv
    refine condF hA rfl ?_
    cbv
    refine callGI hA (gNext k1.fail b1 rfl rfl) ?_
    intro rs_ g3 h_
    obtain ⟨c, q_1, hc, e2, e3, e4⟩ := h_
    subst q_1
    cbv
    replace e4 : g3.get p = some (boxD v { k1 with fail := k1.fail.next }) := e4
    rw [hk1] at e4 hc
    have hg3 : g3 = gh.set p (boxD v (k.tick0 false)) := nx g1 g3 hg1 e2 e3 e4
    obtain ⟨k3, hk3⟩ : ∃ q : Dk, q = k.tick0 false := ⟨_, rfl⟩
    have b3 : g3.get p = some (boxD v k3) := by rw [hk3]; exact e4
    have hkd : k3.done = k.done := by rw [hk3]; rfl
    refine condI hA (fun h1 => ?_) (fun h1 => ?_)
    · have h1 : k.fail.hit = false := hc ▸ znotT hA h1
      have hd : FnG Try.prog f [xc0, xc1, xc2, xc3, xc4] g3 fun rs g => rs = [] ∧ Q g := by rw [hg3]; exact hdo (c1 h1).1
      cbv
      refine callGI hA (hd) ?_
      intro rs_ g4 h_
      obtain ⟨q_1, hq⟩ := h_
      subst q_1
      cbv
      exact retGI hA rfl [.v (.int .i64 0)] g4 (⟨_, rfl, (c1 h1).2.symm, c5 g4 h1 hq⟩) (by first | exact ⟨rfl, trivial⟩ | exact ⟨rfl, rfl, trivial⟩ | exact ⟨rfl, rfl, rfl, trivial⟩ | trivial)
    · have h1 : k.fail.hit = true := hc ▸ znotF hA h1
      cbv
      refine gldI hA _ (b3) ?_
      cbv
      refine condI hA (fun h2 => ?_) (fun h2 => ?_)
      · have h2 : k.done = true := hkd ▸ h2
        have hd : FnG Try.prog f [xc0, xc1, xc2, xc3, xc4] g3 fun rs g => rs = [] ∧ Q g := by rw [hg3]; exact hdo (c3 h2)
        cbv
        refine callGI hA (hd) ?_
        intro rs_ g4 h_
        obtain ⟨q_1, hq⟩ := h_
        subst q_1
        cbv
        obtain ⟨v', k', e5⟩ := hQ g4 hq
        refine gstI hA _ (e5) ?_
        rintro g5 hg5
        cbv
        exact retGI hA rfl [.v (.int .i64 12)] g5 (⟨_, rfl, (c2 h1).symm, c6 g4 g5 v' k' h1 h2 hq e5 hg5⟩) (by first | exact ⟨rfl, trivial⟩ | exact ⟨rfl, rfl, trivial⟩ | exact ⟨rfl, rfl, rfl, trivial⟩ | trivial)
      · cbv
        refine gstI hA _ (b3) ?_
        rintro g5 hg5
        cbv
        exact retGI hA rfl [.v (.int .i64 12)] g5 (⟨_, rfl, (c2 h1).symm, c7 g3 g5 h1 (by rw [← hkd, h2]; decide) hg3 (by rw [hg5, hk3]; rfl)⟩) (by first | exact ⟨rfl, trivial⟩ | exact ⟨rfl, rfl, trivial⟩ | exact ⟨rfl, rfl, rfl, trivial⟩ | trivial)
  · refine FnG.of' T_ok M_ok [] (fn := Try.f46) (by kernel_rfl) rfl rfl rfl rfl (Nat.le_of_ble_eq_true rfl) fun A hA => ?_
    cbv
    refine gldI hA _ (hg) ?_
    cbv
    refine gstI hA _ hg ?_
    intro g1 hg1
    have hg1 : g1 = gh.set p (boxD v { k with ops := w64 (k.ops + 1) }) := hg1.trans (congrArg (fun n => gh.set p (boxD v { k with ops := n })) (zadd hA k.ops 1))
    obtain ⟨k1, hk1⟩ : ∃ q : Dk, q = { k with ops := w64 (k.ops + 1) } := ⟨_, rfl⟩
    have b1 : g1.get p = some (boxD v k1) := by rw [hg1, hk1]; simp
    cbv
    refine condT hA rfl ?_
    cbv
    refine gldI hA _ (b1) ?_
    cbv
    refine gstI hA _ b1 ?_
    intro g2 hg2
    have hg2 : g2 = g1.set p (boxD v { k1 with changes := w64 (k1.changes + 1) }) := hg2.trans (congrArg (fun n => g1.set p (boxD v { k1 with changes := n })) (zadd hA k1.changes 1))
    have hg2 : g2 = gh.set p (boxD v { k with ops := w64 (k.ops + 1), changes := w64 (k.changes + 1) }) := hg2.trans (by rw [hg1, set_set, hk1])
    obtain ⟨k2, hk2⟩ : ∃ q : Dk, q = { k with ops := w64 (k.ops + 1), changes := w64 (k.changes + 1) } := ⟨_, rfl⟩
    have b2 : g2.get p = some (boxD v k2) := by rw [hg2, hk2]; simp
    cbv
    refine callGI hA (gNext k2.fail b2 rfl rfl) ?_
    intro rs_ g3 h_
    obtain ⟨c, q_1, hc, e2, e3, e4⟩ := h_
    subst q_1
    cbv
    replace e4 : g3.get p = some (boxD v { k2 with fail := k2.fail.next }) := e4
    rw [hk2] at e4 hc
    have hg3 : g3 = gh.set p (boxD v (k.tick0 true)) := nx g2 g3 hg2 e2 e3 e4
    obtain ⟨k3, hk3⟩ : ∃ q : Dk, q = k.tick0 true := ⟨_, rfl⟩
    have b3 : g3.get p = some (boxD v k3) := by rw [hk3]; exact e4
    have hkd : k3.done = k.done := by rw [hk3]; rfl
    refine condI hA (fun h1 => ?_) (fun h1 => ?_)
    · have h1 : k.fail.hit = false := hc ▸ znotT hA h1
      have hd : FnG Try.prog f [xc0, xc1, xc2, xc3, xc4] g3 fun rs g => rs = [] ∧ Q g := by rw [hg3]; exact hdo (c1 h1).1
      cbv
      refine callGI hA (hd) ?_
      intro rs_ g4 h_
      obtain ⟨q_1, hq⟩ := h_
      subst q_1
      cbv
      exact retGI hA rfl [.v (.int .i64 0)] g4 (⟨_, rfl, (c1 h1).2.symm, c5 g4 h1 hq⟩) (by first | exact ⟨rfl, trivial⟩ | exact ⟨rfl, rfl, trivial⟩ | exact ⟨rfl, rfl, rfl, trivial⟩ | trivial)
    · have h1 : k.fail.hit = true := hc ▸ znotF hA h1
      cbv
      refine gldI hA _ (b3) ?_
      cbv
      refine condI hA (fun h2 => ?_) (fun h2 => ?_)
      · have h2 : k.done = true := hkd ▸ h2
        have hd : FnG Try.prog f [xc0, xc1, xc2, xc3, xc4] g3 fun rs g => rs = [] ∧ Q g := by rw [hg3]; exact hdo (c3 h2)
        cbv
        refine callGI hA (hd) ?_
        intro rs_ g4 h_
        obtain ⟨q_1, hq⟩ := h_
        subst q_1
        cbv
        obtain ⟨v', k', e5⟩ := hQ g4 hq
        refine gstI hA _ (e5) ?_
        rintro g5 hg5
        cbv
        exact retGI hA rfl [.v (.int .i64 12)] g5 (⟨_, rfl, (c2 h1).symm, c6 g4 g5 v' k' h1 h2 hq e5 hg5⟩) (by first | exact ⟨rfl, trivial⟩ | exact ⟨rfl, rfl, trivial⟩ | exact ⟨rfl, rfl, rfl, trivial⟩ | trivial)
      · cbv
        refine gstI hA _ (b3) ?_
        rintro g5 hg5
        cbv
        exact retGI hA rfl [.v (.int .i64 12)] g5 (⟨_, rfl, (c2 h1).symm, c7 g3 g5 h1 (by rw [← hkd, h2]; decide) hg3 (by rw [hg5, hk3]; rfl)⟩) (by first | exact ⟨rfl, trivial⟩ | exact ⟨rfl, rfl, trivial⟩ | exact ⟨rfl, rfl, rfl, trivial⟩ | trivial)
theorem gOpM {gh : GH} {p : Nat} {k : Dk} {v : V} (hg : gh.get p = some (boxD v k)) (change : Bool) (f : Nat) (xc0 : V) (Q : GH → Prop) (hdo : k.does = true → FnG Try.prog f [xc0] (gh.set p (boxD v (k.tick0 change))) fun rs g => rs = [] ∧ Q g) (hQ : ∀ g, Q g → ∃ v' k', g.get p = some (boxD v' k')) :
    FnG Try.prog 46 [.gp p 0, .bool change, .mth f [xc0]] gh fun rs g => ∃ e : Int, rs = [.v (.int .i64 e)] ∧ e = k.opE ∧ OpPost gh p k v change Q g := by
  have nx : ∀ (g2 g3 : GH), g2 = gh.set p (boxD v { k with ops := w64 (k.ops + 1), changes := if change then w64 (k.changes + 1) else k.changes }) → g3.next = g2.next → (∀ x, x ≠ p → g3.get x = g2.get x) → g3.get p = some (boxD v (k.tick0 change)) → g3 = gh.set p (boxD v (k.tick0 change)) := fun g2 g3 e1 e2 e3 e4 => by
    refine GH.eq_of (by rw [e2, e1]; rfl) fun x => ?_
    rcases Nat.decEq x p with h | h
    · rw [e3 x h, e1]; simp [h]
    · rw [h, e4]; simp
  have c1 : k.fail.hit = false → k.does = true ∧ k.opE = 0 := fun h => by simp [Dk.does, Dk.opE, h]
  have c2 : k.fail.hit = true → k.opE = 12 := fun h => by simp [Dk.opE, h]
  have c3 : k.done = true → k.does = true := fun h => by simp [Dk.does, h]
  have c4 : k.fail.hit = true → ¬ k.done = true → ¬ k.does = true := fun h h2 => by simp [Dk.does, h, h2]
  have c5 : ∀ g, k.fail.hit = false → Q g → OpPost gh p k v change Q g := fun g h hq => by
    unfold OpPost; rw [if_pos (c1 h).1]; exact ⟨g, hq, fun _ => rfl, fun e => by rw [h] at e; cases e⟩
  have c6 : ∀ g2 g v' k', k.fail.hit = true → k.done = true → Q g2 → g2.get p = some (boxD v' k') → g = g2.set p (boxD v' { k' with down := true }) → OpPost gh p k v change Q g := fun g2 g v' k' h hd hq e1 e2 => by
    unfold OpPost; rw [if_pos (c3 hd)]; exact ⟨g2, hq, fun e => by rw [h] at e; (cases e), fun _ => ⟨v', k', e1, e2⟩⟩
  have c7 : ∀ g2 g, k.fail.hit = true → ¬ k.done = true → g2 = gh.set p (boxD v (k.tick0 change)) → g = g2.set p (boxD v { k.tick0 change with down := true }) → OpPost gh p k v change Q g := fun g2 g h hd e1 e2 => by
    unfold OpPost; rw [if_neg (c4 h hd), e2, e1, set_set]
  cases change
  · refine FnG.of' T_ok M_ok [] (fn := Try.f46) (by kernel_rfl) rfl rfl rfl rfl (Nat.le_of_ble_eq_true rfl) fun A hA => ?_
    cbv
    refine gldI hA _ (hg) ?_
    cbv
    refine gstI hA _ hg ?_
    intro g1 hg1
    have hg1 : g1 = gh.set p (boxD v { k with ops := w64 (k.ops + 1) }) := hg1.trans (congrArg (fun n => gh.set p (boxD v { k with ops := n })) (zadd hA k.ops 1))
    obtain ⟨k1, hk1⟩ : ∃ q : Dk, q = { k with ops := w64 (k.ops + 1) } := ⟨_, rfl⟩
    have b1 : g1.get p = some (boxD v k1) := by rw [hg1, hk1]; simp
    cbv
    refine condF hA rfl ?_
    cbv
    refine callGI hA (gNext k1.fail b1 rfl rfl) ?_
    intro rs_ g3 h_
    obtain ⟨c, q_1, hc, e2, e3, e4⟩ := h_
    subst q_1
    cbv
    replace e4 : g3.get p = some (boxD v { k1 with fail := k1.fail.next }) := e4
    rw [hk1] at e4 hc
    have hg3 : g3 = gh.set p (boxD v (k.tick0 false)) := nx g1 g3 hg1 e2 e3 e4
    obtain ⟨k3, hk3⟩ : ∃ q : Dk, q = k.tick0 false := ⟨_, rfl⟩
    have b3 : g3.get p = some (boxD v k3) := by rw [hk3]; exact e4
    have hkd : k3.done = k.done := by rw [hk3]; rfl
    refine condI hA (fun h1 => ?_) (fun h1 => ?_)
    · have h1 : k.fail.hit = false := hc ▸ znotT hA h1
      have hd : FnG Try.prog f [xc0] g3 fun rs g => rs = [] ∧ Q g := by rw [hg3]; exact hdo (c1 h1).1
      cbv
      refine callGI hA (hd) ?_
      intro rs_ g4 h_
      obtain ⟨q_1, hq⟩ := h_
      subst q_1
      cbv
      exact retGI hA rfl [.v (.int .i64 0)] g4 (⟨_, rfl, (c1 h1).2.symm, c5 g4 h1 hq⟩) (by first | exact ⟨rfl, trivial⟩ | exact ⟨rfl, rfl, trivial⟩ | exact ⟨rfl, rfl, rfl, trivial⟩ | trivial)
    · have h1 : k.fail.hit = true := hc ▸ znotF hA h1
      cbv
      refine gldI hA _ (b3) ?_
      cbv
      refine condI hA (fun h2 => ?_) (fun h2 => ?_)
      · have h2 : k.done = true := hkd ▸ h2
        have hd : FnG Try.prog f [xc0] g3 fun rs g => rs = [] ∧ Q g := by rw [hg3]; exact hdo (c3 h2)
        cbv
        refine callGI hA (hd) ?_
        intro rs_ g4 h_
        obtain ⟨q_1, hq⟩ := h_
        subst q_1
        cbv
        obtain ⟨v', k', e5⟩ := hQ g4 hq
        refine gstI hA _ (e5) ?_
        rintro g5 hg5
        cbv
        exact retGI hA rfl [.v (.int .i64 12)] g5 (⟨_, rfl, (c2 h1).symm, c6 g4 g5 v' k' h1 h2 hq e5 hg5⟩) (by first | exact ⟨rfl, trivial⟩ | exact ⟨rfl, rfl, trivial⟩ | exact ⟨rfl, rfl, rfl, trivial⟩ | trivial)
      · cbv
        refine gstI hA _ (b3) ?_
        rintro g5 hg5
        cbv
        exact retGI hA rfl [.v (.int .i64 12)] g5 (⟨_, rfl, (c2 h1).symm, c7 g3 g5 h1 (by rw [← hkd, h2]; decide) hg3 (by rw [hg5, hk3]; rfl)⟩) (by first | exact ⟨rfl, trivial⟩ | exact ⟨rfl, rfl, trivial⟩ | exact ⟨rfl, rfl, rfl, trivial⟩ | trivial)
  · refine FnG.of' T_ok M_ok [] (fn := Try.f46) (by kernel_rfl) rfl rfl rfl rfl (Nat.le_of_ble_eq_true rfl) fun A hA => ?_
    cbv
    refine gldI hA _ (hg) ?_
    cbv
    refine gstI hA _ hg ?_
    intro g1 hg1
    have hg1 : g1 = gh.set p (boxD v { k with ops := w64 (k.ops + 1) }) := hg1.trans (congrArg (fun n => gh.set p (boxD v { k with ops := n })) (zadd hA k.ops 1))
    obtain ⟨k1, hk1⟩ : ∃ q : Dk, q = { k with ops := w64 (k.ops + 1) } := ⟨_, rfl⟩
    have b1 : g1.get p = some (boxD v k1) := by rw [hg1, hk1]; simp
    cbv
    refine condT hA rfl ?_
    cbv
    refine gldI hA _ (b1) ?_
    cbv
    refine gstI hA _ b1 ?_
    intro g2 hg2
    have hg2 : g2 = g1.set p (boxD v { k1 with changes := w64 (k1.changes + 1) }) := hg2.trans (congrArg (fun n => g1.set p (boxD v { k1 with changes := n })) (zadd hA k1.changes 1))
    have hg2 : g2 = gh.set p (boxD v { k with ops := w64 (k.ops + 1), changes := w64 (k.changes + 1) }) := hg2.trans (by rw [hg1, set_set, hk1])
    obtain ⟨k2, hk2⟩ : ∃ q : Dk, q = { k with ops := w64 (k.ops + 1), changes := w64 (k.changes + 1) } := ⟨_, rfl⟩
    have b2 : g2.get p = some (boxD v k2) := by rw [hg2, hk2]; simp
    cbv
    refine callGI hA (gNext k2.fail b2 rfl rfl) ?_
    intro rs_ g3 h_
    obtain ⟨c, q_1, hc, e2, e3, e4⟩ := h_
    subst q_1
    cbv
    replace e4 : g3.get p = some (boxD v { k2 with fail := k2.fail.next }) := e4
    rw [hk2] at e4 hc
    have hg3 : g3 = gh.set p (boxD v (k.tick0 true)) := nx g2 g3 hg2 e2 e3 e4
    obtain ⟨k3, hk3⟩ : ∃ q : Dk, q = k.tick0 true := ⟨_, rfl⟩
    have b3 : g3.get p = some (boxD v k3) := by rw [hk3]; exact e4
    have hkd : k3.done = k.done := by rw [hk3]; rfl
    refine condI hA (fun h1 => ?_) (fun h1 => ?_)
    · have h1 : k.fail.hit = false := hc ▸ znotT hA h1
      have hd : FnG Try.prog f [xc0] g3 fun rs g => rs = [] ∧ Q g := by rw [hg3]; exact hdo (c1 h1).1
      cbv
      refine callGI hA (hd) ?_
      intro rs_ g4 h_
      obtain ⟨q_1, hq⟩ := h_
      subst q_1
      cbv
      exact retGI hA rfl [.v (.int .i64 0)] g4 (⟨_, rfl, (c1 h1).2.symm, c5 g4 h1 hq⟩) (by first | exact ⟨rfl, trivial⟩ | exact ⟨rfl, rfl, trivial⟩ | exact ⟨rfl, rfl, rfl, trivial⟩ | trivial)
    · have h1 : k.fail.hit = true := hc ▸ znotF hA h1
      cbv
      refine gldI hA _ (b3) ?_
      cbv
      refine condI hA (fun h2 => ?_) (fun h2 => ?_)
      · have h2 : k.done = true := hkd ▸ h2
        have hd : FnG Try.prog f [xc0] g3 fun rs g => rs = [] ∧ Q g := by rw [hg3]; exact hdo (c3 h2)
        cbv
        refine callGI hA (hd) ?_
        intro rs_ g4 h_
        obtain ⟨q_1, hq⟩ := h_
        subst q_1
        cbv
        obtain ⟨v', k', e5⟩ := hQ g4 hq
        refine gstI hA _ (e5) ?_
        rintro g5 hg5
        cbv
        exact retGI hA rfl [.v (.int .i64 12)] g5 (⟨_, rfl, (c2 h1).symm, c6 g4 g5 v' k' h1 h2 hq e5 hg5⟩) (by first | exact ⟨rfl, trivial⟩ | exact ⟨rfl, rfl, trivial⟩ | exact ⟨rfl, rfl, rfl, trivial⟩ | trivial)
      · cbv
        refine gstI hA _ (b3) ?_
        rintro g5 hg5
        cbv
        exact retGI hA rfl [.v (.int .i64 12)] g5 (⟨_, rfl, (c2 h1).symm, c7 g3 g5 h1 (by rw [← hkd, h2]; decide) hg3 (by rw [hg5, hk3]; rfl)⟩) (by first | exact ⟨rfl, trivial⟩ | exact ⟨rfl, rfl, trivial⟩ | exact ⟨rfl, rfl, rfl, trivial⟩ | trivial)
end Go.Proofs.Ythioccbgjkbmdaa.AM
