/-
 Contracts: Sync, Cut, Unlink.
-/
import Derived.Test.YthioccbgjkbmdaaGreatM213e50db1e
import Derived.Laws.Externs
set_option linter.unusedVariables false
set_option linter.unusedSimpArgs false
set_option maxRecDepth 100000
set_option maxHeartbeats 4000000
namespace Go.Proofs.YthioccbgjkbmdaaGreat.AM
open Go Go.RowKit
theorem PkOk.op {k : Dk} {B B' : Nat} (h : PkOk k B) {i : Nat} {nd : Nd} (hn : k.nodes[i]? = some nd) (f : Nd → Nd) (change : Bool) (hdir : (f nd).dir = nd.dir) (hls : LsOk (f nd).dir (f nd).safe (f nd).loose) (hsz : (f nd).safe.b.length + (f nd).parts ≤ B') (hB : B ≤ B') (hen : (∀ e ∈ (f nd).safe.en, i + 1 < e.2 ∧ e.2 ≤ k.nodes.length) ∧ ∀ s j, Stp.link s j ∈ (f nd).loose → i + 1 < j ∧ j ≤ k.nodes.length) : PkOk (k.op change ((i : Int) + 1) f) B' := by
 have hop : (k.op change ((i : Int) + 1) f).nodes = if k.does then k.nodes.set i (f nd) else k.nodes := by
  unfold Dk.op; rw [node_at hn]; dsimp only; rw [set_at_]; split <;> rfl
 have hlen : (k.op change ((i : Int) + 1) f).nodes.length = k.nodes.length := by rw [hop]; split <;> simp
 have hat : ∀ (j : Nat) (x : Nd), (k.op change ((i : Int) + 1) f).nodes[j]? = some x → k.nodes[j]? = some x ∨ j = i ∧ x = f nd := fun j x hx => by
  rw [hop] at hx
  split at hx
  ·rw [List.getElem?_set] at hx
   split at hx
   ·rename_i e
    split at hx
    ·cases hx; exact .inr ⟨e.symm, rfl⟩
    ·cases hx
   ·exact .inl hx
  ·exact .inl hx
 have hmem : ∀ x ∈ (k.op change ((i : Int) + 1) f).nodes, x ∈ k.nodes ∨ x = f nd := fun x hx => by
  obtain ⟨j, hj⟩ := List.mem_iff_getElem?.1 hx
  rcases hat j x hj with q | ⟨_, q⟩
  ·exact .inl (List.mem_of_getElem? q)
  ·exact .inr q
 refine ⟨by rw [hlen]; exact h.one, by rw [hlen]; exact h.most, fun x hx => ?_, fun x hx => ?_, ?_, fun j x hx => ?_⟩
 ·rcases hmem x hx with q | rfl
  ·exact h.ls x q
  ·exact hls
 ·rcases hmem x hx with q | rfl
  ·exact Nat.le_trans (h.sz x q) hB
  ·exact hsz
 ·obtain ⟨r, hr, hd⟩ := h.root
  rw [hop]
  split
  ·rcases Nat.decEq i 0 with q | q
   ·exact ⟨r, by rw [List.getElem?_set_ne q]; exact hr, hd⟩
   ·subst q
    rw [hr] at hn; cases hn
    exact ⟨f nd, by rw [List.getElem?_set_self (by have := h.one; omega)], by rw [hdir]; exact hd⟩
  ·exact ⟨r, hr, hd⟩
 ·rw [hlen]
  rcases hat j x hx with q | ⟨rfl, rfl⟩
  ·exact h.en j x q
  ·exact hen
theorem enIns_mem {x e : Bs × Nat} : ∀ {l : List (Bs × Nat)}, x ∈ enIns l e → x = e ∨ x ∈ l
 | [], h => by simp [enIns] at h; exact .inl h
 | y :: r, h => by
  unfold enIns at h
  split at h
  ·rcases List.mem_cons.1 h with h | h
   ·exact .inr (by simp [h])
   ·exact (enIns_mem h).elim .inl fun q => .inr (by simp [q])
  ·rcases List.mem_cons.1 h with h | h
   ·exact .inl h
   ·exact .inr h
theorem enWith_mem {x : Bs × Nat} {l : List (Bs × Nat)} {s : Bs} {i : Nat} (h : x ∈ enWith l s i) : x.2 = i ∨ x ∈ l :=
 (enIns_mem h).elim (fun e => .inl (by rw [e])) fun q => .inr (List.mem_filter.1 q).1
theorem run_en {P : Nat → Prop} {dir : Bool} {c : Ct} {s : Stp} {k k' : Nat} (h : StOk dir c k s) (h1 : ∀ e ∈ c.en, P e.2) (h2 : ∀ t j, s = Stp.link t j → P j) : ∀ e ∈ (s.run c k').en, P e.2 := by
 cases s with
 | app a => exact h1
 | cut n => exact h1
 | link t i => exact fun e he => (enWith_mem he).elim (fun q => q ▸ h2 t i rfl) fun q => h1 e q
 | unl t => exact fun e he => h1 e (List.mem_filter.1 he).1
 | ren f t i => exact h.elim
theorem fold_en {P : Nat → Prop} {dir : Bool} : ∀ {l : List Stp} {c : Ct}, LsOk dir c l → (∀ e ∈ c.en, P e.2) → (∀ t j, Stp.link t j ∈ l → P j) → ∀ e ∈ (l.foldl (fun c s => s.run c s.parts) c).en, P e.2
 | [], _, _, h1, _ => h1
 | s :: r, c, h, h1, h2 => fold_en (l := r) (c := s.run c s.parts) h.2.2 (run_en h.1 h1 fun t j e => h2 t j (by simp [e])) fun t j e => h2 t j (by simp [e])
theorem runs_en {P : Nat → Prop} {dir : Bool} : ∀ {l : List Stp} {c : Ct} (k : Nat), LsOk dir c l → (∀ e ∈ c.en, P e.2) → (∀ t j, Stp.link t j ∈ l → P j) → ∀ e ∈ (runs c l k).en, P e.2
 | [], _, _, _, h1, _ => h1
 | s :: r, c, k, h, h1, h2 => by
  rw [runs]
  split
  ·exact h1
  ·rename_i hk
   rcases Nat.lt_or_ge k s.parts with q | q
   ·rw [show k - s.parts = 0 by omega, runs_zero]
    exact run_en h.1 h1 fun t j e => h2 t j (by simp [e])
   ·rw [Nat.min_eq_right q]
    exact runs_en _ h.2.2 (run_en h.1 h1 fun t j e => h2 t j (by simp [e])) fun t j e => h2 t j (by simp [e])
theorem PkOk.seen_en {k : Dk} {B : Nat} (h : PkOk k B) {i : Nat} {nd : Nd} (hn : k.nodes[i]? = some nd) : ∀ e ∈ nd.seen.en, i + 1 < e.2 ∧ e.2 ≤ k.nodes.length :=
 fold_en (P := fun j => i + 1 < j ∧ j ≤ k.nodes.length) (h.ls nd (List.mem_of_getElem? hn)) (h.en i nd hn).1 (h.en i nd hn).2
theorem PkOk.sync {k : Dk} {B : Nat} (h : PkOk k B) {i : Nat} {nd : Nd} (hn : k.nodes[i]? = some nd) (change : Bool) : PkOk (k.op change ((i : Int) + 1) Nd.sync) B := by
 have h1 := h.sz nd (List.mem_of_getElem? hn)
 have h2 := seen_len nd
 exact h.op hn Nd.sync change rfl trivial (by simp only [Nd.sync, Nd.parts, List.map_nil, List.sum_nil]; omega) (Nat.le_refl _) ⟨h.seen_en hn, fun s j q => by simp [Nd.sync] at q⟩
theorem PkOk.add {k : Dk} {B : Nat} (h : PkOk k B) {i : Nat} {nd : Nd} (hn : k.nodes[i]? = some nd) (change : Bool) (s : Stp) (hs : StOk nd.dir nd.seen s.parts s) (h1 : 1 ≤ s.parts) (hl : ∀ t j, s = Stp.link t j → i + 1 < j ∧ j ≤ k.nodes.length) : PkOk (k.op change ((i : Int) + 1) (·.add s)) (B + s.parts) := by
 have h2 := h.sz nd (List.mem_of_getElem? hn)
 have h3 := h.en i nd hn
 refine h.op hn (·.add s) change rfl (lsOk_app (h.ls nd (List.mem_of_getElem? hn)) hs h1) (by simp only [Nd.add, Nd.parts, List.map_append, List.sum_append, List.map_cons, List.map_nil, List.sum_cons, List.sum_nil] at *; omega) (by omega) ⟨h3.1, fun t j q => ?_⟩
 simp only [Nd.add, List.mem_append, List.mem_singleton] at q
 exact q.elim (fun q => h3.2 t j q) fun q => hl t j q.symm
def NodeQ (gh : GH) (lab : Lab) (p : Nat) (k : Dk) (v : V) (change : Bool) (i id : Nat) (nd : Nd) (g : GH) : Prop := ∃ lab2, Upd (gh.set p (boxD v (k.tick0 change))) g lab lab2 (NdT i) (fun _ => False) ∧ NodeAt g lab2 i id nd
theorem NodeQ.box {gh : GH} {lab : Lab} {p : Nat} {k : Dk} {v : V} {ids : List Nat} (h : DkX gh lab p k v ids) {i id : Nat} {nd nd' : Nd} {change : Bool} (hi : ids[i]? = some id) (hn : k.nodes[i]? = some nd) : ∀ g, NodeQ gh lab p k v change i id nd' g → ∃ v' k', g.get p = some (boxD v' k') := fun g ⟨lab2, u2, hN⟩ =>
 ⟨_, _, ((h.cells (k' := k.tick0 change) rfl rfl).1.node hi hn u2 hN).box⟩
theorem NodeQ.at0 {gh : GH} {lab : Lab} {p : Nat} {k : Dk} {v : V} {ids : List Nat} (h : DkX gh lab p k v ids) {i id : Nat} {nd : Nd} (change : Bool) (hi : ids[i]? = some id) (hn : k.nodes[i]? = some nd) : Dom (gh.set p (boxD v (k.tick0 change))) lab ∧ NodeAt (gh.set p (boxD v (k.tick0 change))) lab i id nd :=
 have q := (h.cells (k' := k.tick0 change) rfl rfl).1
 ⟨q.dom, q.at_ i id nd hi hn⟩
def Dk.syncD (k : Dk) (i : Int) : Dk × Int := if k.anyE i ≠ 0 then (k, k.anyE i) else (k.op false i Nd.sync, k.opE)
theorem gSync {gh : GH} {lab : Lab} {p : Nat} {k : Dk} {B : Nat} (h : DkIn gh lab p k) (hk : PkOk k B) (hB : B ≤ 1000000000) (i : Int) (hi : I64 i) : FnG Tryz.prog 44 [.gp p 0, .int .i64 i] gh fun rs g => ∃ (e : Int) (lab' : Lab), rs = [.v (.int .i64 e)] ∧ e = (k.syncD i).2 ∧ Upd gh g lab lab' (fun _ => True) (fun _ => False) ∧ DkIn g lab' p (k.syncD i).1 ∧ PkOk (k.syncD i).1 B := by
 obtain ⟨v, ids, hX⟩ := h.at_.x
 have hne : k.anyE i ≠ 0 → k.syncD i = (k, k.anyE i) := fun q => by unfold Dk.syncD; rw [if_pos q]
 have heq : k.anyE i = 0 → k.syncD i = (k.op false i Nd.sync, k.opE) := fun q => by unfold Dk.syncD; rw [if_neg (fun f => f q)]
 have hany := gAny gh lab p v k ids i hX.box hX.ns hX.len h.one hi
 refine FnG.of' T_ok M_ok [] (fn := Tryz.f44) (by kernel_rfl) rfl rfl rfl rfl (Nat.le_of_ble_eq_true rfl) fun A hA => ?_
 cbv
 refine callGI hA (hany) ?_
 intro rs_ g_ h_
 obtain ⟨x, e, q_1, hx, he, q_2⟩ := h_
 subst q_1
 subst q_2
 cbv
 refine condI hA (fun h1 => ?_) (fun h1 => ?_)
 ·have h1 := zneT hA h1
  cbv
  exact retGI hA rfl [.v (.int .i64 e)] gh (⟨e, lab, rfl, by rw [hne (he ▸ h1)]; exact he, Upd.refl hX.dom _ _, by rw [hne (he ▸ h1)]; exact h, by rw [hne (he ▸ h1)]; exact hk⟩)
 ·have h1 := zneF hA h1
  have h1' : k.anyE i = 0 := he ▸ h1
  obtain ⟨id, nd, hG⟩ := got_any (i := i) hX.len h1'
  have hx2 : x = .gp id 0 := hx.trans hG.x
  obtain ⟨j, rfl, hj1, hj2⟩ := hG.at_
  subst hx2
  have hsz := hk.sz nd (List.mem_of_getElem? hj2)
  have hsl := seen_len nd
  have hop := gOpM hX.box false 54 (.gp id 0) (NodeQ gh lab p k v false j id nd.sync) (fun _ => by
   obtain ⟨q1, q2⟩ := NodeQ.at0 hX false hj1 hj2
   exact (gSyncN q1 q2 (by omega)).mono fun rs g ⟨r1, lab', u, hN⟩ => ⟨r1, lab', u.weak (fun r e => by rw [e]; exact ⟨rfl, Nat.zero_le _⟩) (fun _ h => h.elim), hN⟩) (NodeQ.box hX hj1 hj2)
  cbv
  refine callGI hA (hop) ?_
  intro rs_ g1 h_
  obtain ⟨e1, q_1, he1, hO⟩ := h_
  subst q_1
  cbv
  obtain ⟨lab', u, hX'⟩ := OpPost.node hX hG.up hj1 hj2 Nd.sync hO
  have hP := hk.sync hj2 false
  exact retGI hA rfl [.v (.int .i64 e1)] g1 (⟨e1, lab', rfl, by rw [heq h1']; exact he1, u.weak (fun _ _ => trivial) (fun _ h => h.elim), by rw [heq h1']; exact ⟨hX'.at, hP.one⟩, by rw [heq h1']; exact hP⟩)
open Go Go.RowKit
theorem gCut1 {gh : GH} {lab : Lab} {i id : Nat} {nd : Nd} (hd : Dom gh lab) (h : NodeAt gh lab i id nd) (n : Nat) (hdir : nd.dir = false) (hn : n ≤ nd.seen.b.length) (hl : nd.loose.length ≤ 1000000000) (m : Int) (hm : m = (n : Nat)) : FnG Tryz.prog 87 [.ref [.gp id 0], .ref [.int .i64 m]] gh fun rs g => rs = [] ∧ ∃ lab', Upd gh g lab lab' (NdT i) (fun _ => False) ∧ NodeAt g lab' i id (nd.add (.cut n)) := by
 have ha := gAddN hd h (.cut n) ⟨hdir, hn⟩ hl 1 rfl (.clo 88 [.ref [.int .i64 m]]) (by rw [hm]; rfl)
 refine FnG.of' T_ok M_ok [] (fn := Tryz.f87) (by kernel_rfl) rfl rfl rfl rfl (Nat.le_of_ble_eq_true rfl) fun A hA => ?_
 cbv
 refine callGI hA (ha) ?_
 intro rs_ g h_
 obtain ⟨q_1, hq⟩ := h_
 subst q_1
 cbv
 exact retGI hA rfl [] g ⟨rfl, hq⟩ trivial
def Dk.cutD (k : Dk) (i n : Int) : Dk × Int := if k.ofE i false ≠ 0 then (k, k.ofE i false) else match k.node? i with
 | some nd => if n < 0 ∨ (nd.seen.b.length : Nat) < n then (k, 13) else (k.op true i (·.add (.cut n.toNat)), k.opE)
 | none => (k, 13)
theorem gCut {gh : GH} {lab : Lab} {p : Nat} {k : Dk} {B : Nat} (h : DkIn gh lab p k) (hk : PkOk k B) (hB : B ≤ 1000000000) (i : Int) (hi : I64 i) (n : Int) : FnG Tryz.prog 42 [.gp p 0, .int .i64 i, .int .i64 n] gh fun rs g => ∃ (e : Int) (lab' : Lab), rs = [.v (.int .i64 e)] ∧ e = (k.cutD i n).2 ∧ Upd gh g lab lab' (fun _ => True) (fun _ => False) ∧ DkIn g lab' p (k.cutD i n).1 ∧ PkOk (k.cutD i n).1 (B + 1) := by
 obtain ⟨v, ids, hX⟩ := h.at_.x
 have hkB : PkOk k (B + 1) := { hk with sz := fun nd q => Nat.le_succ_of_le (hk.sz nd q) }
 have hof := gOfS gh lab p v k ids i false hX.box hX.ns hX.len hX.at_ h.one hi
 have stay : ∀ e, k.cutD i n = (k, e) → ∃ (e' : Int) (lab' : Lab), [Rs.v (.int .i64 e)] = [.v (.int .i64 e')] ∧ e' = (k.cutD i n).2 ∧ Upd gh gh lab lab' (fun _ => True) (fun _ => False) ∧ DkIn gh lab' p (k.cutD i n).1 ∧ PkOk (k.cutD i n).1 (B + 1) := fun e q => ⟨e, lab, rfl, by rw [q], Upd.refl hX.dom _ _, by rw [q]; exact h, by rw [q]; exact hkB⟩
 refine FnG.of' T_ok M_ok [] (fn := Tryz.f42) (by kernel_rfl) rfl rfl rfl rfl (Nat.le_of_ble_eq_true rfl) fun A hA => ?_
 cbv
 refine callGI hA (hof) ?_
 intro rs_ g_ h_
 obtain ⟨x, e, q_1, hx, he, hnil, q_2⟩ := h_
 subst q_1
 subst q_2
 cbv
 rcases Int.decEq e 0 with h0 | h0
 ·have hxn := hnil h0
  have hk0 : k.ofE i false ≠ 0 := he ▸ h0
  subst hxn
  cbv
  refine condI hA (fun h1 => ?_) (fun h1 => ?_)
  ·cbv
   exact retGI hA rfl [.v (.int .i64 e)] gh (stay e (by unfold Dk.cutD; rw [if_pos hk0, he]))
  ·exact absurd (zneF hA h1) h0
 ·obtain ⟨id, nd, hG, hdir⟩ := hx h0
  have hx2 := hG.x
  have hk0 : ¬ k.ofE i false ≠ 0 := fun q => q (he ▸ h0)
  have hnode := hG.node
  obtain ⟨j, hij, hj1, hj2⟩ := hG.at_
  have hat := hX.at_ _ _ _ hj1 hj2
  obtain ⟨vb, ve, wb, we, vl, hbox, _, _, _, hwb, _⟩ := hat
  subst hx2
  cbv
  refine condI hA (fun h1 => ?_) (fun h1 => ?_)
  ·exact absurd h0 (zneT hA h1)
  ·have hE : ∀ (q : n < 0 ∨ (nd.seen.b.length : Nat) < n), k.cutD i n = (k, 13) := fun q => by unfold Dk.cutD; rw [if_neg hk0, hnode]; dsimp only; rw [if_pos q]
   have hF : ∀ (q : ¬ (n < 0 ∨ (nd.seen.b.length : Nat) < n)), k.cutD i n = (k.op true i (·.add (.cut n.toNat)), k.opE) := fun q => by unfold Dk.cutD; rw [if_neg hk0, hnode]; dsimp only; rw [if_neg q]
   have hop : ¬ (n < 0 ∨ (nd.seen.b.length : Nat) < n) → FnG Tryz.prog 74 [.gp p 0, .bool true, .clo 87 [.ref [.gp id 0], .ref [.int .i64 n]]] gh fun rs g => ∃ (e : Int) (lab' : Lab), rs = [.v (.int .i64 e)] ∧ e = (k.cutD i n).2 ∧ Upd gh g lab lab' (fun _ => True) (fun _ => False) ∧ DkIn g lab' p (k.cutD i n).1 ∧ PkOk (k.cutD i n).1 (B + 1) := fun q => by
    have hle : n.toNat ≤ nd.seen.b.length := by omega
    have hm : n = (n.toNat : Nat) := by omega
    refine (gOp2 hX.box true 87 (.ref [.gp id 0]) (.ref [.int .i64 n]) (NodeQ gh lab p k v true j id (nd.add (.cut n.toNat))) (fun _ => by
     obtain ⟨q1, q2⟩ := NodeQ.at0 hX true hj1 hj2
     exact gCut1 q1 q2 n.toNat hdir hle (Nat.le_trans (lsOk_len (hk.ls nd (List.mem_of_getElem? hj2))) (by have := hk.sz nd (List.mem_of_getElem? hj2); unfold Nd.parts at this; omega)) n hm) (NodeQ.box hX hj1 hj2)).mono fun rs g ⟨e1, r1, he1, hO⟩ => ?_
    obtain ⟨lab', u, hX'⟩ := OpPost.node hX hG.up hj1 hj2 (·.add (.cut n.toNat)) hO
    have hP := hk.add hj2 true (.cut n.toNat) ⟨hdir, hle⟩ (Nat.le_refl _) (fun t j e => nomatch e)
    rw [← hij] at hX' hP
    exact ⟨e1, lab', r1, by rw [hF q]; exact he1, u.weak (fun _ _ => trivial) (fun _ h => h.elim), by rw [hF q]; exact ⟨hX'.at, hP.one⟩, by rw [hF q]; exact hP⟩
   have hlen : ∀ (z : Int), z = (nd.seen.b.length : Nat) → (z < n ↔ (nd.seen.b.length : Nat) < n) := fun z hz => by rw [hz]
   have hno : ¬ n < 0 → ∀ z : Int, z = (nd.seen.b.length : Nat) → ¬ z < n → ¬ (n < 0 ∨ (nd.seen.b.length : Nat) < n) := fun q1 z hz q2 q => by
    rcases q with q | q
    ·exact q1 q
    ·exact q2 (hz ▸ q)
   have hyes : ∀ z : Int, z = (nd.seen.b.length : Nat) → z < n → (n < 0 ∨ (nd.seen.b.length : Nat) < n) := fun z hz q => .inr (hz ▸ q)
   clear hlen
   have hby := hwb.is
   rcases hwb.open with ⟨rfl, hb0⟩ | ⟨l, rfl, hl⟩ | ⟨bid, m0, l, rfl, hm0, hl, hl2, hg2⟩
   ·have hz : (0 : Int) = (nd.seen.b.length : Nat) := by rw [hb0]; rfl
    cbv
    refine chkI hA (by kernel_rfl) ?_
    cbv
    refine condI hA (fun h2 => ?_) (fun h2 => ?_)
    ·have h2 := zltT hA h2
     cbv
     exact retGI hA rfl [.v (.int .i64 13)] gh (stay 13 (hE (.inl h2)))
    ·have h2 := zltF hA h2
     cbv
     refine gldI hA _ (hbox) ?_
     cbv
     refine condI hA (fun h3 => ?_) (fun h3 => ?_)
     ·have h3 := zltT hA h3
      cbv
      exact retGI hA rfl [.v (.int .i64 13)] gh (stay 13 (hE (hyes 0 hz h3)))
     ·have h3 := zltF hA h3
      cbv
      refine callGI hA (hop (hno h2 0 hz h3)) ?_
      intro rs_ g1 h_
      obtain ⟨e1, lab', q_1, r1, r2, r3, r4⟩ := h_
      subst q_1
      cbv
      exact retGI hA rfl [.v (.int .i64 e1)] g1 (⟨e1, lab', rfl, r1, r2, r3, r4⟩)
   ·obtain ⟨z, hz⟩ : ∃ z : Int, z = (nd.seen.b.length : Nat) := ⟨_, rfl⟩
    have hzl : z = (l.length : Nat) := by rw [hz, hl, bytesV_len]
    cbv
    refine chkI hA (by kernel_rfl) ?_
    cbv
    refine condI hA (fun h2 => ?_) (fun h2 => ?_)
    ·have h2 := zltT hA h2
     cbv
     exact retGI hA rfl [.v (.int .i64 13)] gh (stay 13 (hE (.inl h2)))
    ·have h2 := zltF hA h2
     cbv
     refine gldI hA _ (hbox) ?_
     cbv
     refine glnSN hA (.inr (.inl rfl)) hzl ?_
     cbv
     refine condI hA (fun h3 => ?_) (fun h3 => ?_)
     ·have h3 := zltT hA h3
      cbv
      exact retGI hA rfl [.v (.int .i64 13)] gh (stay 13 (hE (hyes z hz h3)))
     ·have h3 := zltF hA h3
      cbv
      refine callGI hA (hop (hno h2 z hz h3)) ?_
      intro rs_ g1 h_
      obtain ⟨e1, lab', q_1, r1, r2, r3, r4⟩ := h_
      subst q_1
      cbv
      exact retGI hA rfl [.v (.int .i64 e1)] g1 (⟨e1, lab', rfl, r1, r2, r3, r4⟩)
   ·cbv
    refine chkI hA (by kernel_rfl) ?_
    cbv
    refine condI hA (fun h2 => ?_) (fun h2 => ?_)
    ·have h2 := zltT hA h2
     cbv
     exact retGI hA rfl [.v (.int .i64 13)] gh (stay 13 (hE (.inl h2)))
    ·have h2 := zltF hA h2
     cbv
     refine gldI hA _ (hbox) ?_
     cbv
     refine glenI hA ?_
     cbv
     refine condI hA (fun h3 => ?_) (fun h3 => ?_)
     ·have h3 := zltT hA h3
      cbv
      exact retGI hA rfl [.v (.int .i64 13)] gh (stay 13 (hE (hyes m0 hm0 h3)))
     ·have h3 := zltF hA h3
      cbv
      refine callGI hA (hop (hno h2 m0 hm0 h3)) ?_
      intro rs_ g1 h_
      obtain ⟨e1, lab', q_1, r1, r2, r3, r4⟩ := h_
      subst q_1
      cbv
      exact retGI hA rfl [.v (.int .i64 e1)] g1 (⟨e1, lab', rfl, r1, r2, r3, r4⟩)
open Go Go.RowKit
theorem gUnl1 {gh : GH} {lab : Lab} {p : Nat} {k : Dk} {v : V} {ids : List Nat} (h : DkX gh lab p k v ids) {j id : Nat} {nd : Nd} (hj1 : ids[j]? = some id) (hj2 : k.nodes[j]? = some nd) (hdir : nd.dir = true) (hl : nd.loose.length ≤ 1000000000) (i : Int) (hi : i = (j : Int) + 1) (hn : k.nodes.length ≤ 1000000000) (s : Bs) : FnG Tryz.prog 101 [.ref [.gp p 0], .ref [.int .i64 i], .ref [.str s]] gh fun rs g => rs = [] ∧ ∃ lab', Upd gh g lab lab' (NdT j) (fun _ => False) ∧ NodeAt g lab' j id (nd.add (.unl s)) := by
 have ha := gAddN h.dom (h.at_ j id nd hj1 hj2) (.unl s) hdir hl 1 rfl (.clo 102 [.ref [.str s]]) rfl
 have hv : ∃ nid n, v = .gs nid n ∧ n = (ids.length : Nat) ∧ gh.get nid = some (.arow 1 (ids.map fun i => V.gp i 0)) := by
  rcases h.ns with ⟨_, h2⟩ | ⟨nid, h1, h2, h3⟩
  ·rw [h2] at hj1; simp at hj1
  ·exact ⟨nid, _, h1, rfl, h3⟩
 obtain ⟨nid, n, rfl, hnn, hng⟩ := hv
 have hbox := h.box
 have hjl := (List.getElem?_eq_some_iff.1 hj1).1
 have f1 : w64 (i - 1) = (j : Nat) := by rw [hi, w64_id (by rw [h.len] at hjl; omega)]; omega
 have f2 : (0 : Int) ≤ (j : Nat) ∧ ((j : Nat) : Int) < n := by omega
 have f3 : (ids.map fun i => V.gp i 0)[((j : Nat) : Int).toNat]? = some (.gp id 0) := by rw [Int.toNat_natCast, List.getElem?_map, hj1]; rfl
 obtain ⟨z, hz⟩ : ∃ z : Int, z = (j : Nat) := ⟨_, rfl⟩
 rw [← hz] at f1 f2 f3
 refine FnG.of' T_ok M_ok [] (fn := Tryz.f101) (by kernel_rfl) rfl rfl rfl rfl (Nat.le_of_ble_eq_true rfl) fun A hA => ?_
 cbv
 refine chkI hA (by kernel_rfl) ?_
 cbv
 refine gldI hA _ (hbox) ?_
 cbv
 refine gixN hA ((zsub hA i 1).trans f1) f2 ?_
 cbv
 refine gldRN hA (y := .gp id 0) ((zsub hA i 1).trans f1) _ (.inr (.inr hng)) f3 ?_
 cbv
 refine callGI hA (ha) ?_
 intro rs_ g h_
 obtain ⟨q_1, hq⟩ := h_
 subst q_1
 cbv
 exact retGI hA rfl [] g ⟨rfl, hq⟩ trivial
def Dk.unlD (k : Dk) (i : Int) (s : Bs) : Dk × Int := if (k.findE i s).2 ≠ 0 then (k, (k.findE i s).2) else match k.node? (k.findE i s).1 with
 | some nd => if nd.dir then (k, 10) else (k.op true i (·.add (.unl s)), k.opE)
 | none => (k, 10)
theorem enGet_mem {l : List (Bs × Nat)} {s : Bs} {i : Nat} (h : enGet l s = some i) : ∃ e ∈ l, e.2 = i := by
 unfold enGet at h
 cases hf : l.find? (fun e => e.1 == s) with
 | none => rw [hf] at h; cases h
 | some e => rw [hf] at h; cases h; exact ⟨e, List.mem_of_find?_eq_some hf, rfl⟩
theorem ofE_ok {k : Dk} {i : Int} {dir : Bool} (h : k.ofE i dir = 0) : k.down = false ∧ ∃ (j : Nat) (nd : Nd), i = (j : Int) + 1 ∧ k.nodes[j]? = some nd ∧ nd.dir = dir ∧ k.node? i = some nd := by
 unfold Dk.ofE at h
 cases hd : k.down with
 | true => rw [hd] at h; cases h
 | false =>
  rw [hd, if_neg (by simp)] at h
  split at h
  ·rename_i nd hn
   have hn2 := hn
   unfold Dk.node? at hn2
   split at hn2
   ·split at h
    ·rename_i q1 q2
     exact ⟨rfl, (i - 1).toNat, nd, by omega, hn2, q2, hn⟩
    ·cases h
   ·cases hn2
  ·cases h
theorem findE_ok {k : Dk} {B : Nat} (hk : PkOk k B) {i : Int} {s : Bs} (h : (k.findE i s).2 = 0) : k.down = false ∧ ∃ (j0 j1 : Nat) (n0 n1 : Nd), i = (j0 : Int) + 1 ∧ k.nodes[j0]? = some n0 ∧ n0.dir = true ∧ (k.findE i s).1 = (j1 : Int) + 1 ∧ k.nodes[j1]? = some n1 ∧ k.node? (k.findE i s).1 = some n1 := by
 unfold Dk.findE at *
 split at h
 ·rename_i q; exact absurd h q
 ·rename_i q
  obtain ⟨hd, j0, n0, h1, h2, h3, h4⟩ := ofE_ok (Decidable.not_not.1 q)
  rw [if_neg q]
  rw [h4] at h ⊢
  dsimp only at h ⊢
  split at h
  ·rename_i v hv
   obtain ⟨e, he, hev⟩ := enGet_mem hv
   obtain ⟨b1, b2⟩ := hk.seen_en h2 e he
   obtain ⟨n1, hn1⟩ : ∃ n1, k.nodes[v - 1]? = some n1 := ⟨_, List.getElem?_eq_getElem (by omega)⟩
   refine ⟨hd, j0, v - 1, n0, n1, h1, h2, h3, by dsimp only; omega, hn1, ?_⟩
   have := node_at hn1
   rw [show ((v - 1 : Nat) : Int) + 1 = (v : Int) by omega] at this
   exact this
  ·cases h
theorem gUnl {gh : GH} {lab : Lab} {p : Nat} {k : Dk} {B : Nat} (h : DkIn gh lab p k) (hk : PkOk k B) (hB : B ≤ 1000000000) (i : Int) (hi : I64 i) (s : Bs) : FnG Tryz.prog 52 [.gp p 0, .int .i64 i, .str s] gh fun rs g => ∃ (e : Int) (lab' : Lab), rs = [.v (.int .i64 e)] ∧ e = (k.unlD i s).2 ∧ Upd gh g lab lab' (fun _ => True) (fun _ => False) ∧ DkIn g lab' p (k.unlD i s).1 ∧ PkOk (k.unlD i s).1 (B + 1) := by
 obtain ⟨v, ids, hX⟩ := h.at_.x
 have hkB : PkOk k (B + 1) := { hk with sz := fun nd q => Nat.le_succ_of_le (hk.sz nd q) }
 have hfi := gFind h i hi s
 have stay : ∀ e, k.unlD i s = (k, e) → ∃ (e' : Int) (lab' : Lab), [Rs.v (.int .i64 e)] = [.v (.int .i64 e')] ∧ e' = (k.unlD i s).2 ∧ Upd gh gh lab lab' (fun _ => True) (fun _ => False) ∧ DkIn gh lab' p (k.unlD i s).1 ∧ PkOk (k.unlD i s).1 (B + 1) := fun e q => ⟨e, lab, rfl, by rw [q], Upd.refl hX.dom _ _, by rw [q]; exact h, by rw [q]; exact hkB⟩
 refine FnG.of' T_ok M_ok [] (fn := Tryz.f52) (by kernel_rfl) rfl rfl rfl rfl (Nat.le_of_ble_eq_true rfl) fun A hA => ?_
 cbv
 refine callGI hA (hfi) ?_
 intro rs_ g_ h_
 obtain ⟨x, e, q_1, hx, he, q_2⟩ := h_
 subst q_1
 subst q_2
 cbv
 refine condI hA (fun h1 => ?_) (fun h1 => ?_)
 ·have h1 := zneT hA h1
  have hk0 : (k.findE i s).2 ≠ 0 := he ▸ h1
  cbv
  exact retGI hA rfl [.v (.int .i64 e)] gh (stay e (by unfold Dk.unlD; rw [if_pos hk0, he]))
 ·have h1 := zneF hA h1
  have hk0 : (k.findE i s).2 = 0 := he ▸ h1
  obtain ⟨hup, j0, j1, n0, n1, r1, r2, r3, r4, r5, r6⟩ := findE_ok hk hk0
  have hml := hk.most
  have hv : ∃ nid n, v = .gs nid n ∧ n = (ids.length : Nat) ∧ gh.get nid = some (.arow 1 (ids.map fun i => V.gp i 0)) := by
   rcases hX.ns with ⟨_, h2⟩ | ⟨nid, h1, h2, h3⟩
   ·have := hk.one; rw [← hX.len, h2] at this; exact absurd this (by decide)
   ·exact ⟨nid, _, h1, rfl, h3⟩
  obtain ⟨nid, n, rfl, hnn, hng⟩ := hv
  have hbox := hX.box
  have hl1 := (List.getElem?_eq_some_iff.1 r5).1
  have hl0 := (List.getElem?_eq_some_iff.1 r2).1
  have hidl := hX.len
  obtain ⟨id0, hid0⟩ : ∃ id, ids[j0]? = some id := ⟨_, List.getElem?_eq_getElem (by omega)⟩
  obtain ⟨id1, hid1⟩ : ∃ id, ids[j1]? = some id := ⟨_, List.getElem?_eq_getElem (by omega)⟩
  have f1 : w64 (x - 1) = (j1 : Nat) := by rw [hx, r4, w64_id (by omega)]; omega
  have f2 : (0 : Int) ≤ (j1 : Nat) ∧ ((j1 : Nat) : Int) < n := by omega
  have f3 : (ids.map fun i => V.gp i 0)[((j1 : Nat) : Int).toNat]? = some (.gp id1 0) := by rw [Int.toNat_natCast, List.getElem?_map, hid1]; rfl
  obtain ⟨z, hz⟩ : ∃ z : Int, z = (j1 : Nat) := ⟨_, rfl⟩
  rw [← hz] at f1 f2 f3
  obtain ⟨vb, ve, wb, we, vl, hb1, _⟩ := hX.at_ _ _ _ hid1 r5
  obtain ⟨d1, hd1⟩ : ∃ d, d = n1.dir := ⟨_, rfl⟩
  rw [← hd1] at hb1
  have hop : d1 = false → FnG Tryz.prog 74 [.gp p 0, .bool true, .clo 101 [.ref [.gp p 0], .ref [.int .i64 i], .ref [.str s]]] gh fun rs g => ∃ (e : Int) (lab' : Lab), rs = [.v (.int .i64 e)] ∧ e = (k.unlD i s).2 ∧ Upd gh g lab lab' (fun _ => True) (fun _ => False) ∧ DkIn g lab' p (k.unlD i s).1 ∧ PkOk (k.unlD i s).1 (B + 1) := fun q => by
   have hF : k.unlD i s = (k.op true i (·.add (.unl s)), k.opE) := by unfold Dk.unlD; rw [if_neg (fun f => f hk0), r6]; dsimp only; rw [← hd1, q]; rfl
   refine (gOp3 hX.box true 101 (.ref [.gp p 0]) (.ref [.int .i64 i]) (.ref [.str s]) (NodeQ gh lab p k (.gs nid n) true j0 id0 (n0.add (.unl s))) (fun _ => by
    have q0 := (hX.cells (k' := k.tick0 true) rfl rfl).1
    exact gUnl1 q0 hid0 r2 r3 (Nat.le_trans (lsOk_len (hk.ls n0 (List.mem_of_getElem? r2))) (by have := hk.sz n0 (List.mem_of_getElem? r2); unfold Nd.parts at this; omega)) i r1 (Nat.le_trans hml (by decide)) s) (NodeQ.box hX hid0 r2)).mono fun rs g ⟨e1, q1, he1, hO⟩ => ?_
   obtain ⟨lab', u, hX'⟩ := OpPost.node hX hup hid0 r2 (·.add (.unl s)) hO
   have hP := hk.add r2 true (.unl s) r3 (Nat.le_refl _) (fun t j e => nomatch e)
   rw [← r1] at hX' hP
   exact ⟨e1, lab', q1, by rw [hF]; exact he1, u.weak (fun _ _ => trivial) (fun _ h => h.elim), by rw [hF]; exact ⟨hX'.at, hP.one⟩, by rw [hF]; exact hP⟩
  have hE : d1 = true → k.unlD i s = (k, 10) := fun q => by unfold Dk.unlD; rw [if_neg (fun f => f hk0), r6]; dsimp only; rw [← hd1, q]; rfl
  cbv
  refine gldI hA _ (hbox) ?_
  cbv
  refine gixN hA ((zsub hA x 1).trans f1) f2 ?_
  cbv
  refine gldRN hA (y := .gp id1 0) ((zsub hA x 1).trans f1) _ (.inr (.inr hng)) f3 ?_
  cbv
  refine gldI hA _ (hb1) ?_
  cbv
  refine condI hA (fun h2 => ?_) (fun h2 => ?_)
  ·cbv
   exact retGI hA rfl [.v (.int .i64 10)] gh (stay 10 (hE h2))
  ·cbv
   refine callGI hA (hop h2) ?_
   intro rs_ g1 h_
   obtain ⟨e1, lab', q_1, q1, q2, q3, q4⟩ := h_
   subst q_1
   cbv
   exact retGI hA rfl [.v (.int .i64 e1)] g1 (⟨e1, lab', rfl, q1, q2, q3, q4⟩)
open Go Go.RowKit
theorem cLink (s : Bs) (v : Int) : CallR Tryz.prog 140 [.str s, .int .i64 v] fun rs => ∃ x, rs = [.v x] ∧ x = .agg [.int .i64 1, .clo 143 [.ref [.int .i64 v], .ref [.str s]]] := by
 obtain ⟨x, hx⟩ : ∃ x, x = V.agg [.int .i64 1, .clo 143 [.ref [.int .i64 v], .ref [.str s]]] := ⟨_, rfl⟩
 refine .of [.v x] ⟨x, rfl, hx⟩ ?_
 refine FnR.of' T_ok M_ok (fn := Tryz.f140) (by kernel_rfl) rfl rfl rfl rfl (Nat.le_of_ble_eq_true rfl) fun A hA => ?_
 cbv
 refine retI hA ?_
 exact ⟨congrArg some hx.symm, trivial⟩
theorem DkX.upd {gh g : GH} {lab lab' : Lab} {X : Nat → Prop} {p : Nat} {k : Dk} {v : V} {ids : List Nat} (h : DkX gh lab p k v ids) (u : Upd gh g lab lab' (fun _ => False) X) (hX : ∀ x, X x → lab x = none) : DkX g lab' p k v ids := by
 have hX' : ∀ (x : Nat) (r : Nat × Nat), X x → lab x ≠ some r := fun x r q e => by rw [hX x q] at e; cases e
 obtain ⟨q1, q2⟩ := upd_id h.dom u h.lp (fun h => h) (fun q => hX' _ _ q h.lp) h.box
 exact ⟨u.dom, q1, q2, h.ns.upd h.dom u (fun h => h) (fun x q => hX' x _ q), h.len, fun i id nd k1 k2 => (h.at_ i id nd k1 k2).upd h.dom u (fun _ _ h => h) (fun x q j => hX' x _ q)⟩
def Dk.mk1 (k : Dk) (j : Nat) (nd : Nd) (s : Bs) (dir : Bool) : Dk := { k with nodes := (k.nodes ++ [nd0 dir]).set j (nd.add (.link s (k.nodes.length + 1))) }
theorem gMk1 {gh : GH} {lab : Lab} {p : Nat} {k : Dk} {v : V} {ids : List Nat} (h : DkX gh lab p k v ids) {j id : Nat} {nd : Nd} (hj1 : ids[j]? = some id) (hj2 : k.nodes[j]? = some nd) (hdir : nd.dir = true) (hl : nd.loose.length ≤ 1000000000) (hn : k.nodes.length ≤ 1000000000) (s : Bs) (d : Bool) (iv : Nat) (hiv : gh.get iv = some (.box [.int .i64 0])) (hlv : lab iv = none) (hivn : iv < gh.next) : FnG Tryz.prog 139 [.ref [.gp p 0], .ref [.bool d], .gp iv 0, .ref [.gp id 0], .ref [.str s]] gh fun rs g => rs = [] ∧ ∃ lab' v' ids', Upd gh g lab lab' (fun _ => True) (fun x => x = iv) ∧ DkX g lab' p (k.mk1 j nd s d) v' ids' ∧ g.get iv = some (.box [.int .i64 ((k.nodes.length + 1 : Nat) : Int)]) := by
 have hf := gFresh h d hn
 refine FnG.of' T_ok M_ok [] (fn := Tryz.f139) (by kernel_rfl) rfl rfl rfl rfl (Nat.le_of_ble_eq_true rfl) fun A hA => ?_
 cbv
 refine callGI hA (hf) ?_
 intro rs_ g1 h_
 obtain ⟨m, lab1, v1, ids1, q_1, hm, u1, hX1, hids⟩ := h_
 subst q_1
 cbv
 have hiv1 : g1.get iv = some (.box [.int .i64 0]) := (u1.get iv hivn (fun h => h) (fun r e => by rw [hlv] at e; cases e)).trans hiv
 have hlv1 : lab1 iv = none := (u1.old iv hivn).trans hlv
 have hivn1 : iv < g1.next := Nat.lt_of_lt_of_le hivn u1.next
 refine gstI hA _ hiv1 ?_
 intro g2 hg2
 have hg2 : g2 = g1.set iv (.box [.int .i64 m]) := hg2
 have u2 : Upd g1 g2 lab1 lab1 (fun _ => False) (fun x => x = iv) := Upd.mk0 hX1.dom (by rw [hg2]; exact Nat.le_refl _) (fun x _ hx _ => by rw [hg2]; simp only [GH.set_get]; rw [if_neg hx])
 have hX2 := hX1.upd u2 (fun x e => by rw [e]; exact hlv1)
 have hiv2 : g2.get iv = some (.box [.int .i64 m]) := by rw [hg2]; simp
 have hj2' : (k.nodes ++ [nd0 d])[j]? = some nd := by rw [List.getElem?_append_left (List.getElem?_eq_some_iff.1 hj2).1]; exact hj2
 have ha := gAddN hX2.dom (hX2.at_ j id nd (hids j id hj1) hj2') (.link s (k.nodes.length + 1)) hdir hl 1 rfl (.clo 143 [.ref [.int .i64 m], .ref [.str s]]) (by rw [hm]; rfl)
 cbv
 refine chkI hA (by kernel_rfl) ?_
 cbv
 refine gldI hA _ (hiv2) ?_
 cbv
 refine callI hA (cLink s m) ?_
 intro rs_ h_
 obtain ⟨x, q_1, hx⟩ := h_
 subst q_1
 cbv
 subst hx
 cbv
 refine callGI hA (ha) ?_
 intro rs_ g3 h_
 obtain ⟨q_1, lab3, u3, hN⟩ := h_
 subst q_1
 cbv
 have hX3 := hX2.node (hids j id hj1) hj2' u3 hN
 have hiv3 : g3.get iv = some (.box [.int .i64 m]) := (u3.get iv (by rw [hg2]; exact hivn1) (fun h => h) (fun r e => by rw [hlv1] at e; cases e)).trans hiv2
 exact retGI hA rfl [] g3 ⟨rfl, lab3, v1, ids1, ((u1.weak (fun _ _ => trivial) (fun _ h => h.elim)).trans (u2.weak (fun _ _ => trivial) (fun x e => .inl e))).trans (u3.weak (fun _ _ => trivial) (fun _ h => h.elim)), hX3, by rw [hiv3, hm]⟩ trivial
open Go Go.RowKit
theorem OpPost.gen {gh g : GH} {lab : Lab} {p : Nat} {k : Dk} {v : V} {ids : List Nat} (h : DkX gh lab p k v ids) (hup : k.down = false) (F : Dk → Dk) (hF : ∀ q : Dk, { F q with down := true } = F { q with down := true }) (hF2 : ∀ q : Dk, (F q).nodes = (F { q with down := true }).nodes) (X : Nat → Prop) (R : GH → Prop) (hR : ∀ g v k, R g → R (g.set p (boxD v k))) {change : Bool}
  (hO : OpPost gh p k v change (fun g => ∃ lab' v' ids', Upd (gh.set p (boxD v (k.tick0 change))) g lab lab' (fun _ => True) X ∧ DkX g lab' p (F (k.tick0 change)) v' ids' ∧ R g) g) :
  ∃ lab' v' ids', Upd gh g lab lab' (fun _ => True) X ∧ DkX g lab' p (if k.does then F (k.tick change) else k.tick change) v' ids' ∧ (k.does = true → R g) := by
 obtain ⟨hX0, u0⟩ := h.cells (k' := k.tick0 change) rfl rfl
 have u0' := u0.weak (T' := fun _ => True) (X' := X) (fun r e => trivial) (fun _ h => h.elim)
 unfold OpPost at hO
 split at hO
 ·rename_i hdoes
  rw [if_pos hdoes]
  obtain ⟨g2, ⟨lab2, v2, ids2, u2, hX2, hRg⟩, e1, e2⟩ := hO
  have u2' := u0'.trans u2
  cases hh : k.fail.hit with
  | false =>
   obtain rfl := e1 hh
   have e : k.tick change = k.tick0 change := by unfold Dk.tick Dk.tick0; rw [hh, hup]; rfl
   rw [e]; exact ⟨lab2, v2, ids2, u2', hX2, fun _ => hRg⟩
  | true =>
   obtain ⟨v', k', q1, q2⟩ := e2 hh
   have hb : boxD v' k' = boxD v2 (F (k.tick0 change)) := Option.some.inj (q1.symm.trans hX2.box)
   have e : k.tick change = { k.tick0 change with down := true } := by unfold Dk.tick Dk.tick0; rw [hh, Bool.or_true]
   obtain ⟨hX3, u3⟩ := hX2.cells (g := g) (k' := F (k.tick change)) (by rw [q2, boxD_down hb, hF, e]) (by rw [e]; exact (hF2 _).symm)
   exact ⟨lab2, v2, ids2, u2'.trans (u3.weak (fun r e => trivial) (fun _ h => h.elim)), hX3, fun _ => by rw [q2]; exact hR _ _ _ hRg⟩
 ·rename_i hdoes
  rw [if_neg hdoes]
  have hh : k.fail.hit = true := by
   cases q : k.fail.hit with
   | true => rfl
   | false => exact absurd (show k.does = true by simp [Dk.does, q]) hdoes
  obtain ⟨hX1, u1⟩ := h.cells (k' := k.tick change) (g := g) (by rw [hO]; unfold Dk.tick Dk.tick0; rw [hh, Bool.or_true]) rfl
  exact ⟨lab, v, ids, u1.weak (fun r e => trivial) (fun _ h => h.elim), hX1, fun q => absurd q hdoes⟩
open Go Go.RowKit
def idxB (s : Bs) (c : UInt8) : Int := match s.findIdx? (· == c) with
 | some i => i
 | none => -1
set_option maxHeartbeats 2000000 in
theorem idxLite_run (s : ByteArray) (c : Int) (w : World) :
  Calls Tryz.prog 144 #[.string s, .int .u8 c] w fun e w' => e = .returned (.int .i64 (Go.firstIdx s c.toNat.toUInt8)) ∧ w' = w := by
 go_enter Tryz.func144, Tryz.ntmps144
 go_wp2
 rw [run_callFunc_extern Tryz.func145 (by kernel_rfl) (by kernel_rfl) (by kernel_rfl) (e := Extern.BytealgIndexByte.indexByte) (by kernel_rfl), run_indexByte_string]
 simp only [Result.andThen]
 rw [Oper.upon_value]
 go_wp2
 go_ret
 exact ⟨rfl, rfl⟩
theorem cIdxLite (s : Bs) (c : Int) : CallR Tryz.prog 144 [.str s, .int .u8 c] fun rs => rs = [.v (.int .i64 (Go.firstIdx ⟨s.toArray⟩ c.toNat.toUInt8))] := by
 refine .of _ rfl ⟨⟨_, Tryz.func144, rfl, by kernel_rfl⟩, fun w ok vs hok hl hr => ?_⟩
 match vs, hl, hr with
 | [v, u], _, hr =>
  have e1 : u = .int .u8 c := by have hu := hr 1 (by simp) (by simp); cases hu; rfl
  have e2 : v = .string ⟨s.toArray⟩ := by have hv := hr 0 (by simp) (by simp); cases hv; rfl
  clear hr
  subst e1 e2
  refine (idxLite_run _ c w).mono fun e w' ⟨he, hw⟩ => ?_
  subst hw
  refine ⟨[.int .i64 _], [none], ok, he, .refl _ _, fun _ _ h => h, .refl _, fun _ _ h => .inl h, rfl, rfl, fun i hi hi' hi'' => ?_, fun i j b hi => ?_⟩
  ·match i, hi, hi', hi'' with
   | 0, _, _, _ => exact ⟨rfl, .int _ _⟩
  ·match i, hi with
   | 0, hi => simp at hi
   | n + 1, hi => simp at hi
theorem cIdx (s : Bs) (c : Int) : CallR Tryz.prog 142 [.str s, .int .u8 c] fun rs => ∃ n : Int, rs = [.v (.int .i64 n)] ∧ n = Go.firstIdx ⟨s.toArray⟩ c.toNat.toUInt8 := by
 obtain ⟨n, hn⟩ : ∃ n, n = Go.firstIdx ⟨s.toArray⟩ c.toNat.toUInt8 := ⟨_, rfl⟩
 have hc := cIdxLite s c
 rw [← hn] at hc
 refine .of [.v (.int .i64 n)] ⟨n, rfl, hn⟩ ?_
 refine FnR.of' T_ok M_ok (fn := Tryz.f142) (by kernel_rfl) rfl rfl rfl rfl (Nat.le_of_ble_eq_true rfl) fun A hA => ?_
 cbv
 refine callI hA (hc) ?_
 intro rs_ h_
 subst h_
 cbv
 refine retI hA ?_
 simp only [retOk, rsOk, retIds, idsD, idsDs, softOb, toV, toVs, List.append_nil, List.nil_append, Option.some.injEq, V.int.injEq, V.bool.injEq, V.slice.injEq, V.agg.injEq, V.str.injEq, true_and, and_true, hA, std]
theorem firstIdx_lt (s : Bs) (c : UInt8) : Go.firstIdx ⟨s.toArray⟩ c < 0 ↔ s.contains c = false := by
 have hsz : (⟨s.toArray⟩ : ByteArray).size = s.length := rfl
 have hget : ∀ i (h : i < s.length), (⟨s.toArray⟩ : ByteArray)[i]! = s[i] := fun i h => by
  rw [getElem!_pos _ i (by rw [hsz]; exact h)]; rfl
 unfold Go.firstIdx
 rw [hsz]
 constructor
 ·intro h
  split at h
  ·omega
  ·rename_i q
   rw [List.find?_eq_none] at q
   cases hc : s.contains c with
   | false => rfl
   | true =>
    obtain ⟨i, hi, e⟩ := List.mem_iff_getElem.1 (List.contains_iff_mem.1 hc)
    exact absurd (by rw [hget i hi, e]; simp) (q i (List.mem_range.2 hi))
 ·intro h
  split
  ·rename_i i q
   have h1 := List.find?_some q
   have h2 := List.mem_range.1 (List.mem_of_find?_eq_some q)
   rw [hget i h2] at h1
   have : s.contains c = true := List.contains_iff_mem.2 (by rw [← eq_of_beq h1]; exact List.getElem_mem _)
   rw [h] at this; cases this
  ·omega
theorem cMay (s : Bs) : CallR Tryz.prog 138 [.str s] fun rs => ∃ b : Bool, rs = [.v (.bool b)] ∧ b = nameOk s := by
 have h0 := cIdx s 0
 have h47 := cIdx s 47
 obtain ⟨b, hb⟩ : ∃ b, b = nameOk s := ⟨_, rfl⟩
 refine .of [.v (.bool b)] ⟨b, rfl, hb⟩ ?_
 have f0 : ∀ n, n = Go.firstIdx ⟨s.toArray⟩ (0 : Int).toNat.toUInt8 → (n < 0 ↔ s.contains 0 = false) := fun n h => h ▸ firstIdx_lt s 0
 have f47 : ∀ n, n = Go.firstIdx ⟨s.toArray⟩ (47 : Int).toNat.toUInt8 → (n < 0 ↔ s.contains 47 = false) := fun n h => h ▸ firstIdx_lt s 47
 refine FnR.of' T_ok M_ok (fn := Tryz.f138) (by kernel_rfl) rfl rfl rfl rfl (Nat.le_of_ble_eq_true rfl) fun A hA => ?_
 cbv
 have g1 : A.sne s [] = !s.isEmpty := by rw [hA]; cases s <;> rfl
 have g2 : A.ile (A.lenS s) 64 = decide (s.length ≤ 64) := by
  rw [hA, Bool.eq_iff_iff]; simp [std]; omega
 have g3 : ∀ n, A.ilt n 0 = decide (n < 0) := fun n => by rw [hA]; rfl
 refine condI hA (fun h1 => ?_) (fun h1 => ?_)
 ·replace h1 := g1.symm.trans h1
  cbv
  refine condI hA (fun h2 => ?_) (fun h2 => ?_)
  ·replace h2 := g2.symm.trans h2
   cbv
   refine callI hA (h0) ?_
   intro rs_ h_
   obtain ⟨n0, q_1, hn0⟩ := h_
   subst q_1
   cbv
   refine condI hA (fun h3 => ?_) (fun h3 => ?_)
   ·replace h3 := (g3 n0).symm.trans h3
    have h3 := (f0 n0 hn0).1 (of_decide_eq_true h3)
    cbv
    refine callI hA (h47) ?_
    intro rs_ h_
    obtain ⟨n1, q_1, hn1⟩ := h_
    subst q_1
    cbv
    have e : A.ilt n1 0 = b := by
     have h3' : s.contains 0 = false := h3
     have f := f47 n1 hn1
     rw [g3, hb, nameOk, h1, h2, h3', Bool.eq_iff_iff]
     rw [decide_eq_true_iff, f]; change s.contains 47 = false ↔ _
     cases s.contains 47 <;> simp
    refine retI hA ?_
    exact ⟨congrArg (fun q => some (V.bool q)) e, trivial⟩
   ·replace h3 := (g3 n0).symm.trans h3
    have h3 : s.contains 0 = true := by
     cases q : s.contains 0 with
     | true => rfl
     | false => exact absurd ((f0 n0 hn0).2 q) (of_decide_eq_false h3)
    have e : false = b := by rw [hb, nameOk, h3]; simp
    cbv
    refine retI hA ?_
    exact ⟨congrArg (fun q => some (V.bool q)) e, trivial⟩
  ·replace h2 := g2.symm.trans h2
   have e : false = b := by rw [hb, nameOk, h2]; simp
   cbv
   refine retI hA ?_
   exact ⟨congrArg (fun q => some (V.bool q)) e, trivial⟩
 ·replace h1 := g1.symm.trans h1
  have e : false = b := by rw [hb, nameOk, h1]; simp
  cbv
  refine retI hA ?_
  exact ⟨congrArg (fun q => some (V.bool q)) e, trivial⟩
end Go.Proofs.YthioccbgjkbmdaaGreat.AM
