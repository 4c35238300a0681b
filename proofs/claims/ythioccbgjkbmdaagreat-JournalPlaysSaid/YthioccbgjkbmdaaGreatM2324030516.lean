/-
 Contracts: a file or a directory that is made.
-/
import Derived.Test.YthioccbgjkbmdaaGreatM2241c0ddc9
set_option linter.unusedVariables false
set_option linter.unusedSimpArgs false
set_option maxRecDepth 100000
set_option maxHeartbeats 4000000
namespace Go.Proofs.YthioccbgjkbmdaaGreat.AM
open Go Go.RowKit
def Dk.makeD (k : Dk) (i : Int) (s : Bs) (dir : Bool) : Dk × Int × Int := if k.ofE i true ≠ 0 then (k, 0, k.ofE i true) else if nameOk s = false then (k, 0, 7) else match k.node? i with
 | none => (k, 0, 8)
 | some nd => if (enGet nd.seen.en s).isSome then (k, 0, 9) else if 4096 ≤ k.nodes.length then (k, 0, 11) else
  let k1 : Dk := { k with full := k.full.next }
  if k.full.hit then (k1, 0, 11) else (if k.does then (k1.tick true).mk1 (i - 1).toNat nd s dir else k1.tick true, if k.opE = 0 then (k.nodes.length + 1 : Nat) else 0, k.opE)
theorem PkOk.mono {k : Dk} {B B' : Nat} (h : PkOk k B) (hB : B ≤ B') : PkOk k B' := { h with sz := fun nd q => Nat.le_trans (h.sz nd q) hB }
theorem PkOk.same {k k' : Dk} {B : Nat} (h : PkOk k B) (hn : k'.nodes = k.nodes) : PkOk k' B := by
 cases k; cases k'
 obtain rfl := hn
 exact ⟨h.one, h.most, h.ls, h.sz, h.root, h.en⟩
theorem PkOk.mk1 {k : Dk} {B : Nat} (h : PkOk k B) {j : Nat} {nd : Nd} (hj : k.nodes[j]? = some nd) (hdir : nd.dir = true) (s : Bs) (dir : Bool) (hlt : k.nodes.length < 4096) : PkOk (k.mk1 j nd s dir) (B + 1) := by
 have hjl := (List.getElem?_eq_some_iff.1 hj).1
 obtain ⟨n1, hn1⟩ : ∃ n1, n1 = nd.add (.link s (k.nodes.length + 1)) := ⟨_, rfl⟩
 have hnn : (k.mk1 j nd s dir).nodes = (k.nodes ++ [nd0 dir]).set j n1 := by rw [hn1]; rfl
 have hlen : (k.mk1 j nd s dir).nodes.length = k.nodes.length + 1 := by rw [hnn]; simp
 have hget : ∀ (i : Nat) (x : Nd), (k.mk1 j nd s dir).nodes[i]? = some x → (i = j ∧ x = n1) ∨ k.nodes[i]? = some x ∨ (i = k.nodes.length ∧ x = nd0 dir) := fun i x hx => by
  rw [hnn, List.getElem?_set] at hx
  split at hx
  ·rename_i e
   split at hx
   ·cases hx; exact .inl ⟨e.symm, rfl⟩
   ·cases hx
  ·rcases Nat.lt_or_ge i k.nodes.length with q | q
   ·rw [List.getElem?_append_left q] at hx; exact .inr (.inl hx)
   ·rw [List.getElem?_append_right q] at hx
    rcases Nat.eq_zero_or_pos (i - k.nodes.length) with q2 | q2
    ·rw [q2] at hx; simp at hx; exact .inr (.inr ⟨by omega, hx.symm⟩)
    ·rw [List.getElem?_eq_none (by simp; omega)] at hx; cases hx
 have hmem : ∀ x ∈ (k.mk1 j nd s dir).nodes, x = n1 ∨ x ∈ k.nodes ∨ x = nd0 dir := fun x hx => by
  obtain ⟨i, hi⟩ := List.mem_iff_getElem?.1 hx
  rcases hget i x hi with ⟨_, q⟩ | q | ⟨_, q⟩
  ·exact .inl q
  ·exact .inr (.inl (List.mem_of_getElem? q))
  ·exact .inr (.inr q)
 have hnm := List.mem_of_getElem? hj
 refine ⟨by omega, by omega, fun x hx => ?_, fun x hx => ?_, ?_, fun i x hx => ?_⟩
 ·rcases hmem x hx with rfl | q | rfl
  ·rw [hn1]; exact lsOk_app (s := .link s (k.nodes.length + 1)) (h.ls nd hnm) hdir (Nat.le_refl _)
  ·exact h.ls x q
  ·trivial
 ·rcases hmem x hx with rfl | q | rfl
  ·have := h.sz nd hnm
   rw [hn1]; simp only [Nd.add, Nd.parts, List.map_append, List.sum_append, List.map_cons, List.map_nil, List.sum_cons, List.sum_nil, Stp.parts] at *; omega
  ·have := h.sz x q; omega
  ·simp [nd0, Nd.parts]
 ·obtain ⟨r, hr, hd⟩ := h.root
  rw [hnn, List.getElem?_set]
  split
  ·rename_i e
   rw [e] at hj; rw [hr] at hj; cases hj
   exact ⟨n1, by rw [if_pos (by simp; omega)], by rw [hn1]; exact hd⟩
  ·exact ⟨r, by rw [List.getElem?_append_left h.one]; exact hr, hd⟩
 ·rw [hlen]
  rcases hget i x hx with ⟨rfl, rfl⟩ | q | ⟨rfl, rfl⟩
  ·obtain ⟨q1, q2⟩ := h.en i nd hj
   rw [hn1]
   refine ⟨fun e he => by have := q1 e he; omega, fun t m hm => ?_⟩
   simp only [Nd.add, List.mem_append, List.mem_singleton, Stp.link.injEq] at hm
   rcases hm with hm | ⟨_, rfl⟩
   ·have := q2 t m hm; omega
   ·omega
  ·obtain ⟨q1, q2⟩ := h.en i x q
   exact ⟨fun e he => by have := q1 e he; omega, fun t m hm => by have := q2 t m hm; omega⟩
  ·exact ⟨fun e he => by simp [nd0] at he, fun t m hm => by simp [nd0] at hm⟩
theorem gMake {gh : GH} {lab : Lab} {p : Nat} {k : Dk} {B : Nat} (h : DkIn gh lab p k) (hk : PkOk k B) (hB : B ≤ 1000000000) (i : Int) (hi : I64 i) (s : Bs) (dir : Bool) : FnG Tryz.prog 128 [.gp p 0, .int .i64 i, .str s, .bool dir] gh fun rs g => ∃ (n e : Int) (lab' : Lab), rs = [.v (.int .i64 n), .v (.int .i64 e)] ∧ n = (k.makeD i s dir).2.1 ∧ e = (k.makeD i s dir).2.2 ∧ Upd gh g lab lab' (fun _ => True) (fun _ => False) ∧ DkIn g lab' p (k.makeD i s dir).1 ∧ PkOk (k.makeD i s dir).1 (B + 1) := by
 obtain ⟨v, ids, hX⟩ := h.at_.x
 have hkB : PkOk k (B + 1) := hk.mono (Nat.le_succ _)
 have hv : ∃ nid n, v = .gs nid n ∧ n = (ids.length : Nat) ∧ gh.get nid = some (.arow 1 (ids.map fun i => V.gp i 0)) := by
  rcases hX.ns with ⟨_, q2⟩ | ⟨nid, q1, q2, q3⟩
  ·have := hk.one; rw [← hX.len, q2] at this; exact absurd this (by decide)
  ·exact ⟨nid, _, q1, rfl, q3⟩
 obtain ⟨nid, nn, rfl, hnn, hng⟩ := hv
 have hge : 4096 ≤ nn ↔ 4096 ≤ k.nodes.length := by rw [hnn, hX.len]; omega
 have hof := gOfS gh lab p _ k ids i true hX.box hX.ns hX.len hX.at_ h.one hi
 have hmay := cMay s
 refine FnG.of' T_ok M_ok [14] (fn := Tryz.f128) (by kernel_rfl) rfl rfl rfl rfl (Nat.le_of_ble_eq_true rfl) fun A hA => ?_
 cbv
 refine callGI hA (hof) ?_
 intro rs_ g_ h_
 obtain ⟨x, e, q_1, hx, he, hnil, q_2⟩ := h_
 subst q_1
 subst q_2
 cbv
 rcases Int.decEq e 0 with h0 | h0
 ·have hxn := hnil h0
  have hk0 : k.ofE i true ≠ 0 := he ▸ h0
  have q : k.makeD i s dir = (k, 0, e) := by unfold Dk.makeD; rw [if_pos hk0, he]
  subst hxn
  cbv
  refine condI hA (fun h1 => ?_) (fun h1 => ?_)
  ·cbv
   exact retGI hA rfl [.v (.int .i64 0), .v (.int .i64 e)] gh (⟨_, _, lab, rfl, by rw [q], by rw [q], Upd.refl hX.dom _ _, by rw [q]; exact h, by rw [q]; exact hkB⟩)
  ·exact absurd (zneF hA h1) h0
 ·obtain ⟨id, nd, hG, hdir⟩ := hx h0
  have hx2 := hG.x
  have hk0 : ¬ k.ofE i true ≠ 0 := fun q => q (he ▸ h0)
  have hnode := hG.node
  obtain ⟨j, hij, hj1, hj2⟩ := hG.at_
  have hjt : (i - 1).toNat = j := by omega
  obtain ⟨vb, ve, wb, we, vl, hbox, hli, _, _, _, hwe, _⟩ := hX.at_ _ _ _ hj1 hj2
  rw [hdir] at hwe
  obtain ⟨mid, t, c, rfl, hlm, hgm, hmok⟩ := hwe
  have bp := hX.box
  have stay : ∀ e, k.makeD i s dir = (k, 0, e) → ∃ (n' e' : Int) (lab' : Lab), [Rs.v (.int .i64 0), .v (.int .i64 e)] = [.v (.int .i64 n'), .v (.int .i64 e')] ∧ n' = (k.makeD i s dir).2.1 ∧ e' = (k.makeD i s dir).2.2 ∧ Upd gh gh lab lab' (fun _ => True) (fun _ => False) ∧ DkIn gh lab' p (k.makeD i s dir).1 ∧ PkOk (k.makeD i s dir).1 (B + 1) := fun e q => ⟨0, e, lab, rfl, by rw [q], by rw [q], Upd.refl hX.dom _ _, by rw [q]; exact h, by rw [q]; exact hkB⟩
  have bp := hX.box
  subst hx2
  cbv
  refine condI hA (fun h1 => ?_) (fun h1 => ?_)
  ·exact absurd h0 (zneT hA h1)
  ·cbv
   refine callI hA (hmay) ?_
   intro rs_ h_
   obtain ⟨b, q_1, hb⟩ := h_
   subst q_1
   cbv
   refine condI hA (fun h2 => ?_) (fun h2 => ?_)
   ·have h2 : nameOk s = false := hb ▸ znotT hA h2
    cbv
    exact retGI hA rfl [.v (.int .i64 0), .v (.int .i64 7)] gh (stay 7 (by unfold Dk.makeD; rw [if_neg hk0, if_pos h2]))
   ·have h2 : nameOk s = true := hb ▸ znotF hA h2
    cbv
    refine chkI hA (by kernel_rfl) ?_
    cbv
    refine gldI hA _ (hbox) ?_
    cbv
    have hun : k.makeD i s dir = if (enGet nd.seen.en s).isSome then (k, 0, 9) else if 4096 ≤ k.nodes.length then (k, 0, 11) else if k.full.hit then ({ k with full := k.full.next }, 0, 11) else (if k.does then (({ k with full := k.full.next } : Dk).tick true).mk1 (i - 1).toNat nd s dir else ({ k with full := k.full.next } : Dk).tick true, if k.opE = 0 then ((k.nodes.length + 1 : Nat) : Int) else 0, k.opE) := by
     unfold Dk.makeD; rw [if_neg hk0, if_neg (by rw [h2]; decide), hnode]
    cases hget : enGet nd.seen.en s with
    | some j0 =>
     obtain ⟨n0, hn0⟩ : ∃ n : Int, n = (j0 : Nat) := ⟨_, rfl⟩
     refine glookN hA (r := .tup [.int .i64 n0, .bool true]) hgm hmok (by rw [hget, hn0]) ?_
     cbv
     refine condT hA rfl ?_
     cbv
     exact retGI hA rfl [.v (.int .i64 0), .v (.int .i64 9)] gh (stay 9 (by rw [hun, hget]; rfl))
    | none =>
     refine glookN hA (r := .tup [.int .i64 0, .bool false]) hgm hmok (by rw [hget]) ?_
     cbv
     refine condF hA rfl ?_
     cbv
     refine gldI hA _ (bp) ?_
     cbv
     refine glenI hA ?_
     cbv
     refine condI hA (fun h3 => ?_) (fun h3 => ?_)
     ·have h3 : 4096 ≤ k.nodes.length := hge.1 (zleT hA h3)
      cbv
      exact retGI hA rfl [.v (.int .i64 0), .v (.int .i64 11)] gh (stay 11 (by rw [hun, hget, if_neg (by simp), if_pos h3]))
     ·have h3 : ¬ 4096 ≤ k.nodes.length := fun q => zleF hA h3 (hge.2 q)
      cbv
      have hnx : FnG Tryz.prog 73 [.gp p 8] gh fun rs g => ∃ c : Bool, rs = [.v (.bool c)] ∧ c = k.full.hit ∧ g = gh.set p (boxD (.gs nid nn) { k with full := k.full.next }) := (gNext k.full bp rfl rfl).mono fun rs g ⟨c, q1, q2, q3, q4, q5⟩ => ⟨c, q1, q2, GH.eq_of q3 fun x => by
       rcases Nat.decEq x p with e | e
       ·rw [q4 x e]; simp [e]
       ·rw [e, q5]; simp; rfl⟩
      refine callGI hA (hnx) ?_
      intro rs_ g1 h_
      obtain ⟨c1, q_1, hc1, hg1⟩ := h_
      subst q_1
      cbv
      obtain ⟨k1, hk1⟩ : ∃ q : Dk, q = { k with full := k.full.next } := ⟨_, rfl⟩
      rw [← hk1] at hg1
      obtain ⟨hX1, u1⟩ := hX.cells (k' := k1) hg1 (by rw [hk1])
      have hP1 : PkOk k1 B := hk.same (by rw [hk1])
      rw [← hk1] at hun
      refine condI hA (fun h4 => ?_) (fun h4 => ?_)
      ·have h4 : k.full.hit = true := hc1 ▸ h4
       have q : k.makeD i s dir = (k1, 0, 11) := by rw [hun, hget, if_neg (by simp), if_neg h3, if_pos h4]
       cbv
       exact retGI hA rfl [.v (.int .i64 0), .v (.int .i64 11)] g1 (⟨_, _, lab, rfl, by rw [q], by rw [q], u1.weak (fun _ _ => trivial) (fun _ h => h.elim), by rw [q]; exact ⟨hX1.at, hP1.one⟩, by rw [q]; exact hP1.mono (Nat.le_succ _)⟩)
      ·have h4 : k.full.hit ≠ true := fun q => by rw [hc1, q] at h4; cases h4
       have q : k.makeD i s dir = (if k.does then (k1.tick true).mk1 (i - 1).toNat nd s dir else k1.tick true, if k.opE = 0 then ((k.nodes.length + 1 : Nat) : Int) else 0, k.opE) := by rw [hun, hget, if_neg (by simp), if_neg h3, if_neg h4]
       cbv
       refine galN hA ?_
       intro g2 iv hiv hg2
       have b2 : g2.get iv = some (.box [.int .i64 0]) := by rw [hg2, hiv]; simp
       cbv
       refine gstI hA _ b2 ?_
       intro g3 hg3
       have hg3 : g3 = g2.set iv (.box [.int .i64 0]) := hg3
       have hivge : g1.next ≤ iv := by rw [hiv]; exact Nat.le_refl _
       have hpv : p ≠ iv := fun q => by have := hX1.dom.lt hX1.lp; omega
       have hn3 : g3.next = g1.next + 1 := by rw [hg3, hg2]; simp
       have hlv : lab iv = none := hX1.dom iv hivge
       have u3 : Upd g1 g3 lab lab (fun _ => False) (fun x => x = iv) := Upd.mk0 hX1.dom (by omega) (fun x hx q _ => by
        rw [hg3, hg2]; simp only [GH.set_get, GH.new_get]; rw [if_neg q, if_neg (by omega)])
       have hX3 := hX1.upd u3 (fun x e => by rw [e]; exact hlv)
       have b3 : g3.get iv = some (.box [.int .i64 0]) := by rw [hg3]; simp
       have hup1 : k1.down = false := by rw [hk1]; exact hG.up
       have hnl : k1.nodes.length = k.nodes.length := by rw [hk1]
       have hj2' : k1.nodes[j]? = some nd := by rw [hk1]; exact hj2
       have hls := Nat.le_trans (lsOk_len (hk.ls nd (List.mem_of_getElem? hj2))) (by have := hk.sz nd (List.mem_of_getElem? hj2); unfold Nd.parts at this; omega : (nd.loose.map Stp.parts).sum ≤ 1000000000)
       have hml := hk.most
       have hop := gOp5 hX3.box true 139 (.ref [.gp p 0]) (.ref [.bool dir]) (.gp iv 0) (.ref [.gp id 0]) (.ref [.str s]) (fun g => ∃ lab' v' ids', Upd (g3.set p (boxD (.gs nid nn) (k1.tick0 true))) g lab lab' (fun _ => True) (fun x => x = iv) ∧ DkX g lab' p ((k1.tick0 true).mk1 j nd s dir) v' ids' ∧ g.get iv = some (.box [.int .i64 ((k.nodes.length + 1 : Nat) : Int)])) (fun _ => by
        have q0 := (hX3.cells (k' := k1.tick0 true) rfl rfl).1
        refine (gMk1 q0 hj1 hj2' hdir hls (by show k1.nodes.length ≤ _; omega) s dir iv (by simp only [GH.set_get]; rw [if_neg hpv.symm]; exact b3) hlv (by show iv < g3.next; omega)).mono fun rs g ⟨r1, lab', v', ids', r2, r3, r4⟩ => ⟨r1, lab', v', ids', r2, r3, r4.trans (by show some (GObj.box [.int .i64 ((k1.nodes.length + 1 : Nat) : Int)]) = _; rw [hnl])⟩) (fun g ⟨lab', v', ids', _, r3, _⟩ => ⟨_, _, r3.box⟩)
       have hop2 := hop.mono (post := fun rs g => ∃ e : Int, rs = [.v (.int .i64 e)] ∧ e = k1.opE ∧ ∃ lab', Upd gh g lab lab' (fun _ => True) (fun _ => False) ∧ DkIn g lab' p (k.makeD i s dir).1 ∧ PkOk (k.makeD i s dir).1 (B + 1) ∧ (e = 0 → g.get iv = some (.box [.int .i64 (k.makeD i s dir).2.1]))) fun rs g ⟨e1, q1, he1, hO⟩ => by
        obtain ⟨lab', v', ids', r2, r3, r4⟩ := OpPost.gen hX3 hup1 (fun q => q.mk1 j nd s dir) (fun _ => rfl) (fun _ => rfl) (fun x => x = iv) (fun g => g.get iv = some (.box [.int .i64 ((k.nodes.length + 1 : Nat) : Int)])) (fun g v k r => by simp only [GH.set_get]; rw [if_neg hpv.symm]; exact r) hO
        have hdoes : k1.does = k.does := by rw [hk1]; rfl
        have hopE : k1.opE = k.opE := by rw [hk1]; rfl
        have qk : (k.makeD i s dir).1 = if k1.does then (k1.tick true).mk1 j nd s dir else k1.tick true := by rw [q, hdoes, hjt]
        have hPk : PkOk (if k1.does then (k1.tick true).mk1 j nd s dir else k1.tick true) (B + 1) := by
         split
         ·exact (hP1.same (k' := k1.tick true) rfl).mk1 hj2' hdir s dir (by show k1.nodes.length < _; omega)
         ·exact (hP1.same (k' := k1.tick true) rfl).mono (Nat.le_succ _)
        refine ⟨e1, q1, he1, lab', ((u1.weak (fun _ _ => trivial) (fun _ h => h.elim)).trans ((u3.weak (fun _ _ => trivial) (fun x e => .inl e)).trans r2)).new (fun x e => by rw [e]; have := u1.next; omega), by rw [qk]; exact ⟨r3.at, hPk.one⟩, by rw [qk]; exact hPk, fun h0 => ?_⟩
        have hd : k1.does = true := by
         rw [he1] at h0; unfold Dk.opE at h0; unfold Dk.does
         cases hh : k1.fail.hit with
         | false => rfl
         | true => rw [hh] at h0; cases h0
        rw [r4 hd, q]; dsimp only; rw [if_pos (by rw [← hopE, ← he1]; exact h0)]
       have q3 : k1.opE = (k.makeD i s dir).2.2 := by rw [q, hk1]; rfl
       have q4 : k1.opE ≠ 0 → (0 : Int) = (k.makeD i s dir).2.1 := fun h => by rw [q]; dsimp only; rw [if_neg (by rw [hk1] at h; exact h)]
       obtain ⟨m, hm⟩ : ∃ m, m = (k.makeD i s dir).2.1 := ⟨_, rfl⟩
       rw [← hm] at hop2 q4
       cbv
       refine callGI hA (hop2) ?_
       intro rs_ g4 h_
       obtain ⟨e1, q_1, he1, lab4, u4, hD4, hP4, hi4⟩ := h_
       subst q_1
       cbv
       refine condI hA (fun h5 => ?_) (fun h5 => ?_)
       ·have h5 : k1.opE ≠ 0 := he1 ▸ zneT hA h5
        cbv
        exact retGI hA rfl [.v (.int .i64 0), .v (.int .i64 e1)] g4 (⟨0, e1, lab4, rfl, by rw [← hm]; exact q4 h5, by rw [he1]; exact q3, u4, hD4, hP4⟩)
       ·have b4 := hi4 (zneF hA h5)
        have h5 : e1 = 0 := zneF hA h5
        cbv
        refine gldI hA _ (b4) ?_
        cbv
        exact retGI hA rfl [.v (.int .i64 m), .v (.int .i64 0)] g4 (⟨m, 0, lab4, rfl, hm, by rw [← q3, ← he1]; exact h5.symm, u4, hD4, hP4⟩)
theorem gCreate {gh : GH} {lab : Lab} {p : Nat} {k : Dk} {B : Nat} (h : DkIn gh lab p k) (hk : PkOk k B) (hB : B ≤ 1000000000) (i : Int) (hi : I64 i) (s : Bs) : FnG Tryz.prog 100 [.gp p 0, .int .i64 i, .str s] gh fun rs g => ∃ (n e : Int) (lab' : Lab), rs = [.v (.int .i64 n), .v (.int .i64 e)] ∧ n = (k.makeD i s false).2.1 ∧ e = (k.makeD i s false).2.2 ∧ Upd gh g lab lab' (fun _ => True) (fun _ => False) ∧ DkIn g lab' p (k.makeD i s false).1 ∧ PkOk (k.makeD i s false).1 (B + 1) := by
 have hm := gMake h hk hB i hi s false
 refine FnG.of' T_ok M_ok [] (fn := Tryz.f100) (by kernel_rfl) rfl rfl rfl rfl (Nat.le_of_ble_eq_true rfl) fun A hA => ?_
 cbv
 refine callGI hA (hm) ?_
 intro rs_ g h_
 obtain ⟨n, e, lab', q_1, hq⟩ := h_
 subst q_1
 cbv
 exact retGI hA rfl [.v (.int .i64 n), .v (.int .i64 e)] g (⟨n, e, lab', rfl, hq⟩)
open Go Go.RowKit
def Dk.wt (k : Dk) (i : Nat) : Nat := match k.nodes[i - 1]? with
 | some nd => nd.seen.b.length
 | none => 0
def Dk.isD (k : Dk) (i : Nat) : Bool := match k.nodes[i - 1]? with
 | some nd => nd.dir
 | none => false
def Dk.reach (k : Dk) (w : Nat → Nat) : Nat → Nat → Nat
 | 0, _ => 0
 | n + 1, j => match k.nodes[j]? with
  | some nd => (nd.seen.en.map fun e => w e.2 + if k.isD e.2 then k.reach w n (e.2 - 1) else 0).sum
  | none => 0
def appW (k : Dk) (file : Int) (m : Nat) (i : Nat) : Nat := k.wt i + if (i : Int) = file then m else 0
structure RmIn (gh : GH) (lab : Lab) (p : Nat) (k : Dk) (v : V) (ids : List Nat) (iv bv : Nat) (bl : List V) (r : Int) : Prop where
 x : DkX gh lab p k v ids
 box : gh.get iv = some (.box [.int .i64 r])
 no : lab iv = none
 lt : iv < gh.next
 rng : w64 r = r
 bbox : gh.get bv = some (.box [.slice bl])
 bno : lab bv = none
 blt : bv < gh.next
 bne : bv ≠ iv
theorem w64_def (n : Int) : w64 n = if 9223372036854775808 ≤ n % 18446744073709551616 then n % 18446744073709551616 - 18446744073709551616 else n % 18446744073709551616 := by
 unfold w64 IntKind.wrap
 show (if (true && decide (n % (2 ^ 64 : Int) ≥ (2 ^ 63 : Int))) = true then n % (2 ^ 64 : Int) - (2 ^ 64 : Int) else n % (2 ^ 64 : Int)) = _
 rw [Bool.true_and]
 simp only [decide_eq_true_eq]
 rfl
theorem w64_sub (a b : Int) : w64 (w64 a - b) = w64 (a - b) := by
 rw [w64_def (w64 a - b), w64_def (a - b), w64_def a]
 split <;> omega
theorem gApp1 {gh : GH} {lab : Lab} {p : Nat} {k : Dk} {v : V} {ids : List Nat} {iv bv : Nat} {bl : List V} {r : Int} (h : RmIn gh lab p k v ids iv bv bl r) {B : Nat} (hk : PkOk k B) (hB : B ≤ 1000000000) (file : Int) (b : Bs) (hl : bl = bytesV b) (hbl : b.length ≤ 140737488355328) (j : Nat) (hj : 1 ≤ j ∧ j ≤ k.nodes.length) (i : Int) (hi : i = (j : Nat)) : FnG Tryz.prog 72 [.int .i64 i, .gp iv 0, .ref [.gp p 0], .ref [.int .i64 file], .gp bv 0] gh fun rs g => rs = [] ∧ ∃ r', r' = w64 (r - (appW k file b.length j : Nat)) ∧ g = gh.set iv (.box [.int .i64 r']) := by
 have hbox := h.x.box
 have hv : ∃ nid n, v = .gs nid n ∧ n = (ids.length : Nat) ∧ gh.get nid = some (.arow 1 (ids.map fun i => V.gp i 0)) := by
  rcases h.x.ns with ⟨_, h2⟩ | ⟨nid, h1, h2, h3⟩
  ·have := hk.one; rw [← h.x.len, h2] at this; exact absurd this (by decide)
  ·exact ⟨nid, _, h1, rfl, h3⟩
 obtain ⟨nid, n, rfl, hnn, hng⟩ := hv
 have hml := hk.most
 have hidl := h.x.len
 obtain ⟨id, hid⟩ : ∃ id, ids[j - 1]? = some id := ⟨_, List.getElem?_eq_getElem (by omega)⟩
 obtain ⟨nd, hnd⟩ : ∃ nd, k.nodes[j - 1]? = some nd := ⟨_, List.getElem?_eq_getElem (by omega)⟩
 obtain ⟨vb, ve, wb, we, vl, hb1, _, _, _, hwb, _⟩ := h.x.at_ _ _ _ hid hnd
 have hsz : nd.seen.b.length ≤ 1000000000 := by
  have := hk.sz nd (List.mem_of_getElem? hnd); have := seen_len nd; omega
 have f1 : w64 (i - 1) = (j - 1 : Nat) := by rw [hi, w64_id (by omega)]; omega
 have f2 : (0 : Int) ≤ (j - 1 : Nat) ∧ ((j - 1 : Nat) : Int) < n := by omega
 have f3 : (ids.map fun i => V.gp i 0)[((j - 1 : Nat) : Int).toNat]? = some (.gp id 0) := by rw [Int.toNat_natCast, List.getElem?_map, hid]; rfl
 obtain ⟨z, hz⟩ : ∃ z : Int, z = (j - 1 : Nat) := ⟨_, rfl⟩
 rw [← hz] at f1 f2 f3
 have hbi := h.box
 have hwt : k.wt j = nd.seen.b.length := by unfold Dk.wt; rw [hnd]
 obtain ⟨sl, hsl⟩ : ∃ n : Int, n = (nd.seen.b.length : Nat) := ⟨_, rfl⟩
 obtain ⟨r1, hr1⟩ : ∃ n, n = w64 (r - sl) := ⟨_, rfl⟩
 have bb1 : ∀ g1, g1 = gh.set iv (.box [.int .i64 r1]) → g1.get bv = some (.box [.slice bl]) := fun g1 q => by rw [q]; simp only [GH.set_get]; rw [if_neg h.bne]; exact h.bbox
 have fF : i ≠ file → r1 = w64 (r - (appW k file b.length j : Nat)) := fun q => by rw [hr1, hsl]; unfold appW; rw [hwt, if_neg (by rw [← hi]; exact q)]; rfl
 have fT : i = file → w64 (r - (appW k file b.length j : Nat)) = w64 (r1 - b.length) := fun q => by
  rw [hr1, hsl]; unfold appW; rw [hwt, if_pos (by rw [← hi]; exact q)]
  rw [w64_sub]; congr 1; omega
 refine FnG.of' T_ok M_ok [] (fn := Tryz.f72) (by kernel_rfl) rfl rfl rfl rfl (Nat.le_of_ble_eq_true rfl) fun A hA => ?_
 cbv
 refine chkI hA (by kernel_rfl) ?_
 cbv
 refine gldI hA _ (hbi) ?_
 cbv
 refine gldI hA _ (hbox) ?_
 cbv
 refine gixN hA ((zsub hA i 1).trans f1) f2 ?_
 cbv
 refine gldRN hA (y := .gp id 0) ((zsub hA i 1).trans f1) _ (.inr (.inr hng)) f3 ?_
 cbv
 refine gldI hA _ (hb1) ?_
 cbv
 rcases hwb with ⟨rfl, hb0⟩ | rfl | ⟨wid, rfl, hw1, hw2⟩
 ·obtain rfl : 0 = sl := (hsl.trans (by rw [hb0]; rfl)).symm
  cbv
  refine gstI hA _ hbi ?_
  intro g1 hg1
  have hg1 : g1 = gh.set iv (.box [.int .i64 r1]) := hg1.trans (congrArg (fun q => gh.set iv (.box [.int .i64 q])) ((zsub hA r _).trans hr1.symm))
  have hb1 : g1.get iv = some (.box [.int .i64 r1]) := by rw [hg1]; simp
  cbv
  refine condI hA (fun h1 => ?_) (fun h1 => ?_)
  ·have h1 := zeqT hA h1
   cbv
   refine gldI hA _ (hb1) ?_
   cbv
   refine gldI hA _ ((bb1 g1 hg1)) ?_
   cbv
   refine gstI hA _ hb1 ?_
   intro g2 hg2
   have hg2 : g2 = g1.set iv (.box [.int .i64 (w64 (r1 - b.length))]) := hg2.trans (congrArg (fun q => g1.set iv (.box [.int .i64 q])) ((zsub hA r1 _).trans (congrArg (fun q => w64 (r1 - q)) (lenI hA hl))))
   exact retGI hA rfl [] g2 (⟨rfl, _, (fT h1).symm, by rw [hg2, hg1, set_set]⟩)
  ·have h1 := zeqF hA h1
   cbv
   exact retGI hA rfl [] g1 (⟨rfl, r1, fF h1, hg1⟩)
 ·refine glnSN hA (.inr (.inl rfl)) (m := sl) (by rw [bytesV_len]; exact hsl) ?_
  cbv
  refine gstI hA _ hbi ?_
  intro g1 hg1
  have hg1 : g1 = gh.set iv (.box [.int .i64 r1]) := hg1.trans (congrArg (fun q => gh.set iv (.box [.int .i64 q])) ((zsub hA r _).trans hr1.symm))
  have hb1 : g1.get iv = some (.box [.int .i64 r1]) := by rw [hg1]; simp
  cbv
  refine condI hA (fun h1 => ?_) (fun h1 => ?_)
  ·have h1 := zeqT hA h1
   cbv
   refine gldI hA _ (hb1) ?_
   cbv
   refine gldI hA _ ((bb1 g1 hg1)) ?_
   cbv
   refine gstI hA _ hb1 ?_
   intro g2 hg2
   have hg2 : g2 = g1.set iv (.box [.int .i64 (w64 (r1 - b.length))]) := hg2.trans (congrArg (fun q => g1.set iv (.box [.int .i64 q])) ((zsub hA r1 _).trans (congrArg (fun q => w64 (r1 - q)) (lenI hA hl))))
   exact retGI hA rfl [] g2 (⟨rfl, _, (fT h1).symm, by rw [hg2, hg1, set_set]⟩)
  ·have h1 := zeqF hA h1
   cbv
   exact retGI hA rfl [] g1 (⟨rfl, r1, fF h1, hg1⟩)
 ·rw [← natEq hsl]
  refine glenI hA ?_
  cbv
  refine gstI hA _ hbi ?_
  intro g1 hg1
  have hg1 : g1 = gh.set iv (.box [.int .i64 r1]) := hg1.trans (congrArg (fun q => gh.set iv (.box [.int .i64 q])) ((zsub hA r _).trans hr1.symm))
  have hb1 : g1.get iv = some (.box [.int .i64 r1]) := by rw [hg1]; simp
  cbv
  refine condI hA (fun h1 => ?_) (fun h1 => ?_)
  ·have h1 := zeqT hA h1
   cbv
   refine gldI hA _ (hb1) ?_
   cbv
   refine gldI hA _ ((bb1 g1 hg1)) ?_
   cbv
   refine gstI hA _ hb1 ?_
   intro g2 hg2
   have hg2 : g2 = g1.set iv (.box [.int .i64 (w64 (r1 - b.length))]) := hg2.trans (congrArg (fun q => g1.set iv (.box [.int .i64 q])) ((zsub hA r1 _).trans (congrArg (fun q => w64 (r1 - q)) (lenI hA hl))))
   exact retGI hA rfl [] g2 (⟨rfl, _, (fT h1).symm, by rw [hg2, hg1, set_set]⟩)
  ·have h1 := zeqF hA h1
   cbv
   exact retGI hA rfl [] g1 (⟨rfl, r1, fF h1, hg1⟩)
theorem grngN {A : Prim} {R : List (Nat × AObj) → List D → Prop} (hA : A = std Tryz.prog R) {o : Oper} {t kt et : Nat} {x : Operand} {gh : GH} {id clock : Nat} {es : List (Nat × V × V)} {K : V → GH → Prop} (hg : gh.get id = some (.map es clock)) (hK : ∀ g' it, it = gh.next → g' = gh.new (.mit (some id) clock [] clock) → K (.gp it 0) g') (hm : Tryz.prog.underlying t = some (.map kt et)) (ho : o.op = .range t x := by rfl) : A.gop o [.gm id] gh K := grngI hA hg (fun g' h => hK g' _ rfl h) hm ho
theorem gentN {A : Prim} {R : List (Nat × AObj) → List D → Prop} (hA : A = std Tryz.prog R) {x : Operand} {gh : GH} {it id since clock : Nat} {seen : List Nat} {es : List (Nat × V × V)} {e : Nat × V × V} {r : V} {K : V → Prop} (hi : gh.get it = some (.mit (some id) since (seen ++ [e.1]) clock)) (hg : gh.get id = some (.map es clock)) (he : e ∈ es) (hnd : (es.map (·.1)).Nodup) (hr : V.tup [e.2.1, e.2.2] = r) (hK : K r) : A.gq (.entry x) [.gp it 0] gh K := gentI hA hi hg he hnd (hr ▸ hK)
structure RcIn (gh : GH) (lab : Lab) (iv it mid c : Nat) (t : List (Nat × Bs × Nat)) (W : Nat → Nat) (r : Int) (g : GH) (L : List (Nat × Bs × Nat)) : Prop where
 u : Upd gh g lab lab (fun _ => False) (fun x => x = iv)
 it_ : g.get it = some (.mit (some mid) c (L.map (·.1)) c)
 itl : it < g.next
 nd : (L.map (·.1)).Nodup
 sub : ∀ e ∈ L, e ∈ t
 box : g.get iv = some (.box [.int .i64 (w64 (r - ((L.map fun e => W e.2.2).sum : Nat)))])
theorem nodup_of {α β : Type} {f : α → β} {l : List α} (h : (l.map f).Nodup) : l.Nodup := (List.pairwise_map.1 h).imp fun q e => q (congrArg f e)
theorem nodup_inj {α β : Type} {f : α → β} : ∀ {l : List α}, (l.map f).Nodup → ∀ {x y : α}, x ∈ l → y ∈ l → f x = f y → x = y
 | [], _, _, _, h, _, _ => absurd h (by simp)
 | a :: l, h, x, y, hx, hy, e => by
  rw [List.map_cons, List.nodup_cons] at h
  rcases List.mem_cons.1 hx with rfl | hx2
  ·rcases List.mem_cons.1 hy with rfl | hy2
   ·rfl
   ·exact absurd (List.mem_map.2 ⟨y, hy2, e.symm⟩) h.1
  ·rcases List.mem_cons.1 hy with rfl | hy2
   ·exact absurd (List.mem_map.2 ⟨x, hx2, e⟩) h.1
   ·exact nodup_inj h.2 hx2 hy2 e
theorem RcIn.done {gh : GH} {lab : Lab} {iv it mid c : Nat} {t : List (Nat × Bs × Nat)} {W : Nat → Nat} {r : Int} {g : GH} {L : List (Nat × Bs × Nat)} {en : List (Bs × Nat)} (h : RcIn gh lab iv it mid c t W r g L) (hm : MpOk t c en) (hall : ∀ e ∈ encE t, e.1 ∈ L.map (·.1)) : (L.map fun e => W e.2.2).sum = (en.map fun e => W e.2).sum := by
 have hp : L.Perm t := by
  refine (List.perm_ext_iff_of_nodup (nodup_of h.nd) (nodup_of hm.nd)).2 fun x => ⟨h.sub x, fun hx => ?_⟩
  have h1 := hall (x.1, .str x.2.1, .int .i64 x.2.2) (List.mem_map.2 ⟨x, hx, rfl⟩)
  obtain ⟨y, hy, e⟩ := List.mem_map.1 h1
  have hyt := h.sub y hy
  obtain rfl : y = x := nodup_inj hm.nd hyt hx e
  exact hy
 rw [(hp.map _).sum_nat, ← (hm.perm.map fun e => W e.2).sum_nat]
 unfold names; rw [List.map_map]; rfl
def leftN (t L : List (Nat × Bs × Nat)) : Nat := (t.filter fun e => !(L.map (·.1)).contains e.1).length
theorem leftN_lt {t L : List (Nat × Bs × Nat)} {x : Nat × Bs × Nat} (hx : x ∈ t) (hn : x.1 ∉ L.map (·.1)) : leftN t (L ++ [x]) < leftN t L := by
 unfold leftN
 rw [show (t.filter fun e => !((L ++ [x]).map (·.1)).contains e.1) = (t.filter fun e => !(L.map (·.1)).contains e.1).filter fun e => !(e.1 == x.1) from by
  rw [List.filter_filter]; congr 1; funext e
  rw [List.map_append, List.contains_eq_any_beq, List.any_append, ← List.contains_eq_any_beq]; simp [Bool.and_comm]]
 exact List.length_filter_lt_length_iff_exists.2 ⟨x, List.mem_filter.2 ⟨hx, by simpa using hn⟩, by simp⟩
theorem w64_sub2 (a : Int) (b c : Nat) : w64 (w64 (a - b) - c) = w64 (a - ((b + c : Nat) : Int)) := by rw [w64_sub]; congr 1; omega
theorem w64_w64 (a : Int) : w64 (w64 a) = w64 a := by simpa using w64_sub a 0
theorem RcIn.visit {gh : GH} {lab : Lab} {p : Nat} {k : Dk} {v : V} {ids : List Nat} {iv bv : Nat} {bl : List V} {r : Int} {it mid c : Nat} {t : List (Nat × Bs × Nat)} {W : Nat → Nat} {g g2 : GH} {L : List (Nat × Bs × Nat)} (h : RmIn gh lab p k v ids iv bv bl r) (hit : it = gh.next) (hI : RcIn gh lab iv it mid c t W r g L) {b : Nat} (hg2 : g2 = g.set it (.mit (some mid) c (L.map (·.1) ++ [b]) c)) : Upd gh g2 lab lab (fun _ => False) (fun x => x = iv) ∧ RmIn g2 lab p k v ids iv bv bl (w64 (r - ((L.map fun e => W e.2.2).sum : Nat))) ∧ g2.next = g.next ∧ g2.get it = some (.mit (some mid) c (L.map (·.1) ++ [b]) c) := by
 have hiv : iv ≠ it := by have := h.lt; omega
 have hn2 : g2.next = g.next := by rw [hg2]; rfl
 have u2 : Upd gh g2 lab lab (fun _ => False) (fun x => x = iv) := Upd.mk0 h.x.dom (by rw [hn2]; exact hI.u.next) fun x hx q1 q2 => by
  rw [hg2]; simp only [GH.set_get]; rw [if_neg (by omega)]; exact hI.u.get x hx q1 q2
 exact ⟨u2, ⟨h.x.upd u2 (fun x e => by rw [e]; exact h.no), by rw [hg2]; simp only [GH.set_get]; rw [if_neg hiv]; exact hI.box, h.no, by rw [hn2]; exact Nat.lt_of_lt_of_le h.lt hI.u.next, w64_w64 _, by rw [hg2]; simp only [GH.set_get]; rw [if_neg (by have := h.blt; omega)]; exact (hI.u.get bv h.blt h.bne (fun q e => by rw [h.bno] at e; cases e)).trans h.bbox, h.bno, by rw [hn2]; exact Nat.lt_of_lt_of_le h.blt hI.u.next, h.bne⟩, hn2, by rw [hg2]; simp⟩
theorem RmIn.put {gh g : GH} {lab : Lab} {p : Nat} {k : Dk} {v : V} {ids : List Nat} {iv bv : Nat} {bl : List V} {r r' : Int} (h : RmIn gh lab p k v ids iv bv bl r) (hr : w64 r' = r') (hg : g = gh.set iv (.box [.int .i64 r'])) : Upd gh g lab lab (fun _ => False) (fun x => x = iv) ∧ RmIn g lab p k v ids iv bv bl r' := by
 have u2 : Upd gh g lab lab (fun _ => False) (fun x => x = iv) := Upd.mk0 h.x.dom (by rw [hg]; exact Nat.le_refl _) fun x hx q1 q2 => by
  rw [hg]; simp only [GH.set_get]; rw [if_neg q1]
 exact ⟨u2, h.x.upd u2 (fun x e => by rw [e]; exact h.no), by rw [hg]; simp, h.no, by rw [hg]; exact h.lt, hr, by rw [hg]; simp only [GH.set_get]; rw [if_neg h.bne]; exact h.bbox, h.bno, by rw [hg]; exact h.blt, h.bne⟩
theorem RcIn.more {gh : GH} {lab : Lab} {iv it mid c : Nat} {t : List (Nat × Bs × Nat)} {W : Nat → Nat} {r : Int} {g g2 g3 : GH} {L : List (Nat × Bs × Nat)} (hI : RcIn gh lab iv it mid c t W r g L) (hd : Dom gh lab) (hit : it = gh.next) (hlt : iv < gh.next) {x : Nat × Bs × Nat} (hx : x ∈ t) (hn : x.1 ∉ L.map (·.1)) (u2 : Upd gh g2 lab lab (fun _ => False) (fun x => x = iv)) (hn2 : g2.next = g.next) (hi2 : g2.get it = some (.mit (some mid) c (L.map (·.1) ++ [x.1]) c)) (u3 : Upd g2 g3 lab lab (fun _ => False) (fun x => x = iv)) (hb : g3.get iv = some (.box [.int .i64 (w64 (w64 (r - ((L.map fun e => W e.2.2).sum : Nat)) - (W x.2.2 : Nat)))])) : RcIn gh lab iv it mid c t W r g3 (L ++ [x]) :=
 ⟨u2.trans u3, by rw [List.map_append]; exact (u3.get it (by rw [hn2]; exact hI.itl) (by omega) (fun q e => by rw [hd it (by omega)] at e; cases e)).trans hi2, Nat.lt_of_lt_of_le hI.itl (by rw [← hn2]; exact u3.next), by
  rw [List.map_append, List.nodup_append]
  exact ⟨hI.nd, by simp, fun a ha b hb e => by simp at hb; rw [e, hb] at ha; exact hn ha⟩, fun e he => by
  rcases List.mem_append.1 he with q | q
  ·exact hI.sub e q
  ·rw [List.mem_singleton.1 q]; exact hx, by
  rw [hb, w64_sub, List.map_append, List.sum_append]; simp only [List.map_cons, List.map_nil, List.sum_cons, List.sum_nil]
  congr 5; omega⟩
theorem gReach {lab : Lab} {p : Nat} {k : Dk} {v : V} {ids : List Nat} {iv bv : Nat} {bl : List V} {B : Nat} (hP : PkOk k B) (hB : B ≤ 1000000000) (file : Int) (b : Bs) (hl : bl = bytesV b) (hbl : b.length ≤ 140737488355328) : ∀ (n : Nat) {gh : GH} {r : Int} (h : RmIn gh lab p k v ids iv bv bl r) (j : Nat) (nd : Nd) (hj : k.nodes[j]? = some nd) (hdir : nd.dir = true) (hf : k.nodes.length - j ≤ n) (i : Int) (hi : i = (j : Int) + 1),
  FnG Tryz.prog 71 [.gp p 0, .int .i64 i, .clo 72 [.gp iv 0, .ref [.gp p 0], .ref [.int .i64 file], .gp bv 0]] gh fun rs g => rs = [] ∧ ∃ r', r' = w64 (r - (k.reach (appW k file b.length) n j : Nat)) ∧ Upd gh g lab lab (fun _ => False) (fun x => x = iv) ∧ g.get iv = some (.box [.int .i64 r'])
 | 0, gh, r, h, j, nd, hj, hdir, hf, i, hi => absurd (List.getElem?_eq_some_iff.1 hj).1 (by omega)
 | n + 1, gh, r, h, j, nd, hj, hdir, hf, i, hi => by
  have hbox := h.x.box
  have hv : ∃ nid n, v = .gs nid n ∧ n = (ids.length : Nat) ∧ gh.get nid = some (.arow 1 (ids.map fun i => V.gp i 0)) := by
   rcases h.x.ns with ⟨_, h2⟩ | ⟨nid, h1, h2, h3⟩
   ·have := hP.one; rw [← h.x.len, h2] at this; exact absurd this (by decide)
   ·exact ⟨nid, _, h1, rfl, h3⟩
  obtain ⟨nid, nn, rfl, hnn, hng⟩ := hv
  have hml := hP.most
  have hidl := h.x.len
  have hjl := (List.getElem?_eq_some_iff.1 hj).1
  obtain ⟨id, hid⟩ : ∃ id, ids[j]? = some id := ⟨_, List.getElem?_eq_getElem (by omega)⟩
  obtain ⟨vb, ve, wb, we, vl, hb1, hli, _, _, _, hwe, _⟩ := h.x.at_ _ _ _ hid hj
  rw [hdir] at hwe
  obtain ⟨mid, t, c, rfl, hlm, hgm, hmok⟩ := hwe
  have f1 : w64 (i - 1) = (j : Nat) := by rw [hi, w64_id (by omega)]; omega
  have f2 : (0 : Int) ≤ (j : Nat) ∧ ((j : Nat) : Int) < nn := by omega
  have f3 : (ids.map fun i => V.gp i 0)[((j : Nat) : Int).toNat]? = some (.gp id 0) := by rw [Int.toNat_natCast, List.getElem?_map, hid]; rfl
  obtain ⟨z, hz⟩ : ∃ z : Int, z = (j : Nat) := ⟨_, rfl⟩
  rw [← hz] at f1 f2 f3
  obtain ⟨W, hW⟩ : ∃ W : Nat → Nat, W = fun i => appW k file b.length i + if k.isD i then k.reach (appW k file b.length) n (i - 1) else 0 := ⟨_, rfl⟩
  have hrc : k.reach (appW k file b.length) (n + 1) j = (nd.seen.en.map fun e => W e.2).sum := by rw [hW]; simp only [Dk.reach]; rw [hj]
  have gm : ∀ it g L, RcIn gh lab iv it mid c t W r g L → g.get mid = some (.map (encE t) c) := fun it g L hI => (upd_id h.x.dom hI.u hlm (fun h => h) (fun e => by rw [e, h.no] at hlm; cases hlm) hgm).2
  have old : ∀ e ∈ encE t, e.1 < c := fun e he => by
   obtain ⟨x, hx, rfl⟩ := List.mem_map.1 he
   exact hmok.lt x hx
  have wid0 := h.rng
  have hE : ∀ x2 : Nat, j + 1 < x2 → x2 ≤ k.nodes.length → ∃ id1 n1, ∃ z1 : Int, ids[x2 - 1]? = some id1 ∧ k.nodes[x2 - 1]? = some n1 ∧ (0 ≤ z1 ∧ z1 < nn) ∧ (ids.map fun i => V.gp i 0)[z1.toNat]? = some (.gp id1 0) ∧ (∀ m : Int, m = (x2 : Nat) → w64 (m - 1) = z1 ∧ m = ((x2 - 1 : Nat) : Int) + 1) ∧ k.nodes.length - (x2 - 1) ≤ n := fun x2 q1 q2 => by
   obtain ⟨id1, hid1⟩ : ∃ id, ids[x2 - 1]? = some id := ⟨_, List.getElem?_eq_getElem (by omega)⟩
   obtain ⟨n1, hn1⟩ : ∃ nd, k.nodes[x2 - 1]? = some nd := ⟨_, List.getElem?_eq_getElem (by omega)⟩
   exact ⟨id1, n1, (x2 - 1 : Nat), hid1, hn1, by omega, by rw [Int.toNat_natCast, List.getElem?_map, hid1]; rfl, fun m hm => ⟨by rw [hm, w64_id (by omega)]; omega, by omega⟩, by omega⟩
  have old2 : ((encE t).map (·.1)).Nodup := by unfold encE; rw [List.map_map]; exact hmok.nd
  refine FnG.of' T_ok M_ok [5, 9] (fn := Tryz.f71) (by kernel_rfl) rfl rfl rfl rfl (Nat.le_of_ble_eq_true rfl) fun A hA => ?_
  cbv
  refine gldI hA _ (hbox) ?_
  cbv
  refine gixN hA ((zsub hA i 1).trans f1) f2 ?_
  cbv
  refine gldRN hA (y := .gp id 0) ((zsub hA i 1).trans f1) _ (.inr (.inr hng)) f3 ?_
  cbv
  refine gldI hA _ (hb1) ?_
  cbv
  refine grngN hA (et := 3) hgm ?_ uMap
  intro g1 it hit hg1
  have hst : RcIn gh lab iv it mid c t W r g1 [] := ⟨Upd.mk0 h.x.dom (by rw [hg1]; simp) (fun x hx _ _ => by rw [hg1]; simp only [GH.new_get]; rw [if_neg (by omega)]), by rw [hg1, hit]; simp, by rw [hg1, hit]; simp, by simp, by simp, by
   rw [hg1]; simp only [GH.new_get]; rw [if_neg (by have := h.lt; omega), h.box]; simp [wid0]⟩
  cbv
  refine loopF hA (ι := GH × List (Nat × Bs × Nat)) (fun q => { n := 43, sl := [(0, .v (.gp p 0)), (2, .v (.clo 72 [.gp iv 0, .ref [.gp p 0], .ref [.int .i64 file], .gp bv 0])), (20, .v (.gp it 0))], ob := [(hk, .heap q.1 [5, 9])] }) (fun q => RcIn gh lab iv it mid c t W r q.1 q.2) (fun q => leftN t q.2) (_, []) (weakI rfl ⟨rfl, rfl, rfl, trivial⟩ ⟨rfl, trivial⟩) hst ?_
  rintro ⟨g, L⟩ hI
  dsimp only at hI
  cbv
  refine gnxtI hA hI.it_ (gm _ g L hI) (old) (Nat.le_refl _) ?_
  rintro x g2 (⟨e, he, hne, rfl, hg2⟩ | ⟨hall, rfl, rfl⟩)
  ·obtain ⟨x, hxt, rfl⟩ := List.mem_map.1 he
   obtain ⟨u2, hR2, hn2, hi2⟩ := hI.visit h hit hg2
   obtain ⟨q1, q2⟩ := hP.seen_en hj x.2 (hmok.perm.mem_iff.1 (List.mem_map.2 ⟨x, hxt, rfl⟩))
   obtain ⟨m, hm⟩ : ∃ m : Int, m = (x.2.2 : Nat) := ⟨_, rfl⟩
   have gm2 := (upd_id h.x.dom u2 hlm (fun h => h) (fun e => by rw [e, h.no] at hlm; cases hlm) hgm).2
   obtain ⟨id1, n1, z1, hid1, hn1, e2, e3, e6, e5⟩ := hE x.2.2 q1 q2
   obtain ⟨e1, e4⟩ := e6 m hm
   obtain ⟨d1, hd1⟩ : ∃ d, d = n1.dir := ⟨_, rfl⟩
   have hWx : W x.2.2 = appW k file b.length x.2.2 + if d1 = true then k.reach (appW k file b.length) n (x.2.2 - 1) else 0 := by
    rw [hW, hd1]; simp only []
    rw [show k.isD x.2.2 = n1.dir from by unfold Dk.isD; rw [hn1]]
   have hfin : ∀ g3 r' r2 g4, r' = w64 (w64 (r - ((L.map fun e => W e.2.2).sum : Nat)) - (appW k file b.length x.2.2 : Nat)) → Upd g2 g3 lab lab (fun _ => False) (fun x => x = iv) → Upd g3 g4 lab lab (fun _ => False) (fun x => x = iv) → g4.get iv = some (.box [.int .i64 r2]) → (d1 = false → r2 = r') → (d1 = true → r2 = w64 (r' - (k.reach (appW k file b.length) n (x.2.2 - 1) : Nat))) → RcIn gh lab iv it mid c t W r g4 (L ++ [x]) := fun g3 r' r2 g4 hr' u3 u4 hb4 h1 h2 => by
    refine hI.more h.x.dom hit h.lt hxt (by simpa using hne) u2 hn2 hi2 (u3.trans u4) (hb4.trans ?_)
    congr 5
    cases hd : d1 with
    | false => rw [h1 hd, hr', hWx, hd]; simp
    | true => rw [h2 hd, hr', hWx, hd, if_pos rfl]; exact w64_sub2 _ _ _
   have hlft := leftN_lt hxt (by simpa using hne)
   have hvis := gApp1 hR2 hP hB file b hl hbl x.2.2 ⟨Nat.lt_of_le_of_lt (Nat.zero_le _) q1, q2⟩ m hm
   cbv
   refine condT hA rfl ?_
   cbv
   refine gentN hA hi2 gm2 he old2 (r := .tup [.str x.2.1, .int .i64 m]) (by rw [hm]) ?_
   cbv
   refine callGI hA (hvis) ?_
   intro rs_ g3 h_
   obtain ⟨q_1, r', hr', hg3⟩ := h_
   subst q_1
   cbv
   obtain ⟨u3, hR3⟩ := hR2.put (by rw [hr']; exact w64_w64 _) hg3
   have b3 := hR3.x.box
   have hng3 : g3.get nid = some (.arow 1 (ids.map fun i => V.gp i 0)) := by
    rcases hR3.x.ns with ⟨q, _⟩ | ⟨nid', q, _, q3⟩
    ·cases q
    ·cases q; exact q3
   obtain ⟨vb', ve', wb', we', vl', hb13, _⟩ := hR3.x.at_ _ _ _ hid1 hn1
   rw [← hd1] at hb13
   refine gldI hA _ (b3) ?_
   cbv
   refine gixN hA ((zsub hA m 1).trans e1) e2 ?_
   cbv
   refine gldRN hA (y := .gp id1 0) ((zsub hA m 1).trans e1) _ (.inr (.inr hng3)) e3 ?_
   cbv
   refine gldI hA _ (hb13) ?_
   cbv
   refine condI hA (fun hc => ?_) (fun hc => ?_)
   ·have hrec := gReach hP hB file b hl hbl n hR3 (x.2.2 - 1) n1 hn1 (hd1.symm.trans hc) e5 m e4
    cbv
    refine callGI hA (hrec) ?_
    intro rs_ g4 h_
    obtain ⟨q_1, r2, hr2, u4, hb4⟩ := h_
    subst q_1
    cbv
    refine ⟨(g4, L ++ [x]), weakI rfl ⟨rfl, rfl, rfl, trivial⟩ ⟨rfl, trivial⟩, hfin g3 r' r2 g4 hr' u3 u4 hb4 (fun q => by rw [hc] at q; cases q) (fun _ => hr2), hlft⟩
   ·cbv
    refine ⟨(g3, L ++ [x]), weakI rfl ⟨rfl, rfl, rfl, trivial⟩ ⟨rfl, trivial⟩, hfin g3 r' r' g3 hr' u3 (Upd.refl hR3.x.dom _ _) hR3.box (fun _ => rfl) (fun q => by rw [hc] at q; cases q), hlft⟩
  ·cbv
   refine condF hA rfl ?_
   cbv
   exact retGI hA rfl [] g2 (⟨rfl, _, by rw [hrc, ← hI.done hmok hall], hI.u, hI.box⟩)
open Go Go.RowKit
theorem gApp2 {gh : GH} {lab : Lab} {i id : Nat} {nd : Nd} (hd : Dom gh lab) (h : NodeAt gh lab i id nd) (b : Bs) (l : List V) (hl : l = bytesV b) (hdir : nd.dir = false) (hsz : nd.seen.b.length + b.length ≤ 140737488355328) (hll : nd.loose.length ≤ 1000000000) : FnG Tryz.prog 75 [.ref [.slice l], .ref [.gp id 0]] gh fun rs g => rs = [] ∧ ∃ lab', Upd gh g lab lab' (NdT i) (fun _ => False) ∧ NodeAt g lab' i id (if b = [] then nd else nd.add (.app b)) := by
 have ha : ∀ m : Int, m = (b.length : Nat) → b ≠ [] → FnG Tryz.prog 76 [.gp id 0, .agg [.int .i64 m, .clo 77 [.ref [.slice l]]]] gh _ := fun m hm hb => gAddN hd h (.app b) ⟨hdir, by cases b with
  | nil => exact absurd rfl hb
  | cons _ _ => exact Nat.succ_le_succ (Nat.zero_le _), Nat.le_refl _, hsz⟩ hll m hm (.clo 77 [.ref [.slice l]]) (by rw [hl]; rfl)
 have hz : ∀ m : Int, m = (b.length : Nat) → (0 < m ↔ b ≠ []) := fun m hm => by cases b <;> simp_all <;> omega
 refine FnG.of' T_ok M_ok [] (fn := Tryz.f75) (by kernel_rfl) rfl rfl rfl rfl (Nat.le_of_ble_eq_true rfl) fun A hA => ?_
 cbv
 refine condI hA (fun h1 => ?_) (fun h1 => ?_)
 ·have h1 := zltT hA h1
  have hb := (hz _ (lenI hA hl)).1 h1
  cbv
  refine callGI hA (ha _ (lenI hA hl) hb) ?_
  intro rs_ g h_
  obtain ⟨q_1, lab', q⟩ := h_
  subst q_1
  cbv
  exact retGI hA rfl [] g ⟨rfl, lab', by rw [if_neg hb]; exact q⟩ trivial
 ·have h1 := zltF hA h1
  have hb : b = [] := Classical.byContradiction fun q => h1 ((hz _ (lenI hA hl)).2 q)
  cbv
  exact retGI hA rfl [] gh ⟨rfl, lab, Upd.refl hd _ _, by rw [if_pos hb]; exact h⟩ trivial
def Dk.room (k : Dk) (i : Int) (m : Nat) : Int := w64 (k.cap - (k.reach (appW k i m) k.nodes.length 0 : Nat))
def Dk.appD (k : Dk) (i : Int) (b : Bs) : Dk × Int := if k.ofE i false ≠ 0 then (k, k.ofE i false) else if k.room i b.length < 0 then (k, 11) else
 let k1 : Dk := { k with full := k.full.next }
 if k.full.hit then (k1, 11) else (k1.op true i (fun n => if b = [] then n else n.add (.app b)), k1.opE)
theorem PkOk.app {k : Dk} {B : Nat} (h : PkOk k B) {i : Nat} {nd : Nd} (hn : k.nodes[i]? = some nd) (change : Bool) (b : Bs) (hdir : nd.dir = false) (hsz : nd.seen.b.length + b.length ≤ 140737488355328) : PkOk (k.op change ((i : Int) + 1) (fun n => if b = [] then n else n.add (.app b))) (B + b.length) := by
 cases b with
 | nil =>
  simp only [if_true]
  exact h.op hn (fun n => n) change rfl (h.ls nd (List.mem_of_getElem? hn)) (h.sz nd (List.mem_of_getElem? hn)) (Nat.le_refl _) (h.en i nd hn)
 | cons x r =>
  simp only [reduceCtorEq, if_false]
  exact h.add hn change (.app (x :: r)) ⟨hdir, Nat.succ_le_succ (Nat.zero_le _), Nat.le_refl _, hsz⟩ (Nat.succ_le_succ (Nat.zero_le _)) (fun t j e => nomatch e)
theorem gAppend {gh : GH} {lab : Lab} {p : Nat} {k : Dk} {B : Nat} (h : DkIn gh lab p k) (hk : PkOk k B) (i : Int) (hi : I64 i) (b : Bs) (l : List V) (hl : l = bytesV b) (hB : B + b.length ≤ 1000000000) (hc : w64 k.cap = k.cap) : FnG Tryz.prog 34 [.gp p 0, .int .i64 i, .slice l] gh fun rs g => ∃ (e : Int) (lab' : Lab), rs = [.v (.int .i64 e)] ∧ e = (k.appD i b).2 ∧ Upd gh g lab lab' (fun _ => True) (fun _ => False) ∧ DkIn g lab' p (k.appD i b).1 ∧ PkOk (k.appD i b).1 (B + b.length) := by
 obtain ⟨v, ids, hX⟩ := h.at_.x
 have hkB : PkOk k (B + b.length) := hk.mono (Nat.le_add_right _ _)
 have hone := h.one
 have hszl : ∀ nd ∈ k.nodes, nd.seen.b.length + b.length ≤ 140737488355328 ∧ (nd.loose.map Stp.parts).sum ≤ 1000000000 := fun nd hn => by
  have h1 := hk.sz nd hn
  have h2 := seen_len nd
  unfold Nd.parts at h1 h2
  omega
 have hbl : b.length ≤ 140737488355328 := by omega
 have hB' : B ≤ 1000000000 := by omega
 have hll : l.length ≤ 140737488355328 := by rw [hl, bytesV_len]; exact hbl
 obtain ⟨root, hroot, hrd⟩ := hk.root
 obtain ⟨room, hroom⟩ : ∃ r, r = k.room i b.length := ⟨_, rfl⟩
 have hcl := cCloneO l (bytesV_flat hl) hll
 refine FnG.of' T_ok M_ok [5, 9, 1000037] (fn := Tryz.f34) (by kernel_rfl) rfl rfl rfl rfl (Nat.le_of_ble_eq_true rfl) fun A hA => ?_
 cbv
 refine gbxN hA ?_
 intro g0 bv hbv hg0
 have hn0 : g0.next = gh.next + 1 := by rw [hg0]; simp
 have bb0 : g0.get bv = some (.box [.slice l]) := by rw [hg0, hbv]; simp; rfl
 have hlb : lab bv = none := hX.dom bv (by rw [hbv]; exact Nat.le_refl _)
 have u0 : Upd gh g0 lab lab (fun _ => False) (fun _ => False) := Upd.mk0 hX.dom (by rw [hn0]; exact Nat.le_succ _) (fun x hx q _ => by
  rw [hg0]; simp only [GH.new_get]; rw [if_neg (Nat.ne_of_lt hx)])
 have hX0 := hX.upd u0 (fun x e => e.elim)
 have hbox := hX0.box
 have hof := gOfS g0 lab p v k ids i false hX0.box hX0.ns hX0.len hX0.at_ hone hi
 have stay : ∀ e, k.appD i b = (k, e) → ∃ (e' : Int) (lab' : Lab), [Rs.v (.int .i64 e)] = [.v (.int .i64 e')] ∧ e' = (k.appD i b).2 ∧ Upd gh g0 lab lab' (fun _ => True) (fun _ => False) ∧ DkIn g0 lab' p (k.appD i b).1 ∧ PkOk (k.appD i b).1 (B + b.length) := fun e q => ⟨e, lab, rfl, by rw [q], u0.weak (fun _ _ => trivial) (fun _ h => h.elim), by rw [q]; exact ⟨hX0.at, hone⟩, by rw [q]; exact hkB⟩
 cbv
 refine callGI hA (hof) ?_
 intro rs_ g_ h_
 obtain ⟨x, e, q_1, hx, he, hnil, q_2⟩ := h_
 subst q_1
 subst q_2
 cbv
 rcases Int.decEq e 0 with h0 | h0
 ·have hxn := hnil h0
  have hk0 : k.ofE i false ≠ 0 := he ▸ h0
  subst hxn
  cbv
  refine condI hA (fun h1 => ?_) (fun h1 => ?_)
  ·cbv
   exact retGI hA rfl [.v (.int .i64 e)] g0 (stay e (by unfold Dk.appD; rw [if_pos hk0, he]))
  ·exact absurd (zneF hA h1) h0
 ·obtain ⟨id, nd, hG, hdir⟩ := hx h0
  have hx2 := hG.x
  have hk0 : ¬ k.ofE i false ≠ 0 := fun q => q (he ▸ h0)
  obtain ⟨j, hij, hj1, hj2⟩ := hG.at_
  subst hx2
  cbv
  refine condI hA (fun h1 => ?_) (fun h1 => ?_)
  ·exact absurd h0 (zneT hA h1)
  ·cbv
   refine gldI hA _ (hbox) ?_
   cbv
   refine galN hA ?_
   intro g1 iv hiv hg1
   have b1 : g1.get iv = some (.box [.int .i64 0]) := by rw [hg1, hiv]; simp
   cbv
   refine gstI hA _ b1 ?_
   intro g2 hg2
   have hg2 : g2 = g1.set iv (.box [.int .i64 k.cap]) := hg2
   have hpv : p ≠ iv := fun q => by have := hX0.dom.lt hX0.lp; rw [hiv] at q; omega
   have hn2 : g2.next = g0.next + 1 := by rw [hg2, hg1]; simp
   have hlv : lab iv = none := hX0.dom iv (by rw [hiv]; exact Nat.le_refl _)
   have hbne : bv ≠ iv := by rw [hbv, hiv, hn0]; exact Nat.ne_of_lt (Nat.lt_succ_self _)
   have hblt : bv < g0.next := by rw [hbv, hn0]; exact Nat.lt_succ_self _
   have u2 : Upd g0 g2 lab lab (fun _ => False) (fun x => x = iv) := Upd.mk0 hX0.dom (by rw [hn2]; exact Nat.le_succ _) (fun x hx q _ => by
    rw [hg2, hg1]; simp only [GH.set_get, GH.new_get]; rw [if_neg q, if_neg (Nat.ne_of_lt hx)])
   have hX2 := hX0.upd u2 (fun x e => by rw [e]; exact hlv)
   have bb2 := (u2.get bv hblt hbne (fun r e => by rw [hlb] at e; cases e)).trans bb0
   have hR2 : RmIn g2 lab p k v ids iv bv l k.cap := ⟨hX2, by rw [hg2]; simp, hlv, by rw [hn2, hiv]; exact Nat.lt_succ_self _, hc, bb2, hlb, by rw [hn2]; exact Nat.lt_succ_of_lt hblt, hbne⟩
   have hrc := gReach hk hB' i b hl hbl k.nodes.length hR2 0 root hroot hrd (Nat.le_refl _) 1 rfl
   cbv
   refine callGI hA (hrc) ?_
   intro rs_ g3 h_
   obtain ⟨q_1, r', hr', u3, b3⟩ := h_
   subst q_1
   cbv
   have hr' : r' = room := hr'.trans hroom.symm
   have u13 := u2.trans u3
   have hX3 := hX0.upd u13 (fun x e => by rw [e]; exact hlv)
   have bb3 := (u13.get bv hblt hbne (fun r e => by rw [hlb] at e; cases e)).trans bb0
   have u13n : Upd gh g3 lab lab (fun _ => False) (fun _ => False) := u0.trans (u13.new (fun x e => by rw [e, hiv]; exact Nat.le_refl _))
   have stay3 : ∀ e, k.appD i b = (k, e) → ∃ (e' : Int) (lab' : Lab), [Rs.v (.int .i64 e)] = [.v (.int .i64 e')] ∧ e' = (k.appD i b).2 ∧ Upd gh g3 lab lab' (fun _ => True) (fun _ => False) ∧ DkIn g3 lab' p (k.appD i b).1 ∧ PkOk (k.appD i b).1 (B + b.length) := fun e q => ⟨e, lab, rfl, by rw [q], u13n.weak (fun _ _ => trivial) (fun _ h => h.elim), by rw [q]; exact ⟨hX3.at, hk.one⟩, by rw [q]; exact hkB⟩
   refine gldI hA _ (b3) ?_
   cbv
   refine condI hA (fun h2 => ?_) (fun h2 => ?_)
   ·have h2 : k.room i b.length < 0 := by have := zltT hA h2; rw [hr', hroom] at this; exact this
    cbv
    exact retGI hA rfl [.v (.int .i64 11)] g3 (stay3 11 (by unfold Dk.appD; rw [if_neg hk0, if_pos h2]))
   ·have h2 : ¬ k.room i b.length < 0 := by have := zltF hA h2; rw [hr', hroom] at this; exact this
    obtain ⟨k1, hk1⟩ : ∃ q : Dk, q = { k with full := k.full.next } := ⟨_, rfl⟩
    have hnx : FnG Tryz.prog 73 [.gp p 8] g3 fun rs g => ∃ c : Bool, rs = [.v (.bool c)] ∧ c = k.full.hit ∧ g = g3.set p (boxD v k1) := (gNext k.full hX3.box rfl rfl).mono fun rs g ⟨c, q1, q2, q3, q4, q5⟩ => ⟨c, q1, q2, GH.eq_of q3 fun x => by
     rcases Nat.decEq x p with e | e
     ·rw [q4 x e]; simp [e]
     ·rw [e, q5, hk1]; simp; rfl⟩
    cbv
    refine callGI hA (hnx) ?_
    intro rs_ g4 h_
    obtain ⟨c1, q_1, hc1, hg4⟩ := h_
    subst q_1
    cbv
    obtain ⟨hX4, u4⟩ := hX3.cells (k' := k1) hg4 (by rw [hk1])
    have hP4 : PkOk k1 B := hk.same (by rw [hk1])
    have u14 : Upd gh g4 lab lab (fun _ => True) (fun _ => False) := (u13n.weak (fun _ _ => trivial) (fun _ h => h.elim)).trans (u4.weak (fun _ _ => trivial) (fun _ h => h.elim))
    refine condI hA (fun h4 => ?_) (fun h4 => ?_)
    ·have h4 : k.full.hit = true := hc1 ▸ h4
     have q : k.appD i b = (k1, 11) := by unfold Dk.appD; rw [if_neg hk0, if_neg h2]; dsimp only; rw [if_pos h4, hk1]
     cbv
     exact retGI hA rfl [.v (.int .i64 11)] g4 (⟨_, lab, rfl, by rw [q], u14, by rw [q]; exact ⟨hX4.at, hP4.one⟩, by rw [q]; exact hP4.mono (Nat.le_add_right _ _)⟩)
    ·have h4 : ¬ k.full.hit = true := fun q => by rw [hc1, q] at h4; cases h4
     have q : k.appD i b = (k1.op true i (fun n => if b = [] then n else n.add (.app b)), k1.opE) := by unfold Dk.appD; rw [if_neg hk0, if_neg h2]; dsimp only; rw [if_neg h4, hk1]
     cbv
     have bb4 : g4.get bv = some (.box [.slice l]) := by rw [hg4]; simp only [GH.set_get]; rw [if_neg (fun q => by rw [q, hX.lp] at hlb; cases hlb)]; exact bb3
     refine gldI hA _ (bb4) ?_
     cbv
     refine callI hA (hcl) ?_
     intro rs_ h_
     subst h_
     cbv
     refine gstI hA _ bb4 ?_
     intro g5 hg5
     have bb5 : g5.get bv = some (.box [.slice l]) := by rw [hg5]; simp; rfl
     have e5 : g5 = g4 := GH.eq_of (by rw [hg5]; rfl) fun x => by
      rcases Nat.decEq x bv with e | e
      ·rw [hg5]; simp only [GH.set_get]; rw [if_neg e]
      ·rw [e, bb5, bb4]
     obtain ⟨g6, hg6⟩ : ∃ g, g = g4.del bv := ⟨_, rfl⟩
     have u6 : Upd g4 g6 lab lab (fun _ => False) (fun x => x = bv) := Upd.mk0 hX4.dom (by rw [hg6]; exact Nat.le_refl _) fun x hx q1 q2 => by rw [hg6]; simp only [GH.del_get]; rw [if_neg q1]
     have hX6 := hX4.upd u6 (fun x e => by rw [e]; exact hlb)
     have hj2' : k1.nodes[j]? = some nd := by rw [hk1]; exact hj2
     have hls := Nat.le_trans (lsOk_len (hk.ls nd (List.mem_of_getElem? hj2))) (hszl nd (List.mem_of_getElem? hj2)).2
     have hop := gOp2 hX6.box true 75 (.ref [.slice l]) (.ref [.gp id 0]) (NodeQ g6 lab p k1 v true j id (if b = [] then nd else nd.add (.app b))) (fun _ => by
      obtain ⟨q1, q2⟩ := NodeQ.at0 hX6 true hj1 hj2'
      exact gApp2 q1 q2 b l hl hdir (hszl nd (List.mem_of_getElem? hj2)).1 hls) (NodeQ.box hX6 hj1 hj2')
     have hop2 := hop.mono (post := fun rs g => ∃ (e : Int) (lab' : Lab), rs = [.v (.int .i64 e)] ∧ e = (k.appD i b).2 ∧ Upd gh g lab lab' (fun _ => True) (fun _ => False) ∧ DkIn g lab' p (k.appD i b).1 ∧ PkOk (k.appD i b).1 (B + b.length)) fun rs g ⟨e1, q1, he1, hO⟩ => by
      obtain ⟨lab', u7, hX7⟩ := OpPost.node hX6 (by rw [hk1]; exact hG.up) hj1 hj2' (fun n => if b = [] then n else n.add (.app b)) hO
      have hP7 := hP4.app hj2' true b hdir (hszl nd (List.mem_of_getElem? hj2)).1
      rw [← hij] at hX7 hP7
      exact ⟨e1, lab', q1, by rw [q]; exact he1, ((u14.weak (T' := fun _ => True) (X' := fun x => x = bv) (fun _ h => h) (fun _ h => h.elim)).trans ((u6.weak (T' := fun _ => True) (X' := fun x => x = bv) (fun _ h => h.elim) (fun x e => .inl e)).trans (u7.weak (fun _ _ => trivial) (fun _ h => h.elim)))).new (fun x e => by rw [e, hbv]; exact Nat.le_refl _), by rw [q]; exact ⟨hX7.at, hP7.one⟩, by rw [q]; exact hP7⟩
     cbv
     refine weakA hA _ (weak_refN _ 5 (g := g6) (by rw [e5]; exact hg6) rfl rfl bb5) ?_
     cbv
     refine callGI hA (hop2) ?_
     intro rs_ g7 h_
     obtain ⟨e7, lab7, q_1, q1, q2, q3, q4⟩ := h_
     subst q_1
     cbv
     exact retGI hA rfl [.v (.int .i64 e7)] g7 (⟨e7, lab7, rfl, q1, q2, q3, q4⟩)
end Go.Proofs.YthioccbgjkbmdaaGreat.AM
