/-
 Contracts: the document's disk: Make.
-/
import Derived.Test.YthioccbgjkbmdaaGreatM305023c36b
import Derived.Test.YthioccbgjkbmdaaGreatM149b55b04b
import Derived.Test.YthioccbgjkbmdaaGreatM153f9e4031
import Derived.Test.YthioccbgjkbmdaaGreatM1626ebd03b
import Derived.Test.YthioccbgjkbmdaaGreatM19adf3db9e
import Derived.Test.YthioccbgjkbmdaaGreatM26b835a054
import Derived.Test.YthioccbgjkbmdaaGreatM27500feff9
set_option linter.unusedVariables false
set_option linter.unusedSimpArgs false
set_option maxRecDepth 100000
set_option maxHeartbeats 4000000
namespace Go.Proofs.YthioccbgjkbmdaaGreat.AM
open Go Go.RowKit
theorem cMake13 {M B : Nat} (ln : List V) (k : Dk) (hln : ln = nodesV k.nodes) (hp : PkOk k B) (hK : K13 M k) (hM : M ≤ 900000) (hB : B ≤ 1000000000) (i : Int) (hi : I64 i) (s : Bs) (hs : s.length ≤ 140737488355328) (dir : Bool) : CallR Tryz.prog 83 [.agg [.slice ln, .int .i64 k.cap, .int .i64 k.ops, .int .i64 k.changes, .bool k.down, .bool k.fail.is, .int .i64 k.fail.after, .bool k.done, .bool k.full.is, .int .i64 k.full.after], .int .i64 i, .str s, .bool dir] fun rs => ∃ (lf : List V) (kf : Dk) (nf ef : Int), rs = [.v (.agg (diskC lf kf)), .v (.int .i64 nf), .v (.int .i64 ef)] ∧ lf = nodesV kf.nodes ∧ kf = (k.makeD i s dir).1 ∧ nf = (k.makeD i s dir).2.1 ∧ ef = (k.makeD i s dir).2.2 := by
 obtain ⟨kf, hkf⟩ : ∃ q, q = (k.makeD i s dir).1 := ⟨_, rfl⟩
 obtain ⟨nf, hnf⟩ : ∃ q, q = (k.makeD i s dir).2.1 := ⟨_, rfl⟩
 obtain ⟨ef, hef⟩ : ∃ q, q = (k.makeD i s dir).2.2 := ⟨_, rfl⟩
 obtain ⟨lf, hlf⟩ : ∃ q, q = nodesV kf.nodes := ⟨_, rfl⟩
 have hn := hp.most
 have hok := hK.n13 hp (by omega) (by omega)
 have fin : ∀ (k1 : Dk) (e : Int), kf = k1 ∧ nf = 0 ∧ ef = e → k1.nodes = k.nodes → some (V.agg (diskC ln k1)) = some (V.agg (diskC lf kf)) ∧ some (V.int .i64 0) = some (V.int .i64 nf) ∧ some (V.int .i64 e) = some (V.int .i64 ef) ∧ True := fun k1 e q1 q2 =>
  ⟨disk_eq (by rw [q1.1]) (by rw [hlf, q1.1, q2]; exact hln), i64_eq q1.2.1.symm, i64_eq q1.2.2.symm, trivial⟩
 have s1 : ∀ e, e = k.ofE i true → e ≠ 0 → kf = k ∧ nf = 0 ∧ ef = e := fun e he q => by
  rw [hkf, hnf, hef, he]; unfold Dk.makeD; rw [if_pos (he ▸ q)]; exact ⟨rfl, rfl, rfl⟩
 have s2 : k.ofE i true = 0 → nameOk s = false → kf = k ∧ nf = 0 ∧ ef = 7 := fun h0 q => by
  rw [hkf, hnf, hef]; unfold Dk.makeD; rw [if_neg (fun f => f h0), if_pos q]; exact ⟨rfl, rfl, rfl⟩
 have s3 : ∀ nd, k.ofE i true = 0 → nameOk s = true → k.node? i = some nd → (k.findE i s).2 = 0 → kf = k ∧ nf = 0 ∧ ef = 9 := fun nd h0 q hG h => by
  have hg : (enGet nd.seen.en s).isSome = true := by
   unfold Dk.findE at h; rw [if_neg (fun f => f h0), hG] at h; dsimp only at h
   cases hq : enGet nd.seen.en s with
   | some v => rfl
   | none => rw [hq] at h; cases h
  rw [hkf, hnf, hef]; unfold Dk.makeD; rw [if_neg (fun f => f h0), if_neg (by simp [q]), hG]; dsimp only; rw [if_pos hg]; exact ⟨rfl, rfl, rfl⟩
 have hg : ∀ nd, k.ofE i true = 0 → k.node? i = some nd → (k.findE i s).2 ≠ 0 → ¬ (enGet nd.seen.en s).isSome = true := fun nd h0 hG h q => h (by
   unfold Dk.findE; rw [if_neg (fun f => f h0), hG]; dsimp only
   cases hq : enGet nd.seen.en s with
   | some v => rfl
   | none => rw [hq] at q; cases q)
 have s4 : ∀ nd, k.ofE i true = 0 → nameOk s = true → k.node? i = some nd → (k.findE i s).2 ≠ 0 → 4096 ≤ k.nodes.length → kf = k ∧ nf = 0 ∧ ef = 11 := fun nd h0 q hG h h4 => by
  rw [hkf, hnf, hef]; unfold Dk.makeD; rw [if_neg (fun f => f h0), if_neg (by simp [q]), hG]; dsimp only; rw [if_neg (hg nd h0 hG h), if_pos h4]; exact ⟨rfl, rfl, rfl⟩
 have s5 : ∀ nd, k.ofE i true = 0 → nameOk s = true → k.node? i = some nd → (k.findE i s).2 ≠ 0 → ¬ 4096 ≤ k.nodes.length → k.full.hit = true → kf = { k with full := k.full.next } ∧ nf = 0 ∧ ef = 11 := fun nd h0 q hG h h4 h5 => by
  rw [hkf, hnf, hef]; unfold Dk.makeD; rw [if_neg (fun f => f h0), if_neg (by simp [q]), hG]; dsimp only; rw [if_neg (hg nd h0 hG h), if_neg h4, if_pos h5]; exact ⟨rfl, rfl, rfl⟩
 have s6 : ∀ (k1 : Dk) (j : Nat) (nd : Nd), k1 = { k with full := k.full.next } → i = (j : Int) + 1 → k.ofE i true = 0 → nameOk s = true → k.node? i = some nd → (k.findE i s).2 ≠ 0 → ¬ 4096 ≤ k.nodes.length → k.full.hit = false → ef = k1.opE ∧ nf = (if k1.opE = 0 then ((k.nodes.length + 1 : Nat) : Int) else 0) ∧ (k1.does = false → kf = k1.tick true) ∧ (k1.does = true → kf = { k1.tick true with nodes := (k.nodes ++ [nd0 dir]).set j (nd.add (.link s (k.nodes.length + 1))) }) := fun k1 j nd hk1 hij h0 q hG h h4 h5 => by
  have e1 : k1.opE = k.opE := by rw [hk1]; rfl
  have e2 : k1.does = k.does := by rw [hk1]; rfl
  rw [hkf, hnf, hef, e1, e2]; unfold Dk.makeD; rw [if_neg (fun f => f h0), if_neg (by simp [q]), hG]; dsimp only; rw [if_neg (hg nd h0 hG h), if_neg h4, h5, if_neg (by simp)]
  refine ⟨rfl, rfl, fun w => ?_, fun w => ?_⟩
  ·dsimp only; rw [w, if_neg (by simp), hk1]
  ·dsimp only; rw [w, if_pos rfl, hk1]; unfold Dk.mk1; rw [hij, show ((j : Int) + 1 - 1).toNat = j from by omega]; rfl
 have hfi := cFind13 ln k hln (by omega) i hi hok s
 have hna := cName13 s hs
 have hfu := cFull13 ln k
 have hll : ln.length = k.nodes.length := by rw [hln, nodesV_len]
 refine .of _ ⟨lf, kf, nf, ef, rfl, hlf, hkf, hnf, hef⟩ ?_
 clear hkf hef hnf
 refine FnR.of' T_ok M_ok (fn := Tryz.f83) (by kernel_rfl) rfl rfl rfl rfl (Nat.le_of_ble_eq_true rfl) fun A hA => ?_
 cbv
 refine callI hA (cNode13 ln k hln (by omega) i hi true) ?_
 intro rs_ h_
 obtain ⟨e, q_1, he⟩ := h_
 subst q_1
 cbv
 refine condI hA (fun h1 => ?_) (fun h1 => ?_)
 ·have h1 := zneT hA h1
  have := fin k e (s1 e he h1) rfl
  cbv
  refine retI hA ?_
  exact this
 ·have h0 : k.ofE i true = 0 := he.symm.trans (zneF hA h1)
  obtain ⟨hdn, j, nd, hij, hj, hdir, hG⟩ := ofE_ok h0
  have hjl := (List.getElem?_eq_some_iff.1 hj).1
  have hNd := hok nd (List.mem_of_getElem? hj)
  have s2 := s2 h0
  have s3 := s3 nd h0
  have s4 := s4 nd h0
  have s5 := s5 nd h0
  have s6 := fun k1 hk1 => s6 k1 j nd hk1 hij h0
  cbv
  refine callI hA (hfi) ?_
  intro rs_ h_
  obtain ⟨fa, f, q_1, hfa, hf⟩ := h_
  subst q_1
  cbv
  refine callI hA (hna) ?_
  intro rs_ h_
  obtain ⟨nb, q_1, hnb⟩ := h_
  subst q_1
  cbv
  refine condI hA (fun h2 => ?_) (fun h2 => ?_)
  ·have h2 : nameOk s = false := hnb.symm.trans (znotT hA h2)
   have := fin k 7 (s2 h2) rfl
   cbv
   refine retI hA ?_
   exact this
  ·have h2 : nameOk s = true := hnb.symm.trans (znotF hA h2)
   have s3 := s3 h2 hG
   have s4 := s4 h2 hG
   have s5 := s5 h2 hG
   have s6 := fun k1 hk1 => s6 k1 hk1 h2 hG
   cbv
   refine condI hA (fun h3 => ?_) (fun h3 => ?_)
   ·have h3 : (k.findE i s).2 = 0 := hf.symm.trans (zeqT hA h3)
    have := fin k 9 (s3 h3) rfl
    cbv
    refine retI hA ?_
    exact this
   ·have h3 : (k.findE i s).2 ≠ 0 := hf ▸ zeqF hA h3
    have s4 := s4 h3
    have s5 := s5 h3
    have s6 := fun k1 hk1 => s6 k1 hk1 h3
    cbv
    refine condI hA (fun h4 => ?_) (fun h4 => ?_)
    ·have h4 : 4096 ≤ k.nodes.length := by
      have h4 : 4096 ≤ A.lenL ln := zleT hA h4
      rw [hA] at h4; have h4 : (4096 : Int) ≤ (ln.length : Int) := h4; rw [hll] at h4; omega
     have := fin k 11 (s4 h4) rfl
     cbv
     refine retI hA ?_
     exact this
    ·have h4 : ¬ 4096 ≤ k.nodes.length := by
      have h4 : ¬ 4096 ≤ A.lenL ln := zleF hA h4
      rw [hA] at h4; have h4 : ¬ (4096 : Int) ≤ (ln.length : Int) := h4; rw [hll] at h4; omega
     have s5 := s5 h4
     have s6 := fun k1 hk1 => s6 k1 hk1 h4
     cbv
     refine callI hA (hfu) ?_
     intro rs_ h_
     obtain ⟨k1, no, q_1, hk1, hno⟩ := h_
     subst q_1
     cbv
     have hk1n : k1.nodes = k.nodes := by rw [hk1]
     rw [← hk1] at s5
     have hst := cStep13 ln k1 true
     refine condI hA (fun h5 => ?_) (fun h5 => ?_)
     ·have := fin k1 11 (s5 (hno.symm.trans h5)) hk1n
      cbv
      refine retI hA ?_
      exact this
     ·obtain ⟨q1, q2, q3, q4⟩ := s6 k1 hk1 (hno.symm.trans h5)
      cbv
      refine callI hA (hst) ?_
      intro rs_ h_
      obtain ⟨k2, ok, e2, q_1, hk2, hok2, he2⟩ := h_
      subst q_1
      cbv
      have hk2n : k2.nodes = k.nodes := by rw [hk2]; exact hk1n
      have hopE : k1.does = false → k1.opE ≠ 0 := fun q => by
       unfold Dk.does at q; unfold Dk.opE
       cases w : k1.fail.hit with
       | true => decide
       | false => rw [w] at q; cases q
      refine condI hA (fun h6 => ?_) (fun h6 => ?_)
      ·have h6 : k1.does = false := hok2.symm.trans (znotT hA h6)
       have := fin k2 e2 ⟨by rw [q3 h6, hk2], by rw [q2, if_neg (hopE h6)], q1.trans he2.symm⟩ hk2n
       cbv
       refine retI hA ?_
       exact this
      ·have h6 : k1.does = true := hok2.symm.trans (znotF hA h6)
       have q4 := q4 h6
       cbv
       have ha : A.app [] ln = nodesV k.nodes := by rw [app_nd hA (x := []) (a := []) rfl hln]; rfl
       have hl0 : (A.app [] ln).length ≤ 4096 := Nat.le_trans (Nat.le_of_eq ((congrArg List.length ha).trans (nodesV_len _))) hn
       have hl1 : ((A.app [] ln).length + 1) * 72 ≤ 140737488355328 := Nat.le_trans (Nat.mul_le_mul_right 72 (Nat.succ_le_succ hl0)) (Nat.le_of_ble_eq_true rfl)
       refine sizedI hA (nodesV_flat hln) ?_
       cbv
       refine roomI hA ⟨by simp only [List.length_nil]; omega, by decide⟩ ?_
       cbv
       refine roomI hA ⟨hl1, by decide⟩ ?_
       cbv
       have hnn : [V.agg [.bool dir, .str [], .slice [], .slice []]] = nodesV [nd0 dir] := rfl
       have ha2 : A.app (A.app [] ln) [V.agg [.bool dir, .str [], .slice [], .slice []]] = nodesV (k.nodes ++ [nd0 dir]) := app_nd hA ha hnn
       have hln2 : A.lenL (A.app (A.app [] ln) [V.agg [.bool dir, .str [], .slice [], .slice []]]) = ((k.nodes.length + 1 : Nat) : Int) := by rw [ha2, hA]; show (((nodesV (k.nodes ++ [nd0 dir])).length : Nat) : Int) = _; rw [nodesV_len, List.length_append]; rfl
       have hlo := cLoose (A.app (A.app [] ln) [V.agg [.bool dir, .str [], .slice [], .slice []]]) { k2 with nodes := k.nodes ++ [nd0 dir] } ha2 i j nd hij (by show (k.nodes ++ [nd0 dir])[j]? = _; rw [List.getElem?_append_left hjl]; exact hj) (by show (k.nodes ++ [nd0 dir]).length ≤ 4096; rw [List.length_append, List.length_singleton]; omega) hNd.n false 0 [] [] s (A.lenL (A.app (A.app [] ln) [V.agg [.bool dir, .str [], .slice [], .slice []]])) (.link s (k.nodes.length + 1)) (by rw [hln2]; rfl)
       dsimp only at hlo
       refine callI hA (hlo) ?_
       intro rs_ h_
       obtain ⟨l4, q_1, hl4⟩ := h_
       subst q_1
       cbv
       have hdk : some (V.agg (diskC l4 k2)) = some (V.agg (diskC lf kf)) := disk_eq (by rw [q4, hk2]) (by rw [hl4, hlf, q4])
       refine condI hA (fun h7 => ?_) (fun h7 => ?_)
       ·have h7 : k1.opE ≠ 0 := he2 ▸ zneT hA h7
        have q2 : 0 = nf := by rw [q2, if_neg h7]
        cbv
        refine retI hA ?_
        exact ⟨hdk, i64_eq q2, i64_eq (he2.trans q1.symm), trivial⟩
       ·have h7 : k1.opE = 0 := he2 ▸ zneF hA h7
        have q2 : ((k.nodes.length + 1 : Nat) : Int) = nf := by rw [q2, if_pos h7]
        cbv
        refine retI hA ?_
        exact ⟨hdk, i64_eq (hln2.trans q2), i64_eq (he2.trans q1.symm), trivial⟩
open Go Go.RowKit
theorem rep_frzA {ok ok2 : Oks} {w : World} {x y : V} {r : List V} {u : Value} (h : Rep ok w (.agg (x :: r)) u) (hx : ∀ v, Rep ok w x v → Rep ok2 w y v) (hy : y.cell = true) (hs : ∀ z v, Rep ok w z v → Rep ok2 w z v) : Rep ok2 w (.agg (y :: r)) u := by
 cases h with
 | agg _ cs hl hcell hr =>
  refine .agg _ cs hl (fun i hi => ?_) (fun i hi hi' => ?_)
  ·cases i with
   | zero => exact hy
   | succ i => exact hcell (i + 1) hi
  ·cases i with
   | zero => exact hx _ (hr 0 hi hi')
   | succ i => exact hs _ _ (hr (i + 1) hi hi')
theorem FnG.frzA {P : Program} {f : Nat} {xs : List V} {gh : GH} {post0 post : List Rs → GH → Prop} (h : FnG P f xs gh post0)
  (hp : ∀ rs gh', post0 rs gh' → post rs gh' ∨ ∃ (i id z : Nat) (n : Int) (l r : List V), rs[i]? = some (.v (.agg (.gs id n :: r))) ∧ gh'.get id = some (.row z l) ∧ n ≤ l.length ∧ post (rs.set i (.v (.agg (.slice (l.take n.toNat) :: r)))) (gh'.del id)) : FnG P f xs gh post := by
 refine ⟨h.1, fun w ok vs hok gl hl hr => ?_⟩
 refine (h.2 w ok vs hok gl hl hr).mono fun e w' ⟨us, gs, ok', rs, gh', hpost, he, fr, q1, q3, hu, hg, hrs, hd, gl', hgb⟩ => ?_
 rcases hp rs gh' hpost with q | ⟨i, id, z, n, l, r, hi, hgi, hn, hpost'⟩
 ·exact ⟨us, gs, ok', rs, gh', q, he, fr, q1, q3, hu, hg, hrs, hd, gl', hgb⟩
 obtain ⟨hi1, hi2⟩ := List.getElem?_eq_some_iff.1 hi
 have h0 := hrs i hi1 (by omega) (by omega)
 rw [hi2] at h0
 obtain ⟨_, h0⟩ := h0
 have del : (gh'.set id (.frow z l)).del id = gh'.del id := by
  simp only [GH.set, GH.del]; congr 1; funext j; split <;> rfl
 rcases (gl'.obj _ _ hgi).2 with ⟨rfl, h2⟩ | ⟨b, cs, e', h2, h3, _⟩
 ·refine ⟨us, gs, ok', _, _, hpost', he, fr, q1, q3, by simpa using hu, by simpa using hg, fun k hk hk' hk'' => ?_, hd, gl'.del id, fun b hb => hgb b (occG_del hb)⟩
  by_cases e : i = k
  ·subst e
   simp only [List.getElem_set_self]
   refine ⟨(hrs i hi1 (by omega) (by omega) |> fun q => by rw [hi2] at q; exact q.1), ?_⟩
   refine rep_frzA h0 (fun v hv => ?_) rfl (fun _ _ h => h)
   obtain ⟨_, q⟩ := rep_gs hv
   rcases q with ⟨_, _, q⟩ | ⟨b', q, _⟩
   ·rw [q]; simp only [List.take_nil]; exact rep_nil_slice _ _
   ·rw [h2] at q; cases q
  ·simp only [List.getElem_set_ne e]
   exact hrs k (by simpa using hk) hk' hk''
 ·have gl2 := gl'.frz hgi h2
  have hs : Same ok' (okAdd ok' b (l.length * z)) w' w' := ⟨fun _ _ h => .inl h, fun _ _ _ => rfl, ⟨Nat.le_refl _, fun _ _ => rfl, fun _ _ => rfl⟩⟩
  have hocc : occG ok' gh' b := ⟨id, _, hgi, fun h => h, h2⟩
  refine ⟨us, gs, okAdd ok' b (l.length * z), _, _, hpost', he, fr, q1.trans hs, fun k o h => ?_, by simpa using hu, by simpa using hg, fun k hk hk' hk'' => ?_, hd, del ▸ gl2.del id, fun k hb => hgb k (occG_del hb)⟩
  ·rcases h with h | ⟨rfl, _⟩
   ·exact q3 k o h
   ·exact ⟨heap_lt h3, .inr (hgb _ hocc).1⟩
  ·by_cases e : i = k
   ·subst e
    simp only [List.getElem_set_self]
    refine ⟨(hrs i hi1 (by omega) (by omega) |> fun q => by rw [hi2] at q; exact q.1), ?_⟩
    exact rep_frzA h0 (fun v hv => gs_take (z := z) gl2 (by simp) h2 hn (hv.mono hs)) rfl (fun _ _ h => h.mono hs)
   ·simp only [List.getElem_set_ne e]
    have q := hrs k (by simpa using hk) hk' hk''
    revert q
    generalize rs[k]'(by simpa using hk) = r
    generalize us[k]'hk' = u
    generalize hgk : gs[k]'hk'' = g
    intro q
    cases r with
    | v x => exact ⟨q.1, q.2.mono hs⟩
    | o z' l' =>
     rcases q with q | ⟨b', cap, cs', e'', k1, k2, k3, k4, k5, k6, k7, k8, k9⟩
     ·exact .inl q
     ·refine .inr ⟨b', cap, cs', e'', k1, k2, k3, k4, k5, k6, k7, k8.mono hs (fun _ _ => rfl), fun o h => ?_⟩
      rcases h with h | ⟨rfl, _⟩
      ·exact k9 o h
      ·exact (hgb _ hocc).2 k (by rw [List.getElem?_eq_getElem hk'', hgk, k1])
theorem gSeen (gh : GH) (id : Nat) (nn : Int) (ln : List V) (hg : gh.get id = some (.row 4 ln)) (k : Dk) (hln : ln = nodesV k.nodes) (hnn : nn = (k.nodes.length : Nat)) (i : Int) (j : Nat) (hij : i = (j : Int) + 1) (hj : j < k.nodes.length) (hjn : j ≤ 1000000) (hok : N13 (k.nodes[j]'hj)) (dv : Bool) (b : Bs) (re : List V) (hdv : dv = (k.nodes[j]'hj).dir) (hb : b = (k.nodes[j]'hj).seen.b) (hre : re = entsV (k.nodes[j]'hj).seen.en) : FnG Tryz.prog 64 [.agg [.gs id nn, .int .i64 k.cap, .int .i64 k.ops, .int .i64 k.changes, .bool k.down, .bool k.fail.is, .int .i64 k.fail.after, .bool k.done, .bool k.full.is, .int .i64 k.full.after], .int .i64 i] gh fun rs g => rs = [.v (.agg [.bool dv, .str b, .slice re, .slice []])] ∧ g = gh := by
 have hw : w64 (i - 1) = (j : Nat) := by rw [hij, w64_id (by omega)]; omega
 obtain ⟨jz, hjz⟩ : ∃ q : Int, q = (j : Nat) := ⟨_, rfl⟩
 obtain ⟨d2, hd2⟩ : ∃ q, q = (k.nodes[j]'hj).dir := ⟨_, rfl⟩
 obtain ⟨b2, hb2⟩ : ∃ q, q = (k.nodes[j]'hj).safe.b := ⟨_, rfl⟩
 obtain ⟨le2, hle2⟩ : ∃ q, q = entsV (k.nodes[j]'hj).safe.en := ⟨_, rfl⟩
 obtain ⟨ls2, hls2⟩ : ∃ q, q = stepsV (k.nodes[j]'hj).loose := ⟨_, rfl⟩
 have hy : ln[jz.toNat]? = some (.agg [.bool d2, .str b2, .slice le2, .slice ls2]) := by
  rw [hjz, Int.toNat_natCast, hln]; unfold nodesV; rw [List.getElem?_map, List.getElem?_eq_getElem hj, hd2, hb2, hle2, hls2]; rfl
 have h0 : 0 ≤ jz ∧ jz < nn := by omega
 have hall := cAll (k.nodes[j]'hj) le2 ls2 hls2 hok.n (by have := hok.sz; omega) hok.cm
 rw [← hd2, ← hb2] at hall
 have hbeh := fun (kk : Int) (hk : kk = ((k.nodes[j]'hj).parts : Nat)) => cBehind (k.nodes[j]'hj) le2 ls2 hle2 hls2 hok.n kk (k.nodes[j]'hj).parts hk (by have := hok.sz; omega) hok.sz hok.en hok.ok hok.cm
 rw [← hd2, ← hb2, hok.seen] at hbeh
 have hdd : d2 = dv := hd2.trans hdv.symm
 rw [hdd] at hy hall hbeh
 have hwj : w64 (i - 1) = jz := hw.trans hjz.symm
 clear hdv
 refine FnG.of' T_ok M_ok [] (fn := Tryz.f64) (by kernel_rfl) rfl rfl rfl rfl (Nat.le_of_ble_eq_true rfl) fun A hA => ?_
 cbv
 refine chkI hA (by kernel_rfl) ?_
 cbv
 have hix : A.wrap .i64 (A.sub i 1) = jz := (zsub hA i 1).trans hwj
 refine gixN hA hix h0 ?_
 cbv
 refine gldRAN hA hix ln (.inl hg) hy ?_
 cbv
 refine gixN hA hix h0 ?_
 cbv
 refine gldRAN hA hix ln (.inl hg) hy ?_
 cbv
 refine callI hA (hall) ?_
 intro rs_ h_
 obtain ⟨m, q_1, hm⟩ := h_
 subst q_1
 cbv
 refine callI hA ((hbeh m (natEq hm))) ?_
 intro rs_ h_
 obtain ⟨fb, fe, q_1, hfb, hfe⟩ := h_
 subst q_1
 cbv
 rw [hfb.trans hb.symm, hfe.trans hre.symm]
 exact retGI hA rfl [.v (.agg [.bool dv, .str b, .slice re, .slice []])] gh (⟨rfl, rfl⟩)
open Go Go.RowKit
theorem weak_pubX (S : St) (t : Nat) {id0 z nx : Nat} {n : Int} {l : List V} {gh g : GH} {pub : List Nat} (hg : g = gh.new (.row z l)) (hx : nx = gh.next) (hn : n = (l.length : Nat)) (hh : look S.ob hk = some (.heap gh pub)) (ht : S.get t = .own id0) (ho : look S.ob id0 = some (.row z l true)) :
  Weak S ((({ S with ob := remOb id0 S.ob } : St).setOb hk (.heap g pub)).put (some t) (.v (.gs nx n))) := fun G E ok a w c => by
 subst hg hx hn
 have hne : id0 ≠ hk := fun e => by subst e; rw [hh] at ho; cases ho
 have h1 := c.slot t
 rw [ht] at h1
 have he : a.tmps.getD t undef = E.hdr id0 := by
  generalize a.tmps.getD t undef = u at h1
  cases h1; rfl
 have cr := c.rem id0
 have hh1 : look (({ S with ob := remOb id0 S.ob } : St)).ob hk = some (.heap gh pub) := by rw [look_remOb, if_neg (Ne.symm hne)]; exact hh
 have gl : GlOk ok gh w := (c.obj _ _ hh).2
 rcases c.obj _ _ ho with ⟨h0, h2, h3⟩ | ⟨b, cap, cs, e, h2, h3, h4, h5, h6, h7, h8, h9⟩
 ·subst h0
  have c2 := cr.swap (pub' := pub) (ok' := ok.bind none 0) (w' := w) (gh' := gh.new (.row z [])) hh1 ⟨rfl, rfl, rfl, Nat.le_refl _, fun _ _ _ => rfl⟩ ⟨fun _ _ h => h, fun _ _ _ => rfl, Oks.bind_ext _ _ _⟩ (fun b o h => ⟨c.okb _ _ h, .inl h⟩)
   (gl.new c.okb (fun _ _ => rfl) (Nat.le_refl _) (fun bb h => by cases h) (.inl ⟨rfl, Oks.bind_blk _ _ _⟩)) (fun b h => occG_new gl (fun bb h => by cases h) h)
  refine ⟨E, _, c2.refine (t := t) ?_⟩
  rw [he, h3]
  exact .v _ _ (.gs0 _ (by rw [gl.next]; exact Nat.lt_succ_self _) (by rw [gl.next]; exact Oks.bind_blk _ _ _))
 ·have hnk : ∀ o, ¬ ok b o := fun o q => by have := ((h9 o).1 q).1; cases this
  have hnb : ¬ occG ok gh b := fun q => c.apart hk id0 _ _ b hh ho (Ne.symm hne) q h2
  have hs : Same ok (ok.bind (some b) cap) w w := ⟨fun _ _ h => h, fun _ _ _ => rfl, Oks.bind_ext _ _ _⟩
  have old : ∀ k r, gh.get k = some r → (ok.bind (some b) cap).blk k = ok.blk k := fun k r hk => (Oks.bind_ext ok (some b) cap).blk k (gl.obj k r hk).1
  have gl2 : GlOk (ok.bind (some b) cap) (gh.new (.row z l)) w := {
   next := congrArg (· + 1) gl.next
   obj := fun j p q => by
    simp only [GH.new_get] at q
    split at q
    ·rename_i ej; subst ej; cases q
     rw [gl.next]
     exact ⟨Nat.lt_succ_self _, .inr ⟨b, cs, e, Oks.bind_blk _ _ _, h4, by rw [Oks.bind_cap]; omega, by rw [Oks.bind_cap]; exact h6, by rw [Oks.bind_cap]; exact h7, h8.mono hs (fun _ _ => rfl), hnk⟩⟩
    ·exact ⟨Nat.lt_succ_of_lt (gl.obj j p q).1, (gl.obj j p q).2.stay hs (gl.obj j p q).1 (Nat.le_refl _) fun _ bb _ => ⟨rfl, fun _ h => h⟩⟩
   apart := fun i j p q bb k1 k2 hij f1 f2 hb1 hb2 => by
    simp only [GH.new_get, gl.next] at k1 k2
    split at k1 <;> split at k2
    ·rename_i n1 n2; exact hij (n1.trans n2.symm)
    ·rename_i n1 n2
     subst n1
     rw [Oks.bind_blk] at hb1; cases hb1
     rw [old j q k2] at hb2
     exact hnb ⟨j, q, k2, f2, hb2⟩
    ·rename_i n1 n2
     subst n2
     rw [Oks.bind_blk] at hb2; cases hb2
     rw [old i p k1] at hb1
     exact hnb ⟨i, p, k1, f1, hb1⟩
    ·rw [old i p k1] at hb1
     rw [old j q k2] at hb2
     exact gl.apart i j p q bb k1 k2 hij f1 f2 hb1 hb2 }
  have c2 := cr.swap2 (pub' := pub) (ok' := ok.bind (some b) cap) (w' := w) (gh' := gh.new (.row z l)) hh1 ⟨rfl, rfl, rfl, Nat.le_refl _, fun _ _ _ => rfl⟩ hs (fun k o h => ⟨c.okb _ _ h, .inl h⟩) gl2 (fun k h => by
   obtain ⟨j, p, k1, k2, k3⟩ := h
   simp only [GH.new_get, gl.next] at k1
   split at k1
   ·rename_i ej; subst ej
    rw [Oks.bind_blk] at k3; cases k3
    refine .inr (.inr ⟨c.regL ho (fun h => h) h2, fun j p hj hl hb => ?_⟩)
    simp only [look_remOb] at hl
    split at hl
    ·cases hl
    ·rename_i hne2
     exact c.apart j id0 p _ b hl ho hne2 hb h2
   ·rw [old j p k1] at k3
    exact .inl ⟨j, p, k1, k2, k3⟩)
  refine ⟨E, _, c2.refine (t := t) ?_⟩
  rw [he, h3]
  have hc : (ok.bind (some b) cap).cap gh.next = cap := by rw [gl.next]; exact Oks.bind_cap _ _ _
  have := Rep.gs (ok := ok.bind (some b) cap) (w := w) gh.next (l.length : Int) b (by rw [gl.next]; exact Nat.lt_succ_self _) (by rw [gl.next]; exact Oks.bind_blk _ _ _) (by omega) (by rw [hc]; omega) (by rw [hc]; exact h7)
  rw [hc, Int.toNat_natCast] at this
  exact .v _ _ this
section
variable {A : Prim} {R : List (Nat × AObj) → List D → Prop} (hA : A = std Tryz.prog R)
include hA
theorem gstRA {o : Oper} {t : TypeId} {x y : Operand} {gh : GH} {id z : Nat} {i j : Int} {v el : V} {K : V → GH → Prop} (hi : i = j) (l : List V) (hg : gh.get id = some (.row z l)) (hy : l[j.toNat]? = some el) (hle : v.flat.length = el.flat.length) (hK : ∀ g', g' = gh.set id (.row z (l.set j.toNat v)) → K (.tup []) g')
  (ho : o.op = .store t x y := by rfl) (hkn : known (tyOf t).k = true := by rfl) (hc : v.okc = true := by rfl) (hsz : v.flat.length = (tyOf t).size := by rfl) : A.gop o [.ge id z i 0, v] gh K := by
 subst hi
 exact gop1 hA (gop_storeR T_ok ho hkn hc hsz hg hy (by rw [hle]; omega) (by rw [hle]; simp)) hK
end
open Go Go.RowKit
theorem cSync13 (ln : List V) (k : Dk) (hln : ln = nodesV k.nodes) (hn : k.nodes.length ≤ 4096) (hok : ∀ nd ∈ k.nodes, N13 nd) (i : Int) (hi : I64 i) : CallR Tryz.prog 58 [.agg [.slice ln, .int .i64 k.cap, .int .i64 k.ops, .int .i64 k.changes, .bool k.down, .bool k.fail.is, .int .i64 k.fail.after, .bool k.done, .bool k.full.is, .int .i64 k.full.after], .int .i64 i] fun rs => ∃ (lf : List V) (kf : Dk) (ef : Int), rs = [.v (.agg (diskC lf kf)), .v (.int .i64 ef)] ∧ lf = nodesV kf.nodes ∧ kf = (k.syncD i).1 ∧ ef = (k.syncD i).2 := by
 obtain ⟨kf, hkf⟩ : ∃ q, q = (k.syncD i).1 := ⟨_, rfl⟩
 obtain ⟨ef, hef⟩ : ∃ q, q = (k.syncD i).2 := ⟨_, rfl⟩
 obtain ⟨lf, hlf⟩ : ∃ q, q = nodesV kf.nodes := ⟨_, rfl⟩
 have s1 : ∀ e, k.anyE i = e → e ≠ 0 → some (V.agg (diskC ln k)) = some (V.agg (diskC lf kf)) ∧ some (V.int .i64 e) = some (V.int .i64 ef) ∧ True := fun e he q => by
  have q1 : kf = k ∧ ef = e := by rw [hkf, hef]; unfold Dk.syncD; rw [if_pos (he ▸ q), he]; exact ⟨rfl, rfl⟩
  exact ⟨disk_eq (by rw [q1.1]) (by rw [hlf, q1.1]; exact hln), i64_eq q1.2.symm, trivial⟩
 have s3 : ∀ (j : Nat) (n0 : Nd), k.down = false → i = (j : Int) + 1 → k.nodes[j]? = some n0 → ef = k.opE ∧ kf = if k.does then { k.tick false with nodes := k.nodes.set j n0.sync } else k.tick false := fun j n0 hd hij hj => by
  have h0 : k.anyE i = 0 := by unfold Dk.anyE; rw [hd, op_get hij hj]; rfl
  rw [hkf, hef]; unfold Dk.syncD; rw [if_neg (fun f => f h0), op_at hij hj]; exact ⟨rfl, rfl⟩
 have hst := cStep13 ln k false
 have hwz : ∀ (i : Int) (j : Nat), i = (j : Int) + 1 → j < 4096 → w64 (i - 1) = (j : Nat) := fun i j q1 q2 => by rw [q1, w64_id (by omega)]; omega
 have hll : ln.length = k.nodes.length := by rw [hln, nodesV_len]
 refine .of _ ⟨lf, kf, ef, rfl, hlf, hkf, hef⟩ (.ofG (fun r hr => by
  rcases List.mem_cons.1 hr with q | hr
  ·rw [q]; exact noG_dk kf hlf
  ·rw [List.mem_singleton.1 hr]; exact .int _ _) fun gn => ?_)
 clear hkf hef
 refine FnG.frzA (post0 := fun rs g => rs = [.v (.agg (diskC lf kf)), .v (.int .i64 ef)] ∨ ∃ (id : Nat) (nn : Int), rs = [.v (.agg (.gs id nn :: (diskC lf kf).tail)), .v (.int .i64 ef)] ∧ nn = (lf.length : Nat) ∧ g.get id = some (.row 4 lf)) ?_ (fun rs g q => by
  rcases q with q | ⟨id, nn, q1, q2, q3⟩
  ·exact .inl q
  ·refine .inr ⟨0, id, 4, nn, lf, (diskC lf kf).tail, by rw [q1]; rfl, q3, by omega, ?_⟩
   rw [q1, q2, Int.toNat_natCast, List.take_length]; rfl)
 have exit_ : ∀ (l1 : List V) (k1 : Dk) (e1 : Int) (gh : GH), some (V.agg (diskC l1 k1)) = some (V.agg (diskC lf kf)) ∧ some (V.int .i64 e1) = some (V.int .i64 ef) ∧ True → ([Rs.v (.agg (diskC l1 k1)), .v (.int .i64 e1)] = [Rs.v (.agg (diskC lf kf)), .v (.int .i64 ef)] ∨ ∃ (id : Nat) (nn : Int), [Rs.v (.agg (diskC l1 k1)), .v (.int .i64 e1)] = [.v (.agg (.gs id nn :: (diskC lf kf).tail)), .v (.int .i64 ef)] ∧ nn = (lf.length : Nat) ∧ gh.get id = some (.row 4 lf)) := fun l1 k1 e1 gh q => .inl (by
  have q1 := Option.some.inj q.1
  have q2 := Option.some.inj q.2.1
  rw [q1, q2])
 refine FnG.of' T_ok M_ok [1000034] (fn := Tryz.f58) (by kernel_rfl) rfl rfl rfl rfl (Nat.le_of_ble_eq_true rfl) fun A hA => ?_
 cbv
 refine condI hA (fun h1 => ?_) (fun h1 => ?_)
 ·have h1 : k.down = true := h1
  have := s1 12 (by unfold Dk.anyE; rw [if_pos h1]) (by decide)
  cbv
  exact retGI hA rfl [.v (.agg (diskC ln k)), .v (.int .i64 12)] _ (exit_ ln k 12 _ this)
 ·have h1 : k.down = false := h1
  have none8 : k.node? i = none → k.anyE i = 8 := fun q => by unfold Dk.anyE; rw [h1, q]; rfl
  cbv
  refine condI hA (fun h2 => ?_) (fun h2 => ?_)
  ·have h2 : i < 1 := zltT hA h2
   have := s1 8 (none8 (by unfold Dk.node?; rw [if_neg (by omega)])) (by decide)
   cbv
   exact retGI hA rfl [.v (.agg (diskC ln k)), .v (.int .i64 8)] _ (exit_ ln k 8 _ this)
  ·have h2 : ¬ i < 1 := zltF hA h2
   cbv
   refine condI hA (fun h3 => ?_) (fun h3 => ?_)
   ·have h3 : (k.nodes.length : Int) < i := by
     have h3 : A.lenL ln < i := zltT hA h3
     rw [hA] at h3; have h3 : (ln.length : Int) < i := h3; rw [hll] at h3; exact h3
    have := s1 8 (none8 (by unfold Dk.node?; rw [if_pos (by omega)]; exact List.getElem?_eq_none (by omega))) (by decide)
    cbv
    exact retGI hA rfl [.v (.agg (diskC ln k)), .v (.int .i64 8)] _ (exit_ ln k 8 _ this)
   ·have h3 : ¬ (k.nodes.length : Int) < i := by
     have h3 : ¬ A.lenL ln < i := zltF hA h3
     rw [hA] at h3; have h3 : ¬ (ln.length : Int) < i := h3; rw [hll] at h3; exact h3
    obtain ⟨j, hij⟩ : ∃ j : Nat, i = (j : Int) + 1 := ⟨(i - 1).toNat, by omega⟩
    have hjl : j < k.nodes.length := by omega
    obtain ⟨q1, q2⟩ := s3 j (k.nodes[j]'hjl) h1 hij (List.getElem?_eq_getElem hjl)
    have hN := hok _ (List.getElem_mem hjl)
    cbv
    refine callI hA (hst) ?_
    intro rs_ h_
    obtain ⟨k1, ok, e1, q_1, hk1, hok1, he1⟩ := h_
    subst q_1
    cbv
    obtain ⟨a1, a2⟩ := after_op q2 hk1 hok1
    have hk1n : k1.nodes = k.nodes := by rw [hk1]; rfl
    refine condI hA (fun h4 => ?_) (fun h4 => ?_)
    ·cbv
     refine sizedI hA (nodesV_flat hln) ?_
     cbv
     refine roomI hA ⟨by simp only [List.length_nil]; omega, by decide⟩ ?_
     cbv
     obtain ⟨dv, hdv⟩ : ∃ q, q = (k.nodes[j]'hjl).dir := ⟨_, rfl⟩
     obtain ⟨b, hb⟩ : ∃ q, q = (k.nodes[j]'hjl).seen.b := ⟨_, rfl⟩
     obtain ⟨re, hre⟩ : ∃ q, q = entsV (k.nodes[j]'hjl).seen.en := ⟨_, rfl⟩
     have hj1 : j < k1.nodes.length := by rw [hk1n]; exact hjl
     have hjk : k1.nodes[j]'hj1 = k.nodes[j]'hjl := by
      apply Option.some.inj
      rw [← List.getElem?_eq_getElem, ← List.getElem?_eq_getElem, hk1n]
     obtain ⟨jz, hjz⟩ : ∃ q : Int, q = (j : Nat) := ⟨_, rfl⟩
     have hwj : w64 (i - 1) = jz := (hwz i j hij (Nat.lt_of_lt_of_le hjl hn)).trans hjz.symm
     have ha : A.app [] ln = nodesV k.nodes := by rw [app_nd hA (x := []) (a := []) rfl hln]; rfl
     obtain ⟨xs, hxs⟩ : ∃ q, q = A.app [] ln := ⟨_, rfl⟩
     obtain ⟨g1, hg1⟩ : ∃ q, q = GH.new ⟨gn, fun _ => none⟩ (.row 4 xs) := ⟨_, rfl⟩
     obtain ⟨nn, hnn⟩ : ∃ q : Int, q = (xs.length : Nat) := ⟨_, rfl⟩
     have hxn : xs = nodesV k.nodes := hxs.trans ha
     have hb1 : g1.get gn = some (.row 4 xs) := by rw [hg1]; simp
     have hnk : nn = (k1.nodes.length : Nat) := by rw [hnn, hxn, nodesV_len, hk1n]
     have h0 : 0 ≤ jz ∧ jz < nn := by rw [hjz, hnk, hk1n]; omega
     have hy : xs[jz.toNat]? = some (.agg [.bool (k.nodes[j]'hjl).dir, .str (k.nodes[j]'hjl).safe.b, .slice (entsV (k.nodes[j]'hjl).safe.en), .slice (stepsV (k.nodes[j]'hjl).loose)]) := by
      rw [hjz, Int.toNat_natCast, hxn]; unfold nodesV; rw [List.getElem?_map, List.getElem?_eq_getElem hjl]; rfl
     obtain ⟨l2, hl2⟩ : ∃ q, q = xs.set jz.toNat (.agg [.bool dv, .str b, .slice re, .slice []]) := ⟨_, rfl⟩
     have hl2n : l2 = nodesV (k1.nodes.set j (k.nodes[j]'hjl).sync) := by
      rw [hl2, hjz, Int.toNat_natCast, hxn, hk1n, hdv, hb, hre]; unfold nodesV; rw [List.map_set]; rfl
     have hq := V.agg.inj (Option.some.inj (a1 h4 l2 lf hl2n hlf))
     have hq1 : lf = l2 := (V.slice.inj (Option.some.inj (congrArg List.head? hq))).symm
     have hq2 : (diskC ln k1).tail = (diskC lf kf).tail := by rw [← hq]; rfl
     clear hjz hl2n hq
     refine weakA hA _ (weak_pubX _ 33 (l := xs) (z := 4) (id0 := 33) hg1 (nx := gn) rfl hnn rfl rfl (by rw [hxs]; rfl)) ?_
     cbv
     refine chkI hA (by kernel_rfl) ?_
     cbv
     refine callHI hA [.v (.agg [.bool dv, .str b, .slice re, .slice []])] ((gSeen g1 gn nn xs hb1 k1 (hxn.trans (by rw [hk1n])) hnk i j hij hj1 (by omega) (by rw [hjk]; exact hN) dv b re (by rw [hjk]; exact hdv) (by rw [hjk]; exact hb) (by rw [hjk]; exact hre))) ?_
     cbv
     have hix : A.wrap .i64 (A.sub i 1) = jz := (zsub hA i 1).trans hwj
     refine gixN hA hix h0 ?_
     cbv
     refine gstRA hA hix xs hb1 hy rfl ?_
     intro g2 hg2
     cbv
     exact retGI hA rfl [.v (.agg (.gs gn nn :: (diskC ln k1).tail)), .v (.int .i64 e1)] g2 (.inr ⟨gn, nn, by rw [hq2, he1.trans q1.symm], by rw [hq1, hl2, List.length_set, hnn], by rw [hg2, hq1, hl2]; simp⟩)
    ·cbv
     exact retGI hA rfl [.v (.agg (diskC ln k1)), .v (.int .i64 e1)] _ (exit_ ln k1 e1 _ ⟨a2 h4 _ _ hln hlf, i64_eq (he1.trans q1.symm), trivial⟩)
open Go Go.RowKit
theorem cAdd18 {M B : Nat} {ln : List V} {k : Dk} (h : D13 ln k M B) (hM : M ≤ 800000) (hB : B ≤ 900000000) (file n : Int) (hf : I64 file) (hn : 0 ≤ n ∧ n ≤ 1000000) (a : RecM) (l : List V) (ha : l = strsV a.path) (hr : RecOk a) : CallR Tryz.prog 38 [.agg [.int .i64 file, .int .i64 n], .agg [.slice ln, .int .i64 k.cap, .int .i64 k.ops, .int .i64 k.changes, .bool k.down, .bool k.fail.is, .int .i64 k.fail.after, .bool k.done, .bool k.full.is, .int .i64 k.full.after], .agg [.int .u8 a.k, .slice l, .int .i64 a.sz, .int .u32 a.sm, .int .i64 a.mi, .int .i64 a.mo, .int .u32 a.si, .int .u32 a.so]] fun rs => ∃ (lf : List V) (kf : Dk) (ff nf ef : Int), rs = [.v (.agg (diskC lf kf)), .v (.agg [.int .i64 ff, .int .i64 nf]), .v (.int .i64 ef)] ∧ lf = nodesV kf.nodes ∧ kf = (k.addD file n a).1 ∧ ff = (k.addD file n a).2.1 ∧ nf = (k.addD file n a).2.2.1 ∧ ef = (k.addD file n a).2.2.2 := by
 obtain ⟨kf, hkf⟩ : ∃ q, q = (k.addD file n a).1 := ⟨_, rfl⟩
 obtain ⟨ff, hff⟩ : ∃ q, q = (k.addD file n a).2.1 := ⟨_, rfl⟩
 obtain ⟨nf, hnf⟩ : ∃ q, q = (k.addD file n a).2.2.1 := ⟨_, rfl⟩
 obtain ⟨ef, hef⟩ : ∃ q, q = (k.addD file n a).2.2.2 := ⟨_, rfl⟩
 obtain ⟨lf, hlf⟩ : ∃ q, q = nodesV kf.nodes := ⟨_, rfl⟩
 have fin : ∀ (l1 : List V) (k1 : Dk) (f1 n1 e1 : Int), k.addD file n a = (k1, f1, n1, e1) → l1 = nodesV k1.nodes → some (V.agg (diskC l1 k1)) = some (V.agg (diskC lf kf)) ∧ some (V.agg [.int .i64 f1, .int .i64 n1]) = some (V.agg [.int .i64 ff, .int .i64 nf]) ∧ some (V.int .i64 e1) = some (V.int .i64 ef) ∧ True := fun l1 k1 f1 n1 e1 q q1 => by
  rw [hlf, hff, hnf, hef, hkf, q, q1]; exact ⟨rfl, rfl, rfl, trivial⟩
 have hput := cPut12 a l ha hr
 have hpe : putE a = if checkM a then 0 else 2 := rfl
 have hps := putB_small hr
 obtain ⟨pb, hpb⟩ : ∃ b, b = putB a := ⟨_, rfl⟩
 have hfr : ∀ (fl : List V) (v : Int), v = n → fl = bytesV pb → _ := fun fl v hv hfl => cFrame12 v n.toNat pb fl (by omega) (by omega) hfl
 have hfl0 := frameL_lenJ n.toNat pb
 obtain ⟨fr, hfrd⟩ : ∃ q, q = frameL n.toNat (putB a) := ⟨_, rfl⟩
 have hfrl : fr.length ≤ 1034 := by rw [hfrd, ← hpb, hfl0, hpb]; omega
 have hmk := cMake13 ln k h.ln h.p h.K (by omega) (by omega) 1 i64_1 jName (by decide) false
 -- what is behind begin
 have go : ∀ (l1 : List V) (k1 : Dk), l1 = nodesV k1.nodes → k1 = (k.beginD file).1 → D13 l1 k1 (M + 2) (B + 1) := fun l1 k1 q1 q2 => by
  subst q2
  unfold Dk.beginD at *
  split at q1
  ·rename_i w; rw [if_pos w]; subst q1; exact (h.ln ▸ h).mono (by omega) (by omega)
  ·rename_i w; rw [if_neg w]; dsimp only at q1 ⊢
   split at q1
   ·rename_i w2; rw [if_pos w2]; exact (h.make 1 jName (by decide) q1 rfl).mono (by omega) (Nat.le_refl _)
   ·rename_i w2; rw [if_neg w2]; exact (h.make 1 jName (by decide) rfl rfl).sync 1 q1 rfl
 have tl : ¬ checkM a = false → ¬ 1024 < (putB a).length → ∀ (k1 : Dk) (f1 : Int), k.beginD file = (k1, f1, 0) → ∀ (k5 : Dk) (e5 : Int), k5 = (k1.appD f1 fr).1 → e5 = (k1.appD f1 fr).2 → (e5 ≠ 0 → k.addD file n a = (k5, f1, n, e5)) ∧ (e5 = 0 → ∀ (k6 : Dk) (e6 : Int), k6 = (k5.syncD f1).1 → e6 = (k5.syncD f1).2 → (e6 ≠ 0 → k.addD file n a = (k6, f1, n, e6)) ∧ (e6 = 0 → k.addD file n a = (k6, f1, n + 1, e6))) := fun hc hb k1 f1 q k5 e5 q1 q2 => by
  refine ⟨fun q3 => ?_, fun q3 k6 e6 q4 q5 => ⟨fun q6 => ?_, fun q6 => ?_⟩⟩
  ·unfold Dk.addD; rw [if_neg hc, if_neg hb, q]; dsimp only; rw [if_neg (by decide), ← hfrd, ← q2, if_pos q3, ← q1]
  ·unfold Dk.addD; rw [if_neg hc, if_neg hb, q]; dsimp only; rw [if_neg (by decide), ← hfrd, ← q2, if_neg (fun f => f q3), ← q1, ← q5, if_neg q6, ← q4]
  ·unfold Dk.addD; rw [if_neg hc, if_neg hb, q]; dsimp only; rw [if_neg (by decide), ← hfrd, ← q2, if_neg (fun f => f q3), ← q1, ← q5, if_pos q6, ← q4]
 have hn1 : w64 (n + 1) = n + 1 := w64_id (by omega)
 refine .of _ ⟨lf, kf, ff, nf, ef, rfl, hlf, hkf, hff, hnf, hef⟩ ?_
 clear hkf hff hnf hef
 refine FnR.of' T_ok M_ok (fn := Tryz.f38) (by kernel_rfl) rfl rfl rfl rfl (Nat.le_of_ble_eq_true rfl) fun A hA => ?_
 cbv
 refine callI hA (hput) ?_
 intro rs_ h_
 obtain ⟨r, e, q_1, hrr, he⟩ := h_
 subst q_1
 cbv
 refine condI hA (fun h1 => ?_) (fun h1 => ?_)
 ·have h1 := zneT hA h1
  have hc : checkM a = false := by
   cases q : checkM a with
   | false => rfl
   | true => rw [hpe, q] at he; exact absurd he h1
  have he : e = 2 := by rw [hpe, hc] at he; exact he
  have q := fin ln k file n 2 (by unfold Dk.addD; rw [if_pos hc]) h.ln
  rw [← he] at q
  cbv
  refine chkI hA (by kernel_rfl) ?_
  cbv
  refine retI hA ?_
  exact q
 ·have h1 := zneF hA h1
  have hc : ¬ checkM a = false := fun q => by rw [hpe, q] at he; rw [he] at h1; cases h1
  have hb : ¬ 1024 < (putB a).length := by omega
  cbv
  refine condI hA (fun h2 => ?_) (fun h2 => ?_)
  ·have h2 : file = 0 := zeqT hA h2
   cbv
   refine callI hA (hmk) ?_
   intro rs_ h_
   obtain ⟨l3, k3, n3, e3, q_1, hl3, hk3, hn3, he3⟩ := h_
   subst q_1
   cbv
   refine condI hA (fun h3 => ?_) (fun h3 => ?_)
   ·have h3 : e3 ≠ 0 := zneT hA h3
    have q := fin l3 k3 file n e3 (by
     have hbg : k.beginD file = (k3, file, e3) := by unfold Dk.beginD; rw [if_neg (fun f => f h2)]; dsimp only; rw [← he3, if_pos h3, ← hk3]
     unfold Dk.addD; rw [if_neg hc, if_neg hb, hbg]; dsimp only; rw [if_pos h3]) hl3
    cbv
    refine chkI hA (by kernel_rfl) ?_
    cbv
    refine retI hA ?_
    exact q
   ·have h3 : e3 = 0 := zneF hA h3
    have H3 := h.make 1 jName (by decide) hl3 hk3
    have hi3 : I64 n3 := hn3 ▸ makeD_i64 h.p 1 jName false
    have hsy := cSync13 l3 k3 H3.ln H3.p.most (H3.ok (by omega) (by omega)) 1 i64_1
    have hbg : ∀ k4 e4, k4 = (k3.syncD 1).1 → e4 = (k3.syncD 1).2 → k.beginD file = (k4, n3, e4) := fun k4 e4 q1 q2 => by
     unfold Dk.beginD; rw [if_neg (fun f => f h2)]; dsimp only; rw [← he3, if_neg (fun f => f h3), ← hk3, ← q1, ← q2, ← hn3]
    cbv
    refine callI hA (hsy) ?_
    intro rs_ h_
    obtain ⟨l4, k4, e4, q_1, hl4, hk4, he4⟩ := h_
    subst q_1
    cbv
    refine condI hA (fun h4 => ?_) (fun h4 => ?_)
    ·have h4 : e4 ≠ 0 := zneT hA h4
     have q := fin l4 k4 n3 n e4 (by
      unfold Dk.addD; rw [if_neg hc, if_neg hb, hbg k4 e4 hk4 he4]; dsimp only; rw [if_pos h4]) hl4
     cbv
     refine chkI hA (by kernel_rfl) ?_
     cbv
     refine retI hA ?_
     exact q
    ·have h4 : e4 = 0 := zneF hA h4
     have H4 := H3.sync 1 hl4 hk4
     have hbg0 := h4 ▸ hbg k4 e4 hk4 he4
     have hlast := tl hc hb k4 n3 hbg0
     have hap := cApp13 l4 k4 H4.ln H4.p H4.K (by omega) fr (by omega) H4.cap n3 hi3
     cbv
     refine callI hA ((hfr r _ (wu32 hA hn) (hrr.trans (by rw [hpb])))) ?_
     intro rs_ h_
     obtain ⟨fl, e2, q_1, hfl, he2⟩ := h_
     subst q_1
     cbv
     have hfl : fl = bytesV fr := hfl.trans (by unfold frameB; rw [hpb, if_neg hb, hfrd])
     refine b2sI hA fr hfl ?_
     cbv
     refine callI hA (hap) ?_
     intro rs_ h_
     obtain ⟨l5, k5, e5, q_1, hl5, hk5, he5⟩ := h_
     subst q_1
     cbv
     obtain ⟨t1, t2⟩ := hlast k5 e5 hk5 he5
     have H5 := H4.app n3 fr (by omega) hl5 hk5
     have hsy5 := cSync13 l5 k5 H5.ln H5.p.most (H5.ok (by omega) (by omega)) n3 hi3
     refine condI hA (fun h5 => ?_) (fun h5 => ?_)
     ·have h5 : e5 = 0 := zeqT hA h5
      cbv
      refine callI hA (hsy5) ?_
      intro rs_ h_
      obtain ⟨l6, k6, e6, q_1, hl6, hk6, he6⟩ := h_
      subst q_1
      cbv
      obtain ⟨t3, t4⟩ := t2 h5 k6 e6 hk6 he6
      refine condI hA (fun h6 => ?_) (fun h6 => ?_)
      ·have q := fin l6 k6 n3 (n + 1) e6 (t4 (zeqT hA h6)) hl6
       have hup : A.wrap .i64 (A.add n 1) = n + 1 := (zadd hA n 1).trans hn1
       rw [← hup] at q
       cbv
       refine chkI hA (by kernel_rfl) ?_
       cbv
       refine retI hA ?_
       exact q
      ·have q := fin l6 k6 n3 n e6 (t3 (zeqF hA h6)) hl6
       cbv
       refine chkI hA (by kernel_rfl) ?_
       cbv
       refine retI hA ?_
       exact q
     ·have h5 : e5 ≠ 0 := zeqF hA h5
      have q := fin l5 k5 n3 n e5 (t1 h5) hl5
      cbv
      refine condF hA (zeq_f hA h5) ?_
      cbv
      refine chkI hA (by kernel_rfl) ?_
      cbv
      refine retI hA ?_
      exact q
  ·have h2 : file ≠ 0 := zeqF hA h2
   have hbg0 : k.beginD file = (k, file, 0) := by unfold Dk.beginD; rw [if_pos h2]
   have hlast := tl hc hb k file hbg0
   have hap := cApp13 ln k h.ln h.p h.K (by omega) fr (by omega) h.cap file hf
   cbv
   refine callI hA ((hfr r _ (wu32 hA hn) (hrr.trans (by rw [hpb])))) ?_
   intro rs_ h_
   obtain ⟨fl, e2, q_1, hfl, he2⟩ := h_
   subst q_1
   cbv
   have hfl : fl = bytesV fr := hfl.trans (by unfold frameB; rw [hpb, if_neg hb, hfrd])
   refine b2sI hA fr hfl ?_
   cbv
   refine callI hA (hap) ?_
   intro rs_ h_
   obtain ⟨l5, k5, e5, q_1, hl5, hk5, he5⟩ := h_
   subst q_1
   cbv
   obtain ⟨t1, t2⟩ := hlast k5 e5 hk5 he5
   have H5 := h.app file fr (by omega) hl5 hk5
   have hsy5 := cSync13 l5 k5 H5.ln H5.p.most (H5.ok (by omega) (by omega)) file hf
   refine condI hA (fun h5 => ?_) (fun h5 => ?_)
   ·have h5 : e5 = 0 := zeqT hA h5
    cbv
    refine callI hA (hsy5) ?_
    intro rs_ h_
    obtain ⟨l6, k6, e6, q_1, hl6, hk6, he6⟩ := h_
    subst q_1
    cbv
    obtain ⟨t3, t4⟩ := t2 h5 k6 e6 hk6 he6
    refine condI hA (fun h6 => ?_) (fun h6 => ?_)
    ·have q := fin l6 k6 file (n + 1) e6 (t4 (zeqT hA h6)) hl6
     have hup : A.wrap .i64 (A.add n 1) = n + 1 := (zadd hA n 1).trans hn1
     rw [← hup] at q
     cbv
     refine chkI hA (by kernel_rfl) ?_
     cbv
     refine retI hA ?_
     exact q
    ·have q := fin l6 k6 file n e6 (t3 (zeqF hA h6)) hl6
     cbv
     refine chkI hA (by kernel_rfl) ?_
     cbv
     refine retI hA ?_
     exact q
   ·have h5 : e5 ≠ 0 := zeqF hA h5
    have q := fin l5 k5 file n e5 (t1 h5) hl5
    cbv
    refine condF hA (zeq_f hA h5) ?_
    cbv
    refine chkI hA (by kernel_rfl) ?_
    cbv
    refine retI hA ?_
    exact q
end Go.Proofs.YthioccbgjkbmdaaGreat.AM
