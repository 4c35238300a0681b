/-
 Plain law: a journal on a disk.
-/
import Derived.Test.YthioccbgjkbmdaaGreatM27500feff9
set_option linter.unusedVariables false
set_option linter.unusedSimpArgs false
set_option maxRecDepth 100000
set_option maxHeartbeats 4000000
namespace Go.Proofs.YthioccbgjkbmdaaGreat.AM
open Go Go.RowKit
section
variable {C : Nat}
def rootN (en : List (Bs × Nat)) : Nd := ⟨true, ⟨[], en⟩, []⟩
def fileN (b : Bs) : Nd := ⟨false, ⟨b, []⟩, []⟩
structure JW (C : Nat) (k : Dk) : Prop where
 up : k.down = false
 cap : k.cap = (C : Nat)
 full : k.full.is = false
structure JR (k : Dk) (j : Nat) (nd : Nd) : Prop where
 root : k.nodes[0]? = some (rootN [(jName, j + 1)])
 pos : 1 ≤ j
 at_ : k.nodes[j]? = some nd
 dir : nd.dir = false
theorem JR.set {k k' : Dk} {j : Nat} {nd nd' : Nd} (h : JR k j nd) (hn : k'.nodes = k.nodes.set j nd') (hd : nd'.dir = false) : JR k' j nd' :=
 ⟨by rw [hn, List.getElem?_set_ne (by have := h.pos; omega)]; exact h.root, h.pos, by rw [hn, List.getElem?_set_self (List.getElem?_eq_some_iff.1 h.at_).1], hd⟩
theorem JR.same {k k' : Dk} {j : Nat} {nd : Nd} (h : JR k j nd) (hn : k'.nodes = k.nodes) : JR k' j nd := ⟨by rw [hn]; exact h.root, h.pos, by rw [hn]; exact h.at_, h.dir⟩
theorem node_one {k : Dk} {nd : Nd} (h : k.nodes[0]? = some nd) : k.node? 1 = some nd := node_at h
theorem ofE_of {k : Dk} (hu : k.down = false) {i : Int} {nd : Nd} (h : k.node? i = some nd) (d : Bool) : k.ofE i d = if nd.dir = d then 0 else 10 := by unfold Dk.ofE; rw [hu, if_neg (by decide), h]
theorem anyE_of {k : Dk} (hu : k.down = false) {i : Int} {nd : Nd} (h : k.node? i = some nd) : k.anyE i = 0 := by unfold Dk.anyE; rw [hu, if_neg (by decide), h]
theorem find0 {k : Dk} (hu : k.down = false) (h : k.nodes[0]? = some (rootN [])) : k.findE 1 jName = (0, 8) := by
 unfold Dk.findE; rw [ofE_of hu (node_one h), if_neg (by simp [rootN]), node_one h]; rfl
theorem findR {k : Dk} (hu : k.down = false) {j : Nat} {nd : Nd} (h : JR k j nd) : k.findE 1 jName = ((j : Int) + 1, 0) := by
 unfold Dk.findE; rw [ofE_of hu (node_one h.root), if_neg (by simp [rootN]), node_one h.root]
 dsimp only
 rw [show enGet (rootN [(jName, j + 1)]).seen.en jName = some (j + 1) from by simp [rootN, Nd.seen, enGet]]
 simp
theorem op_step {k : Dk} (hu : k.down = false) {i : Nat} {nd : Nd} (hn : k.nodes[i]? = some nd) (f : Nd → Nd) (c : Bool) :
  (k.opE = 12 ∧ k.fail.is = true ∧ (k.op c ((i : Int) + 1) f).down = true ∧ ((k.op c ((i : Int) + 1) f).nodes = k.nodes ∨ (k.op c ((i : Int) + 1) f).nodes = k.nodes.set i (f nd)) ∧ (k.op c ((i : Int) + 1) f).cap = k.cap) ∨
  (k.opE = 0 ∧ (k.op c ((i : Int) + 1) f).down = false ∧ (k.op c ((i : Int) + 1) f).nodes = k.nodes.set i (f nd) ∧ (k.op c ((i : Int) + 1) f).cap = k.cap ∧ (k.op c ((i : Int) + 1) f).full = k.full ∧ (k.fail.is = false → (k.op c ((i : Int) + 1) f).fail.is = false) ∧ (k.op c ((i : Int) + 1) f).ops = w64 (k.ops + 1)) := by
 unfold Dk.op
 rw [node_at hn]
 dsimp only
 rw [set_at_]
 cases hh : k.fail.hit with
 | true =>
  refine .inl ⟨by simp [Dk.opE, hh], ?_, ?_, ?_, ?_⟩
  ·unfold Told.hit at hh; cases q : k.fail.is <;> simp [q] at hh ⊢
  ·split <;> simp [Dk.tick, hh]
  ·split
   ·exact .inr rfl
   ·exact .inl rfl
  ·split <;> rfl
 | false =>
  have hd : k.does = true := by simp [Dk.does, hh]
  rw [if_pos hd]
  refine .inr ⟨by simp [Dk.opE, hh], by simp [Dk.tick, hh, hu], rfl, rfl, rfl, fun q => ?_, rfl⟩
  simp [Dk.tick, Told.next, q]
theorem JW.op {k k' : Dk} (h : JW C k) (h1 : k'.down = false) (h2 : k'.cap = k.cap) (h3 : k'.full = k.full) : JW C k' := ⟨h1, h2.trans h.cap, by rw [h3]; exact h.full⟩
theorem crash_at {k : Dk} (keep : Bs) {i : Nat} {nd : Nd} (h : k.nodes[i]? = some nd) : ∃ m, m ≤ nd.parts ∧ (k.crash keep).nodes[i]? = some (nd.crash m) := by
 have hl : (k.crash keep).nodes.length = k.nodes.length := crashL_len _ _
 obtain ⟨x, hx⟩ : ∃ x, (k.crash keep).nodes[i]? = some x := ⟨_, List.getElem?_eq_getElem (by rw [hl]; exact (List.getElem?_eq_some_iff.1 h).1)⟩
 obtain ⟨n, m, h1, h2, rfl⟩ := crashL_get _ _ i x hx
 rw [h] at h1; cases h1
 exact ⟨m, h2, hx⟩
theorem crash_file (b : Bs) (m : Nat) : (fileN b).crash m = fileN b := rfl
theorem crash_link (i m : Nat) : ((rootN []).add (.link jName i)).crash m = if m = 0 then rootN [] else rootN [(jName, i)] := by
 unfold Nd.crash
 cases m with
 | zero => rfl
 | succ m => simp only [Nd.add, rootN, List.nil_append, runs, Stp.run]; rfl
theorem crash_app (b fr : Bs) (m : Nat) (hm : m ≤ fr.length) : ((fileN b).add (.app fr)).crash m = fileN (b ++ fr.take m) := by
 unfold Nd.crash
 cases m with
 | zero => simp [Nd.add, fileN, runs]
 | succ m => simp only [Nd.add, fileN, List.nil_append, runs, Stp.run, Stp.parts]; rw [if_neg (by omega), Nat.min_eq_left hm]
def JX (C : Nat) (k : Dk) (recs : List RecM) (late : RecM) : Prop := ∀ keep, JW C (k.crash keep) ∧ (k.crash keep).fail.is = false ∧ ((recs = [] ∧ (k.crash keep).nodes[0]? = some (rootN [])) ∨ ∃ j m, JR (k.crash keep) j (fileN (framesB 0 recs ++ (frameL recs.length (putB late)).take m)))
theorem jw_crash {k : Dk} (hc : k.cap = (C : Nat)) (keep : Bs) : JW C (k.crash keep) ∧ (k.crash keep).fail.is = false := ⟨⟨rfl, hc, rfl⟩, rfl⟩
theorem jx_root {k : Dk} (hc : k.cap = (C : Nat)) (h : k.nodes[0]? = some (rootN [])) (late : RecM) : JX C k [] late := fun keep => by
 obtain ⟨m, _, hm⟩ := crash_at keep h
 exact ⟨(jw_crash hc keep).1, (jw_crash hc keep).2, .inl ⟨rfl, hm⟩⟩
theorem jx_link {k : Dk} (hc : k.cap = (C : Nat)) {j : Nat} (hj : 1 ≤ j) (h : k.nodes[0]? = some ((rootN []).add (.link jName (j + 1)))) (h2 : k.nodes[j]? = some (fileN [])) (late : RecM) : JX C k [] late := fun keep => by
 obtain ⟨m, _, hm⟩ := crash_at keep h
 obtain ⟨m2, _, hm2⟩ := crash_at keep h2
 rw [crash_link] at hm
 refine ⟨(jw_crash hc keep).1, (jw_crash hc keep).2, ?_⟩
 split at hm
 ·exact .inl ⟨rfl, hm⟩
 ·exact .inr ⟨j, 0, hm, hj, by rw [hm2]; rfl, rfl⟩
theorem jx_file {k : Dk} (hc : k.cap = (C : Nat)) {j : Nat} {nd : Nd} (h : JR k j nd) (recs : List RecM) (late : RecM) (hn : nd = fileN (framesB 0 recs) ∨ nd = (fileN (framesB 0 recs)).add (.app (frameL recs.length (putB late))) ∨ nd = fileN (framesB 0 recs ++ frameL recs.length (putB late))) : JX C k recs late := fun keep => by
 obtain ⟨m, _, hm⟩ := crash_at keep h.root
 obtain ⟨m2, hl, hm2⟩ := crash_at keep h.at_
 refine ⟨(jw_crash hc keep).1, (jw_crash hc keep).2, .inr ?_⟩
 rcases hn with rfl | rfl | rfl
 ·exact ⟨j, 0, hm, h.pos, by rw [hm2]; simp [crash_file], rfl⟩
 ·exact ⟨j, m2, hm, h.pos, by rw [hm2, crash_app _ _ _ (by simpa [Nd.parts, Nd.add, fileN, Stp.parts] using hl)], rfl⟩
 ·exact ⟨j, (frameL recs.length (putB late)).length, hm, h.pos, by rw [hm2, crash_file, List.take_length], rfl⟩
end
open Go Go.RowKit
section
variable {C : Nat}
theorem w64_add1 (a : Int) : w64 (w64 a + 1) = w64 (a + 1) := by
 rw [w64_def (w64 a + 1), w64_def (a + 1), w64_def a]
 split <;> omega
theorem w64_addg (a b : Int) : w64 (w64 a + b) = w64 (a + b) := by
 rw [w64_def (w64 a + b), w64_def (a + b), w64_def a]
 split <;> omega
theorem full_off {k : Dk} (h : k.full.is = false) : k.full.hit = false ∧ ({ k with full := k.full.next } : Dk) = k := by
 have : k.full.next = k.full := by unfold Told.next; rw [h]; rfl
 exact ⟨by unfold Told.hit; rw [h]; rfl, by rw [this]⟩
theorem reach_JR {k : Dk} {j : Nat} {nd : Nd} (h : JR k j nd) (w : Nat → Nat) : k.reach w k.nodes.length 0 = w (j + 1) := by
 obtain ⟨n, hn⟩ : ∃ n, k.nodes.length = n + 1 := ⟨k.nodes.length - 1, by have := (List.getElem?_eq_some_iff.1 h.root).1; omega⟩
 rw [hn]
 unfold Dk.reach
 rw [h.root]
 have : k.isD (j + 1) = false := by unfold Dk.isD; rw [show j + 1 - 1 = j from rfl, h.at_]; exact h.dir
 simp [rootN, Nd.seen, this]
theorem room_JR (hC : C ≤ 1000000000) {k : Dk} (hW : JW C k) {j : Nat} {nd : Nd} (h : JR k j nd) (m : Nat) (hm : nd.seen.b.length + m ≤ C) : ¬ k.room ((j : Int) + 1) m < 0 := by
 unfold Dk.room
 rw [reach_JR h, hW.cap]
 have : appW k ((j : Int) + 1) m (j + 1) = nd.seen.b.length + m := by
  unfold appW Dk.wt; rw [show j + 1 - 1 = j from rfl, h.at_, if_pos (by omega)]
 rw [this, w64_id (by omega)]
 omega
theorem app_eq (hC : C ≤ 1000000000) {k : Dk} (hW : JW C k) {j : Nat} {nd : Nd} (h : JR k j nd) (fr : Bs) (hne : fr ≠ []) (hm : nd.seen.b.length + fr.length ≤ C) : k.appD ((j : Int) + 1) fr = (k.op true ((j : Int) + 1) (·.add (.app fr)), k.opE) := by
 obtain ⟨q1, q2⟩ := full_off hW.full
 unfold Dk.appD
 rw [ofE_of hW.up (node_at h.at_), if_pos h.dir, if_neg (by simp), if_neg (room_JR hC hW h fr.length hm)]
 dsimp only
 rw [q1, if_neg (by simp), q2]
 simp only [hne, if_false]
theorem sync_eq {k : Dk} (hu : k.down = false) {i : Nat} {nd : Nd} (h : k.nodes[i]? = some nd) : k.syncD ((i : Int) + 1) = (k.op false ((i : Int) + 1) Nd.sync, k.opE) := by
 unfold Dk.syncD; rw [anyE_of hu (node_at h), if_neg (by simp)]
theorem make_eq {k : Dk} (hW : JW C k) (h : k.nodes[0]? = some (rootN [])) (hl : k.nodes.length < 4096) : k.makeD 1 jName false = (if k.does then (k.tick true).mk1 0 (rootN []) jName false else k.tick true, if k.opE = 0 then ((k.nodes.length + 1 : Nat) : Int) else 0, k.opE) := by
 obtain ⟨q1, q2⟩ := full_off hW.full
 unfold Dk.makeD
 rw [ofE_of hW.up (node_one h), if_neg (by simp [rootN]), if_neg (by decide), node_one h]
 dsimp only
 rw [show enGet (rootN []).seen.en jName = none from rfl, if_neg (by simp), if_neg (by omega), q1, if_neg (by simp), q2]
 rfl
def JSt (C c : Nat) (k : Dk) (file : Int) (recs : List RecM) : Prop :=
 JW C k ∧ ((file = 0 ∧ recs = [] ∧ k.nodes[0]? = some (rootN []) ∧ k.nodes.length ≤ c) ∨ ∃ j : Nat, file = (j : Int) + 1 ∧ JR k j (fileN (framesB 0 recs)) ∧ k.nodes.length ≤ c + 1)
theorem op_len (k : Dk) (c : Bool) (i : Int) (f : Nd → Nd) : (k.op c i f).nodes.length = k.nodes.length := by
 unfold Dk.op; split
 ·split
  ·simp [Dk.set, Dk.tick]
  ·rfl
 ·rfl
theorem begin_step {c : Nat} {k : Dk} {file : Int} {recs : List RecM} (h : JSt C c k file recs) (hc : c ≤ 4000) (ho : w64 k.ops = k.ops) (late : RecM) :
  ((k.beginD file).2.2 = 12 ∧ k.fail.is = true ∧ (k.beginD file).1.down = true ∧ JX C (k.beginD file).1 recs late) ∨
  ((k.beginD file).2.2 = 0 ∧ JW C (k.beginD file).1 ∧ (k.fail.is = false → (k.beginD file).1.fail.is = false) ∧ ∃ j : Nat, (k.beginD file).2.1 = (j : Int) + 1 ∧ JR (k.beginD file).1 j (fileN (framesB 0 recs)) ∧ (k.beginD file).1.nodes.length ≤ c + 1 ∧ (k.beginD file).1.ops = w64 (k.ops + if file = 0 then 2 else 0)) := by
 obtain ⟨hW, ⟨rfl, rfl, hr, hl⟩ | ⟨j, rfl, hR, hl⟩⟩ := h
 ·have hm := make_eq hW hr (by omega)
  have hlen1 : 1 ≤ k.nodes.length := (List.getElem?_eq_some_iff.1 hr).1
  have hmk : ∀ q : Dk, q.nodes = k.nodes → (q.mk1 0 (rootN []) jName false).nodes = (k.nodes ++ [fileN []]).set 0 ((rootN []).add (.link jName (k.nodes.length + 1))) := fun q hq => by unfold Dk.mk1; rw [hq]; rfl
  have g0 : ∀ n : Nd, ((k.nodes ++ [fileN []]).set 0 n)[0]? = some n := fun n => by rw [List.getElem?_set_self (by simp)]
  have g1 : ∀ n : Nd, ((k.nodes ++ [fileN []]).set 0 n)[k.nodes.length]? = some (fileN []) := fun n => by rw [List.getElem?_set_ne (by omega), List.getElem?_append_right (Nat.le_refl _)]; simp
  cases hh : k.fail.hit with
  | true =>
   have hE : k.opE = 12 := by simp [Dk.opE, hh]
   have hf : k.fail.is = true := by unfold Told.hit at hh; cases q : k.fail.is <;> simp [q] at hh ⊢
   have q : k.beginD 0 = ((k.makeD 1 jName false).1, 0, (k.makeD 1 jName false).2.2) := by unfold Dk.beginD; rw [if_neg (by simp)]; dsimp only; rw [if_pos (by rw [hm]; dsimp only; rw [hE]; decide)]
   rw [q, hm]
   dsimp only
   refine .inl ⟨hE, hf, ?_, ?_⟩
   ·split <;> simp [Dk.mk1, Dk.tick, hh]
   ·split
    ·exact jx_link (by simp [Dk.mk1, Dk.tick, hW.cap]) hlen1 (by rw [hmk (k.tick true) rfl]; exact g0 _) (by rw [hmk (k.tick true) rfl]; exact g1 _) late
    ·exact jx_root (by simp [Dk.tick, hW.cap]) (by exact hr) late
  | false =>
   have hE : k.opE = 0 := by simp [Dk.opE, hh]
   have hd : k.does = true := by simp [Dk.does, hh]
   rw [if_pos hd, if_pos hE, hE] at hm
   obtain ⟨k1, hk1⟩ : ∃ q, q = (k.tick true).mk1 0 (rootN []) jName false := ⟨_, rfl⟩
   rw [← hk1] at hm
   have n1 : k1.nodes = (k.nodes ++ [fileN []]).set 0 ((rootN []).add (.link jName (k.nodes.length + 1))) := by rw [hk1]; exact hmk _ rfl
   have hW1 : JW C k1 := by rw [hk1]; exact ⟨by simp [Dk.mk1, Dk.tick, hh, hW.up], by simp [Dk.mk1, Dk.tick, hW.cap], by simp [Dk.mk1, Dk.tick, hW.full]⟩
   have hf1 : k.fail.is = false → k1.fail.is = false := fun q => by rw [hk1]; simp [Dk.mk1, Dk.tick, Told.next, q]
   have hf1' : k1.fail.is = true → k.fail.is = true := fun q => by
    cases q2 : k.fail.is with
    | true => rfl
    | false => rw [hf1 q2] at q; cases q
   have r0 : k1.nodes[0]? = some ((rootN []).add (.link jName (k.nodes.length + 1))) := by rw [n1]; exact g0 _
   have r1 : k1.nodes[k.nodes.length]? = some (fileN []) := by rw [n1]; exact g1 _
   have q : k.beginD 0 = ((k1.syncD 1).1, ((k.nodes.length + 1 : Nat) : Int), (k1.syncD 1).2) := by unfold Dk.beginD; rw [if_neg (by simp)]; dsimp only; rw [hm]; dsimp only; rw [if_neg (by simp)]
   have o1 : k1.ops = w64 (k.ops + 1) := by rw [hk1]; rfl
   have hs := sync_eq hW1.up r0
   have st := op_step hW1.up r0 Nd.sync false
   have hle := op_len k1 false (((0 : Nat) : Int) + 1) Nd.sync
   rw [q, show (1 : Int) = ((0 : Nat) : Int) + 1 from rfl, hs]
   dsimp only
   have hsy : ((rootN []).add (.link jName (k.nodes.length + 1))).sync = rootN [(jName, k.nodes.length + 1)] := rfl
   rcases st with ⟨s1, s2, s3, s4, s5⟩ | ⟨s1, s2, s3, s4, s5, s6, s7⟩
   ·refine .inl ⟨s1, hf1' s2, s3, ?_⟩
    rcases s4 with s4 | s4
    ·exact jx_link (s5.trans hW1.cap) hlen1 (by rw [s4]; exact r0) (by rw [s4]; exact r1) late
    ·refine jx_file (nd := fileN []) (s5.trans hW1.cap) ⟨by rw [s4, List.getElem?_set_self (List.getElem?_eq_some_iff.1 r0).1]; rfl, hlen1, by rw [s4, List.getElem?_set_ne (by omega)]; exact r1, rfl⟩ [] late (.inl rfl)
   ·refine .inr ⟨s1, hW1.op s2 s4 s5, fun q => s6 (hf1 q), k.nodes.length, by omega, ⟨by rw [s3, List.getElem?_set_self (List.getElem?_eq_some_iff.1 r0).1]; rfl, hlen1, by rw [s3, List.getElem?_set_ne (by omega)]; exact r1, rfl⟩, by rw [hle, n1]; simp; omega, by rw [s7, o1, w64_add1, if_pos rfl]; congr 1; omega⟩
 ·have q : k.beginD ((j : Int) + 1) = (k, (j : Int) + 1, 0) := by unfold Dk.beginD; rw [if_pos (by omega)]
  rw [q]
  exact .inr ⟨rfl, hW, fun h => h, j, rfl, hR, hl, by rw [if_neg (by omega), Int.add_zero]; exact ho.symm⟩
theorem add_step (hC : C ≤ 1000000000) {c : Nat} {k : Dk} {file : Int} {recs : List RecM} (h : JSt C c k file recs) (hc : c ≤ 4000) {a : RecM} (hr : RecOk a) (ha : checkM a = true) (hsz : (framesB 0 recs).length + (10 + (putB a).length) ≤ C) (ho : w64 k.ops = k.ops) :
  ((k.addD file recs.length a).2.2.2 = 12 ∧ k.fail.is = true ∧ (k.addD file recs.length a).1.down = true ∧ JX C (k.addD file recs.length a).1 recs a) ∨
  ((k.addD file recs.length a).2.2.2 = 0 ∧ (k.fail.is = false → (k.addD file recs.length a).1.fail.is = false) ∧ JSt C c (k.addD file recs.length a).1 (k.addD file recs.length a).2.1 (recs ++ [a]) ∧ (k.addD file recs.length a).2.2.1 = ((recs ++ [a]).length : Nat) ∧ (k.addD file recs.length a).1.ops = w64 (k.ops + if file = 0 then 4 else 2)) := by
 have hpb := putB_small hr
 have hfl := frameL_len recs.length (putB a)
 obtain ⟨fr, hfr⟩ : ∃ fr, fr = frameL recs.length (putB a) := ⟨_, rfl⟩
 have hadd : k.addD file recs.length a = (if (k.beginD file).2.2 ≠ 0 then ((k.beginD file).1, (k.beginD file).2.1, (recs.length : Int), (k.beginD file).2.2) else if ((k.beginD file).1.appD (k.beginD file).2.1 fr).2 ≠ 0 then (((k.beginD file).1.appD (k.beginD file).2.1 fr).1, (k.beginD file).2.1, (recs.length : Int), ((k.beginD file).1.appD (k.beginD file).2.1 fr).2) else ((((k.beginD file).1.appD (k.beginD file).2.1 fr).1.syncD (k.beginD file).2.1).1, (k.beginD file).2.1, if (((k.beginD file).1.appD (k.beginD file).2.1 fr).1.syncD (k.beginD file).2.1).2 = 0 then (recs.length : Int) + 1 else recs.length, (((k.beginD file).1.appD (k.beginD file).2.1 fr).1.syncD (k.beginD file).2.1).2)) := by
  unfold Dk.addD; rw [if_neg (by rw [ha]; decide), if_neg (by omega), hfr]; rfl
 rw [hadd]
 have hb := begin_step h hc ho a
 generalize k.beginD file = r at hb ⊢
 rcases hb with ⟨b1, b2, b3, b4⟩ | ⟨b1, hW, bf, j, b2, hR, hl, bo⟩
 ·rw [if_pos (by rw [b1]; decide)]
  exact .inl ⟨b1, b2, b3, b4⟩
 ·rw [if_neg (by rw [b1]; simp), b2]
  have hne : fr ≠ [] := fun q => by rw [q] at hfr; rw [← hfr] at hfl; simp only [List.length_nil] at hfl; omega
  have e1 := app_eq hC hW hR fr hne (by show (framesB 0 recs).length + fr.length ≤ _; rw [hfr, hfl]; exact hsz)
  have st := op_step hW.up hR.at_ (·.add (.app fr)) true
  have ol := op_len r.1 true ((j : Int) + 1) (·.add (.app fr))
  rw [e1]
  dsimp only
  have bft : r.1.fail.is = true → k.fail.is = true := fun q => by
   cases q2 : k.fail.is with
   | true => rfl
   | false => rw [bf q2] at q; cases q
  rcases st with ⟨s1, s2, s3, s4, s5⟩ | ⟨s1, s2, s3, s4, s5, s6, s7⟩
  ·rw [if_pos (by rw [s1]; decide)]
   refine .inl ⟨s1, bft s2, s3, ?_⟩
   rcases s4 with s4 | s4
   ·exact jx_file (s5.trans hW.cap) (hR.same s4) recs a (.inl rfl)
   ·exact jx_file (s5.trans hW.cap) (hR.set s4 rfl) recs a (.inr (.inl (by rw [hfr])))
  ·rw [if_neg (by rw [s1]; simp)]
   generalize r.1.op true ((j : Int) + 1) (·.add (.app fr)) = k2 at s2 s3 s4 s5 s6 s7 ol ⊢
   have hW2 : JW C k2 := hW.op s2 s4 s5
   have hR2 := hR.set s3 (nd' := (fileN (framesB 0 recs)).add (.app fr)) rfl
   have e2 := sync_eq hW2.up hR2.at_
   have st := op_step hW2.up hR2.at_ Nd.sync false
   have ol2 := op_len k2 false ((j : Int) + 1) Nd.sync
   have hsy : ((fileN (framesB 0 recs)).add (.app fr)).sync = fileN (framesB 0 recs ++ fr) := by simp [Nd.sync, Nd.add, Nd.seen, fileN, Stp.run, Stp.parts]
   rw [e2]
   dsimp only
   rcases st with ⟨t1, t2, t3, t4, t5⟩ | ⟨t1, t2, t3, t4, t5, t6, t7⟩
   ·have hf2 : k.fail.is = true := by
     cases q2 : k.fail.is with
     | true => rfl
     | false => rw [s6 (bf q2)] at t2; cases t2
    refine .inl ⟨t1, hf2, t3, ?_⟩
    rcases t4 with t4 | t4
    ·exact jx_file (t5.trans hW2.cap) (hR2.same t4) recs a (.inr (.inl (by rw [hfr])))
    ·exact jx_file (t5.trans hW2.cap) (hR2.set t4 rfl) recs a (.inr (.inr (by rw [hsy, hfr])))
   ·refine .inr ⟨t1, fun q => t6 (s6 (bf q)), ⟨hW2.op t2 t4 t5, .inr ⟨j, rfl, ?_, by rw [ol2, ol]; exact hl⟩⟩, ?_, ?_⟩
    ·rw [framesB_snoc, Nat.zero_add, ← hfr, ← hsy]
     exact hR2.set t3 rfl
    ·rw [if_pos t1]; simp
    ·rw [t7, s7, bo, w64_add1, Int.add_assoc, w64_addg]; congr 1; split <;> omega
end
open Go Go.RowKit
section
variable {C : Nat}
theorem no_hit {k : Dk} (h : k.fail.is = false) : k.opE = 0 := by unfold Dk.opE Told.hit; rw [h]; rfl
theorem op_calm {k : Dk} (hW : JW C k) (hf : k.fail.is = false) {i : Nat} {nd : Nd} (hn : k.nodes[i]? = some nd) (f : Nd → Nd) (c : Bool) : JW C (k.op c ((i : Int) + 1) f) ∧ (k.op c ((i : Int) + 1) f).fail.is = false ∧ (k.op c ((i : Int) + 1) f).nodes = k.nodes.set i (f nd) := by
 rcases op_step hW.up hn f c with ⟨_, q, _⟩ | ⟨_, s2, s3, s4, s5, s6, _⟩
 ·rw [hf] at q; cases q
 ·exact ⟨hW.op s2 s4 s5, s6 hf, s3⟩
theorem open0 {k : Dk} (hu : k.down = false) (h : k.nodes[0]? = some (rootN [])) : k.openD = (k, some (0, []), 0) := by
 unfold Dk.openD; rw [find0 hu h]; rfl
theorem openR {k : Dk} (hW : JW C k) (hf : k.fail.is = false) {j : Nat} {nd : Nd} (hR : JR k j nd) {b : Bs} (hs : nd.seen = ⟨b, []⟩) : ∃ k', k.openD = (k', some ((j : Int) + 1, (scanM 0 b).1), 0) ∧ JW C k' ∧ k'.fail.is = false ∧ k'.nodes.length = k.nodes.length ∧ (((scanM 0 b).2 < b.length ∧ JR k' j (fileN (b.take (scanM 0 b).2))) ∨ (¬ (scanM 0 b).2 < b.length ∧ k' = k)) := by
 have hn := node_at hR.at_
 have hof : k.ofE ((j : Int) + 1) false = 0 := by rw [ofE_of hW.up hn, if_pos hR.dir]
 have hsz : sizeM k ((j : Int) + 1) = (b.length : Nat) := by unfold sizeM; rw [if_pos hof, hn]; simp [hs]
 have hrd : (k.readM ((j : Int) + 1) 0 (sizeM k ((j : Int) + 1))).1 = b := by
  unfold Dk.readM; rw [if_neg (by rw [hof]; simp), hn, hsz]
  dsimp only
  rw [hs, if_neg (by simp), Int.toNat_natCast]
  simp
 obtain ⟨s, hss⟩ : ∃ s, s = scanM 0 b := ⟨_, rfl⟩
 have hop : k.openD = if s.2 < b.length then (if (k.cutD ((j : Int) + 1) (s.2 : Nat)).2 ≠ 0 then ((k.cutD ((j : Int) + 1) (s.2 : Nat)).1, none, (k.cutD ((j : Int) + 1) (s.2 : Nat)).2) else if ((k.cutD ((j : Int) + 1) (s.2 : Nat)).1.syncD ((j : Int) + 1)).2 ≠ 0 then (((k.cutD ((j : Int) + 1) (s.2 : Nat)).1.syncD ((j : Int) + 1)).1, none, ((k.cutD ((j : Int) + 1) (s.2 : Nat)).1.syncD ((j : Int) + 1)).2) else (((k.cutD ((j : Int) + 1) (s.2 : Nat)).1.syncD ((j : Int) + 1)).1, some ((j : Int) + 1, s.1), 0)) else (k, some ((j : Int) + 1, s.1), 0) := by
  unfold Dk.openD
  rw [findR hW.up hR]
  dsimp only
  rw [if_neg (by decide), if_neg (by simp), if_neg (by rw [ofE_of hW.up hn, if_neg (by rw [hR.dir]; decide)]; decide), hrd, ← hss]
 rw [hop, ← hss]
 split
 ·rename_i hlt
  have hcut : k.cutD ((j : Int) + 1) (s.2 : Nat) = (k.op true ((j : Int) + 1) (·.add (.cut s.2)), k.opE) := by
   unfold Dk.cutD; rw [if_neg (by rw [hof]; simp), hn]
   dsimp only
   rw [hs, if_neg (by dsimp only; omega), Int.toNat_natCast]
  obtain ⟨oc1, oc2, oc3⟩ := op_calm hW hf hR.at_ (·.add (.cut s.2)) true
  have ol := op_len k true ((j : Int) + 1) (·.add (.cut s.2))
  rw [hcut, if_neg (by rw [no_hit hf]; simp)]
  dsimp only
  generalize k.op true ((j : Int) + 1) (·.add (.cut s.2)) = k2 at oc1 oc2 oc3 ol ⊢
  have hR2 := hR.set oc3 (nd' := nd.add (.cut s.2)) hR.dir
  obtain ⟨d1, d2, d3⟩ := op_calm oc1 oc2 hR2.at_ Nd.sync false
  have ol2 := op_len k2 false ((j : Int) + 1) Nd.sync
  have hsy : (nd.add (.cut s.2)).sync = fileN (b.take s.2) := by
   unfold Nd.sync; rw [Nd.seen_add, hs]
   have := hR.dir
   unfold Nd.add fileN; simp [Stp.run, this]
  rw [sync_eq oc1.up hR2.at_, if_neg (by rw [no_hit oc2]; simp)]
  exact ⟨_, rfl, d1, d2, by rw [ol2, ol], .inl ⟨hlt, hsy ▸ hR2.set d3 (hsy ▸ rfl)⟩⟩
 ·rename_i hlt
  exact ⟨k, rfl, hW, hf, rfl, .inr ⟨hlt, rfl⟩⟩
theorem clear_step {c : Nat} {k : Dk} {file : Int} {recs : List RecM} (h : JSt C c k file recs) (hf : k.fail.is = false) : (k.clearD file recs.length).2.2.2 = 0 ∧ (k.clearD file recs.length).1.fail.is = false ∧ (k.clearD file recs.length).2.1 = 0 ∧ (k.clearD file recs.length).2.2.1 = 0 ∧ JSt C (c + 1) (k.clearD file recs.length).1 0 [] := by
 obtain ⟨hW, ⟨rfl, rfl, hr, hl⟩ | ⟨j, rfl, hR, hl⟩⟩ := h
 ·have q : k.clearD 0 ([] : List RecM).length = (k, 0, ((([] : List RecM).length : Nat) : Int), 0) := by unfold Dk.clearD; rw [if_pos rfl]
  rw [q]
  exact ⟨rfl, hf, rfl, rfl, hW, .inl ⟨rfl, rfl, hr, Nat.le_succ_of_le hl⟩⟩
 ·have hun : k.unlD 1 jName = (k.op true (((0 : Nat) : Int) + 1) (·.add (.unl jName)), k.opE) := by
   unfold Dk.unlD; rw [findR hW.up hR]; dsimp only
   rw [if_neg (by simp), node_at hR.at_]; dsimp only
   rw [hR.dir]; rfl
  obtain ⟨oc1, oc2, oc3⟩ := op_calm hW hf hR.root (·.add (.unl jName)) true
  have ol := op_len k true (((0 : Nat) : Int) + 1) (·.add (.unl jName))
  have hcl : k.clearD ((j : Int) + 1) recs.length = (if (k.unlD 1 jName).2 ≠ 0 then ((k.unlD 1 jName).1, (j : Int) + 1, (recs.length : Int), (k.unlD 1 jName).2) else (((k.unlD 1 jName).1.syncD 1).1, if ((k.unlD 1 jName).1.syncD 1).2 = 0 then 0 else (j : Int) + 1, if ((k.unlD 1 jName).1.syncD 1).2 = 0 then 0 else (recs.length : Int), ((k.unlD 1 jName).1.syncD 1).2)) := by
   unfold Dk.clearD; rw [if_neg (by omega)]
  rw [hcl, hun]
  dsimp only
  rw [if_neg (by rw [no_hit hf]; simp)]
  generalize k.op true (((0 : Nat) : Int) + 1) (·.add (.unl jName)) = k2 at oc1 oc2 oc3 ol ⊢
  have hr2 : k2.nodes[0]? = some ((rootN [(jName, j + 1)]).add (.unl jName)) := by rw [oc3, List.getElem?_set_self (List.getElem?_eq_some_iff.1 hR.root).1]
  obtain ⟨d1, d2, d3⟩ := op_calm oc1 oc2 hr2 Nd.sync false
  have ol2 := op_len k2 false (((0 : Nat) : Int) + 1) Nd.sync
  have hs := sync_eq oc1.up hr2
  rw [show (1 : Int) = ((0 : Nat) : Int) + 1 from rfl, hs]
  dsimp only
  rw [no_hit oc2, if_pos rfl, if_pos rfl]
  refine ⟨rfl, d2, rfl, rfl, d1, .inl ⟨rfl, rfl, ?_, by rw [ol2, ol]; exact hl⟩⟩
  rw [d3, List.getElem?_set_self (List.getElem?_eq_some_iff.1 hr2).1]
  simp [Nd.sync, Nd.add, Nd.seen, rootN, Stp.run, enWithout]
theorem add_calm (hC : C ≤ 1000000000) {c : Nat} {k : Dk} {file : Int} {recs : List RecM} (h : JSt C c k file recs) (hf : k.fail.is = false) (hc : c ≤ 4000) {a : RecM} (hr : RecOk a) (ha : checkM a = true) (hsz : (framesB 0 recs).length + (10 + (putB a).length) ≤ C) (ho : w64 k.ops = k.ops) :
  (k.addD file recs.length a).2.2.2 = 0 ∧ (k.addD file recs.length a).1.fail.is = false ∧ JSt C c (k.addD file recs.length a).1 (k.addD file recs.length a).2.1 (recs ++ [a]) ∧ (k.addD file recs.length a).2.2.1 = ((recs ++ [a]).length : Nat) ∧ (k.addD file recs.length a).1.ops = w64 (k.ops + if file = 0 then 4 else 2) := by
 rcases add_step hC h hc hr ha hsz ho with ⟨_, q, _⟩ | ⟨q1, q2, q3⟩
 ·rw [hf] at q; cases q
 ·exact ⟨q1, q2 hf, q3⟩
theorem open_st {c : Nat} {k : Dk} {file : Int} {recs : List RecM} (h : JSt C c k file recs) (hf : k.fail.is = false) (hg : ∀ a ∈ recs, Good a) : k.openD = (k, some (file, recs), 0) := by
 obtain ⟨hW, ⟨rfl, rfl, hr, hl⟩ | ⟨j, rfl, hR, hl⟩⟩ := h
 ·exact open0 hW.up hr
 ·obtain ⟨k', h1, _, _, _, h2⟩ := openR hW hf hR (b := framesB 0 recs) rfl
  have hsc := scan_frames recs 0 [] hg
  rw [List.append_nil, scan_nil] at hsc
  rw [hsc] at h1 h2
  rcases h2 with ⟨q, _⟩ | ⟨_, rfl⟩
  ·exact absurd q (by simp)
  ·rw [h1]; simp
end
open Go Go.RowKit
def entsV (l : List (Bs × Nat)) : List V := l.map fun e => .agg [.str e.1, .int .i64 e.2]
def stC : Stp → List V
 | .app b => [.bool false, .int .i64 0, .str b, .str [], .str [], .int .i64 0]
 | .cut n => [.bool true, .int .i64 n, .str [], .str [], .str [], .int .i64 0]
 | .link s i => [.bool false, .int .i64 0, .str [], .str [], .str s, .int .i64 i]
 | .ren f t i => [.bool false, .int .i64 0, .str [], .str f, .str t, .int .i64 i]
 | .unl s => [.bool false, .int .i64 0, .str [], .str s, .str [], .int .i64 0]
def stepsV (l : List Stp) : List V := l.map fun s => .agg (stC s)
def ndC (n : Nd) : List V := [.bool n.dir, .str n.safe.b, .slice (entsV n.safe.en), .slice (stepsV n.loose)]
def nodesV (l : List Nd) : List V := l.map fun n => .agg (ndC n)
theorem cUnits (dir : Bool) (b : Bs) (le ls : List V) (c : Bool) (n : Int) (bs fr tn : Bs) (ti : Int) : CallR Tryz.prog 105 [.agg [.bool dir, .str b, .slice le, .slice ls], .agg [.bool c, .int .i64 n, .str bs, .str fr, .str tn, .int .i64 ti]] fun rs => ∃ m : Int, rs = [.v (.int .i64 m)] ∧ m = if dir || c then 1 else (bs.length : Nat) := by
 obtain ⟨m, hm⟩ : ∃ m : Int, m = if dir || c then 1 else (bs.length : Nat) := ⟨_, rfl⟩
 refine .of _ ⟨m, rfl, hm⟩ ?_
 refine FnR.of' T_ok M_ok (fn := Tryz.f105) (by kernel_rfl) rfl rfl rfl rfl (Nat.le_of_ble_eq_true rfl) fun A hA => ?_
 cbv
 refine condI hA (fun h1 => ?_) (fun h1 => ?_)
 ·cbv
  refine retI hA ?_
  exact ⟨congrArg (fun q => some (V.int .i64 q)) (by rw [hm, h1]; rfl), trivial⟩
 ·cbv
  refine condI hA (fun h2 => ?_) (fun h2 => ?_)
  ·cbv
   refine retI hA ?_
   exact ⟨congrArg (fun q => some (V.int .i64 q)) (by rw [hm, h1, h2]; rfl), trivial⟩
  ·cbv
   refine retI hA ?_
   exact ⟨congrArg (fun q => some (V.int .i64 q)) (by rw [hm, h1, h2, hA]; rfl), trivial⟩
theorem entsV_len (l : List (Bs × Nat)) : (entsV l).length = l.length := by simp [entsV]
theorem enWithout_take {l : List (Bs × Nat)} {j : Nat} (h : j < l.length) (s : Bs) : enWithout (l.take (j + 1)) s = enWithout (l.take j) s ++ if (l[j]'h).1 = s then [] else [l[j]'h] := by
 unfold enWithout
 rw [List.take_succ_eq_append_getElem h, List.filter_append]
 congr 1
 by_cases q : (l[j]'h).1 = s <;> simp [q]
theorem zsneT {A : Prim} {P : Program} {R : List (Nat × AObj) → List D → Prop} (hA : A = std P R) {a b : Bs} (h : A.sne a b = true) : a ≠ b := by subst hA; simpa [std] using h
theorem zsneF {A : Prim} {P : Program} {R : List (Nat × AObj) → List D → Prop} (hA : A = std P R) {a b : Bs} (h : A.sne a b = false) : a = b := by subst hA; simpa [std] using h
theorem getEN {A : Prim} {P : Program} {R : List (Nat × AObj) → List D → Prop} (hA : A = std P R) {l : List (Bs × Nat)} {lv : List V} {i : Int} {j : Nat} {K : List V → Prop} (hl : lv = entsV l) (hi : i = j) (hj : j < l.length) (hK : ∀ (n : Bs) (v : Int), n = (l[j]'hj).1 → v = ((l[j]'hj).2 : Nat) → K [.str n, .int .i64 v]) : A.getA 2 lv i K :=
 getAI hA [.str (l[j]'hj).1, .int .i64 ((l[j]'hj).2 : Nat)] ⟨by omega, by rw [hl, hi, Int.toNat_natCast]; unfold entsV; rw [List.getElem?_map, List.getElem?_eq_getElem hj]; rfl, rfl⟩ (hK _ _ rfl rfl)
theorem app_es {A : Prim} {P : Program} {R : List (Nat × AObj) → List D → Prop} (hA : A = std P R) {x y : List V} {a b : List (Bs × Nat)} (hx : x = entsV a) (hy : y = entsV b) : A.app x y = entsV (a ++ b) := by
 rw [hA]; show x ++ y = _; rw [hx, hy]; simp [entsV]
theorem entsV_flat {l : List (Bs × Nat)} {lv : List V} (h : lv = entsV l) : ∀ x ∈ lv, x.flat.length = 2 := fun x hx => by
 rw [h] at hx
 obtain ⟨e, _, rfl⟩ := List.mem_map.1 hx
 rfl
theorem cWithout (l : List (Bs × Nat)) (lv : List V) (hl : lv = entsV l) (s : Bs) (hn : l.length ≤ 1000000) : CallR Tryz.prog 106 [.slice lv, .str s] fun rs => ∃ r, rs = [.v (.slice r)] ∧ r = entsV (enWithout l s) := by
 obtain ⟨r, hr⟩ : ∃ r, r = entsV (enWithout l s) := ⟨_, rfl⟩
 refine .of _ ⟨r, rfl, hr⟩ ?_
 refine FnR.of' T_ok M_ok (fn := Tryz.f106) (by kernel_rfl) rfl rfl rfl rfl (Nat.le_of_ble_eq_true rfl) fun A hA => ?_
 cbv
 refine loopF hA (ι := Int × List V) (fun q => { n := 28, sl := [(0, .v (.slice lv)), (1, .v (.str s)), (5, .own 26), (6, .v (.int .i64 q.1))], ob := [(26, .row 2 q.2 true)] }) (fun q => ∃ j : Nat, q.1 = (j : Nat) ∧ j ≤ l.length ∧ q.2 = entsV (enWithout (l.take j) s)) (fun q => l.length - q.1.toNat) (_, _) ((weak_nils _ 5 26 2 true rfl).trans (weakI rfl ⟨rfl, rfl, rfl, rfl, trivial⟩ ⟨rfl, trivial⟩)) ⟨0, rfl, Nat.zero_le _, rfl⟩ ?_
 rintro ⟨i, x⟩ ⟨j, hi, hj, hx⟩
 dsimp only at hi hx
 have hll : lv.length = l.length := by rw [hl, entsV_len]
 cbv
 refine condI hA (fun hc => ?_) (fun hc => ?_)
 ·have hjl := ltL hA (natEq hi) hll hc
  have hkt := enWithout_take hjl s
  have hB : (l.take j).length ≤ 1000000 := by rw [List.length_take]; omega
  have hxl : (enWithout (l.take j) s).length ≤ 1000000 := Nat.le_trans (List.length_filter_le _ _) hB
  cbv
  refine getEN hA hl (natEq hi) hjl ?_
  rintro nm v hnm hv
  cbv
  refine condI hA (fun h1 => ?_) (fun h1 => ?_)
  ·cbv
   refine getEN hA hl (natEq hi) hjl ?_
   rintro n2 v2 hn2 hv2
   have hnx : ¬ (l[j]'hjl).1 = s := by rw [← hnm]; exact zsneT hA h1
   have hg1 : [V.agg [.str n2, .int .i64 v2]] = entsV [l[j]'hjl] := by rw [hn2, hv2]; rfl
   cbv
   refine roomI hA (by rw [hx, entsV_len]; simp; omega) ?_
   cbv
   exact ⟨(_, _), weakI rfl ⟨rfl, rfl, rfl, rfl, trivial⟩ ⟨rfl, trivial⟩, ⟨j + 1, upI hA (natEq hi) (by omega), hjl, (app_es hA hx hg1).trans (by rw [hkt, if_neg hnx])⟩, upM hA (natEq hi) hjl (by omega)⟩
  ·have hnx : (l[j]'hjl).1 = s := by rw [← hnm]; exact zsneF hA h1
   cbv
   exact ⟨(_, _), weakI rfl ⟨rfl, rfl, rfl, rfl, trivial⟩ ⟨rfl, trivial⟩, ⟨j + 1, upI hA (natEq hi) (by omega), hjl, hx.trans (by rw [hkt, if_pos hnx, List.append_nil])⟩, upM hA (natEq hi) hjl (by omega)⟩
 ·have hjl := geL hA (natEq hi) hll hc hj
  cbv
  subst hjl
  rw [List.take_length] at hx
  refine retI hA ?_
  exact ⟨congrArg (fun q => some (V.slice q)) (hx.trans hr.symm), trivial⟩
open Go Go.RowKit
theorem weak_soft (S : St) (ids : List Nat) : Weak S { S with ob := softOb S.ob ids } := fun G E ok a w c => by
 obtain ⟨ok', c'⟩ := c.softOb ids
 exact ⟨E, ok', c'⟩
theorem weak_toV (S : St) (t : Nat) {d : D} {x : V} (ht : S.get t = d) (hx : toV S.ob d = some x) : Weak S (S.put (some t) (.v x)) := fun G E ok a w c => by
 have h1 := c.slot t
 rw [ht] at h1
 exact ⟨E, ok, c.refine (.v _ _ (toV_sound (fun id o h => c.obj id o h) _ _ _ hx h1))⟩
open Go Go.RowKit
def Stp.cm (dir : Bool) : Stp → Prop
 | .app _ => dir = false
 | .cut _ => dir = false
 | .link s _ => dir = true ∧ s ≠ []
 | .ren f t _ => dir = true ∧ f ≠ [] ∧ t ≠ []
 | .unl s => dir = true ∧ s ≠ []
theorem lenZ {A : Prim} {P : Program} {R : List (Nat × AObj) → List D → Prop} (hA : A = std P R) (s : Bs) : A.lenS s = (s.length : Nat) := by rw [hA]; rfl
theorem lt_of_lt {a b : Int} {m n : Nat} (ha : a = m) (hb : b = n) (h : a < b) : m < n := by omega
theorem ge_of_lt {a b : Int} {m n : Nat} (ha : a = m) (hb : b = n) (h : ¬ a < b) : n ≤ m := by omega
theorem le_of_le {b : Int} {n : Nat} (h : 1 ≤ b) (hb : b = n) : 1 ≤ n := by omega
theorem le_of_le' {b : Int} {n : Nat} (h : 1 ≤ n) (hb : b = n) : 1 ≤ b := by omega
theorem u8_of {c : Int} {x y : UInt8} (hc : c = (x.toNat : Nat)) (h : c = (y.toNat : Nat)) : x = y := UInt8.toNat_inj.1 (by omega)
theorem name_bad {s : Bs} {c : UInt8} (hm : c ∈ s) (h : c = 0 ∨ c = 47) : false = nameOk s := by
 unfold nameOk
 rcases h with rfl | rfl
 ·rw [show s.contains 0 = true from by simpa using hm]; simp
 ·rw [show s.contains 47 = true from by simpa using hm]; simp
theorem name_good {s : Bs} (h : ∀ x ∈ s, x ≠ 0 ∧ x ≠ 47) : nameOk s = (decide (1 ≤ s.length) && decide (s.length ≤ 64)) := by
 unfold nameOk
 have h0 : s.contains 0 = false := by simpa using fun q => (h 0 q).1 rfl
 have h4 : s.contains 47 = false := by simpa using fun q => (h 47 q).2 rfl
 rw [h0, h4]
 cases s <;> simp
theorem le_dec (s : Bs) (n : Nat) : decide (s.length ≤ n) = decide ((s.length : Int) ≤ (n : Int)) := by
 rw [Bool.eq_iff_iff]; simp
theorem cName13 (s : Bs) (hs : s.length ≤ 140737488355328) : CallR Tryz.prog 112 [.str s] fun rs => ∃ b : Bool, rs = [.v (.bool b)] ∧ b = nameOk s := by
 obtain ⟨b, hb⟩ : ∃ b, b = nameOk s := ⟨_, rfl⟩
 refine .of _ ⟨b, rfl, hb⟩ ?_
 refine FnR.of' T_ok M_ok (fn := Tryz.f112) (by kernel_rfl) rfl rfl rfl rfl (Nat.le_of_ble_eq_true rfl) fun A hA => ?_
 cbv
 refine loopF hA (ι := Int) (fun q => { n := 28, sl := [(0, .v (.str s)), (3, .v (.int .i64 q))], ob := [] }) (fun q => ∃ j : Nat, q = (j : Nat) ∧ j ≤ s.length ∧ ∀ x ∈ s.take j, x ≠ 0 ∧ x ≠ 47) (fun q => s.length - q.toNat) _ (weakI rfl ⟨rfl, rfl, trivial⟩ trivial) ⟨0, rfl, Nat.zero_le _, by simp⟩ ?_
 rintro i ⟨j, hi, hj, hx⟩
 cbv
 refine condI hA (fun hc => ?_) (fun hc => ?_)
 ·have hjl : j < s.length := lt_of_lt (natEq hi) (lenZ hA s) (zltT hA hc)
  have hget : s[i.toNat]? = some (s[j]'hjl) := by rw [natEq hi, Int.toNat_natCast, List.getElem?_eq_getElem hjl]
  have hbad : (s[j]'hjl = 0 ∨ s[j]'hjl = 47) → b = false := fun q => by
   rw [hb]; exact (name_bad (List.getElem_mem hjl) q).symm
  cbv
  refine getCN hA ⟨by rw [natEq hi]; exact Int.natCast_nonneg _, hget⟩ ?_
  rintro c0 hc0
  cbv
  refine condI hA (fun h1 => ?_) (fun h1 => ?_)
  ·have h1 : s[j]'hjl = 0 := u8_of hc0 (zeqT hA h1)
   cbv
   refine retI hA ?_
   exact ⟨congrArg (fun q => some (V.bool q)) (hbad (.inl h1)).symm, trivial⟩
  ·have h1 : s[j]'hjl ≠ 0 := fun q => zeqF hA h1 (hc0.trans (by rw [q]; rfl))
   cbv
   refine getCN hA ⟨by rw [natEq hi]; exact Int.natCast_nonneg _, hget⟩ ?_
   rintro c1 hc1
   cbv
   refine condI hA (fun h2 => ?_) (fun h2 => ?_)
   ·have h2 : s[j]'hjl = 47 := u8_of hc1 (zeqT hA h2)
    cbv
    refine retI hA ?_
    exact ⟨congrArg (fun q => some (V.bool q)) (hbad (.inr h2)).symm, trivial⟩
   ·have h2 : s[j]'hjl ≠ 47 := fun q => zeqF hA h2 (hc1.trans (by rw [q]; rfl))
    cbv
    refine ⟨_, weakI rfl ⟨rfl, rfl, trivial⟩ trivial, ⟨j + 1, upI hA (natEq hi) (by omega), hjl, fun x hxm => ?_⟩, upM hA (natEq hi) hjl (by omega)⟩
    rw [List.take_succ_eq_append_getElem hjl] at hxm
    rcases List.mem_append.1 hxm with q | q
    ·exact hx x q
    ·rw [List.mem_singleton.1 q]; exact ⟨h1, h2⟩
 ·have hjl : j = s.length := Nat.le_antisymm hj (ge_of_lt (natEq hi) (lenZ hA s) (zltF hA hc))
  have hok : b = (decide (1 ≤ s.length) && decide (s.length ≤ 64)) := by rw [hb]; exact name_good (by rw [hjl, List.take_length] at hx; exact hx)
  cbv
  refine condI hA (fun h1 => ?_) (fun h1 => ?_)
  ·have h1 : 1 ≤ s.length := le_of_le (zleT hA h1) (lenZ hA s)
   cbv
   refine retI hA ?_
   exact ⟨congrArg (fun q => some (V.bool q)) (by rw [hok, decide_eq_true h1, Bool.true_and, hA]; exact (le_dec s 64).symm), trivial⟩
  ·have h1 : ¬ 1 ≤ s.length := fun q => zleF hA h1 (le_of_le' q (lenZ hA s))
   cbv
   refine retI hA ?_
   exact ⟨congrArg (fun q => some (V.bool q)) (by rw [hok, decide_eq_false h1]; rfl), trivial⟩
theorem stepsV_len (l : List Stp) : (stepsV l).length = l.length := by simp [stepsV]
theorem stC_open (s : Stp) : ∃ (c : Bool) (n : Int) (bs fr tn : Bs) (ti : Int), stC s = [.bool c, .int .i64 n, .str bs, .str fr, .str tn, .int .i64 ti] := by cases s <;> exact ⟨_, _, _, _, _, _, rfl⟩
theorem getST {A : Prim} {P : Program} {R : List (Nat × AObj) → List D → Prop} (hA : A = std P R) {l : List Stp} {lv : List V} {i : Int} {j : Nat} {K : List V → Prop} (hl : lv = stepsV l) (hi : i = j) (hj : j < l.length) (hK : ∀ (c : Bool) (n : Int) (bs fr tn : Bs) (ti : Int), stC (l[j]'hj) = [.bool c, .int .i64 n, .str bs, .str fr, .str tn, .int .i64 ti] → K [.bool c, .int .i64 n, .str bs, .str fr, .str tn, .int .i64 ti]) : A.getA 6 lv i K := by
 obtain ⟨c, n, bs, fr, tn, ti, h⟩ := stC_open (l[j]'hj)
 exact getAI hA _ ⟨by omega, by rw [hl, hi, Int.toNat_natCast]; unfold stepsV; rw [List.getElem?_map, List.getElem?_eq_getElem hj, Option.map_some, h], rfl⟩ (hK _ _ _ _ _ _ h)
theorem units_parts {s : Stp} {dir : Bool} {c : Bool} {n : Int} {bs fr tn : Bs} {ti : Int} (h : stC s = [.bool c, .int .i64 n, .str bs, .str fr, .str tn, .int .i64 ti]) (hc : s.cm dir) : ((if dir || c then 1 else bs.length : Nat) : Int) = (s.parts : Nat) := by
 cases s <;> simp [stC] at h <;> obtain ⟨rfl, rfl, rfl, rfl, rfl, rfl⟩ := h <;> simp [Stp.cm] at hc <;> simp [Stp.parts, hc]
theorem cAll (nd : Nd) (le ls : List V) (hls : ls = stepsV nd.loose) (hn : nd.loose.length ≤ 1000000) (hp : nd.parts ≤ 1000000000) (hc : ∀ s ∈ nd.loose, s.cm nd.dir) : CallR Tryz.prog 61 [.agg [.bool nd.dir, .str nd.safe.b, .slice le, .slice ls]] fun rs => ∃ m : Int, rs = [.v (.int .i64 m)] ∧ m = (nd.parts : Nat) := by
 obtain ⟨m, hm⟩ : ∃ m : Int, m = (nd.parts : Nat) := ⟨_, rfl⟩
 refine .of _ ⟨m, rfl, hm⟩ ?_
 refine FnR.of' T_ok M_ok (fn := Tryz.f61) (by kernel_rfl) rfl rfl rfl rfl (Nat.le_of_ble_eq_true rfl) fun A hA => ?_
 cbv
 refine loopF hA (ι := Int × Int) (fun q => { n := 22, sl := [(1, .ptr 1 0), (3, .v (.int .i64 q.2)), (4, .v (.int .i64 q.1))], ob := [(1, .box [.v (.bool nd.dir), .v (.str nd.safe.b), .v (.slice le), .v (.slice ls)])] }) (fun q => ∃ j : Nat, q.1 = (j : Nat) ∧ j ≤ nd.loose.length ∧ q.2 = (pSum nd.loose j : Nat)) (fun q => nd.loose.length - q.1.toNat) (_, _) (weakI rfl ⟨rfl, rfl, rfl, trivial⟩ ⟨rfl, trivial⟩) ⟨0, rfl, Nat.zero_le _, by simp [pSum]⟩ ?_
 rintro ⟨i, x⟩ ⟨j, hi, hj, hx⟩
 dsimp only at hi hx
 have hll : ls.length = nd.loose.length := by rw [hls, stepsV_len]
 cbv
 refine condI hA (fun hcc => ?_) (fun hcc => ?_)
 ·have hjl := ltL hA (natEq hi) hll hcc
  have hps := pSum_succ (List.getElem?_eq_getElem hjl)
  have hpl := pSum_le nd (j + 1)
  cbv
  refine chkI hA (by kernel_rfl) ?_
  cbv
  refine getST hA hls (natEq hi) hjl ?_
  rintro c n bs fr tn ti hst
  cbv
  refine callI hA (cUnits nd.dir nd.safe.b le ls c n bs fr tn ti) ?_
  intro rs_ h_
  obtain ⟨u, q_1, hu⟩ := h_
  subst q_1
  cbv
  have hu : u = ((nd.loose[j]'hjl).parts : Nat) := hu.trans (units_parts hst (hc _ (List.getElem_mem hjl)))
  exact ⟨(_, _), weakI rfl ⟨rfl, rfl, rfl, trivial⟩ ⟨rfl, trivial⟩, ⟨j + 1, upI hA (natEq hi) (by omega), hjl, (zadd hA x u).trans (by rw [natEq hx, natEq hu, w64_add rfl rfl (by omega), hps])⟩, upM hA (natEq hi) hjl (by omega)⟩
 ·have hjl := geL hA (natEq hi) hll hcc hj
  cbv
  refine retI hA ?_
  exact ⟨congrArg (fun q => some (V.int .i64 q)) ((natEq hx).trans (by rw [hm, hjl, pSum_all])), trivial⟩
theorem sltT {A : Prim} {P : Program} {R : List (Nat × AObj) → List D → Prop} (hA : A = std P R) {a b : Bs} (h : A.slt a b = true) : lt a b = true := by subst hA; exact h
theorem sltF {A : Prim} {P : Program} {R : List (Nat × AObj) → List D → Prop} (hA : A = std P R) {a b : Bs} (h : A.slt a b = false) : ¬ lt a b = true := by subst hA; exact fun q => by rw [show lt a b = false from h] at q; cases q
theorem ins_at {e : Bs × Nat} : ∀ (w : List (Bs × Nat)) (m : Nat), (∀ x ∈ w.take m, lt x.1 e.1 = true) → (∀ h : m < w.length, ¬ lt (w[m]'h).1 e.1 = true) → m ≤ w.length → enIns w e = w.take m ++ e :: w.drop m
 | [], 0, _, _, _ => rfl
 | y :: w, 0, _, h, _ => by
  have := h (Nat.succ_pos _)
  unfold enIns; rw [if_neg (by simpa using this)]; rfl
 | y :: w, m + 1, h1, h2, h3 => by
  unfold enIns
  rw [if_pos (h1 y (by simp)), ins_at w m (fun x hx => h1 x (by simp [hx])) (fun h => by simpa using h2 (Nat.succ_lt_succ h)) (Nat.le_of_succ_le_succ h3)]
  rfl
theorem cut_es {l : List V} {w : List (Bs × Nat)} {x : Int} {m : Nat} (hl : l = entsV w) (hx : x = (m : Nat)) : (l.take x.toNat).drop (0 : Int).toNat = entsV (w.take m) := by
 rw [hl, hx, Int.toNat_natCast]; simp [entsV, List.map_take]
theorem cut_es2 {l : List V} {w : List (Bs × Nat)} {x y : Int} {m : Nat} (hl : l = entsV w) (hx : x = (m : Nat)) (hy : y = (w.length : Nat)) : (l.take y.toNat).drop x.toNat = entsV (w.drop m) := by
 rw [hl, hx, hy, Int.toNat_natCast, Int.toNat_natCast, ← entsV_len, List.take_length]; simp [entsV, List.map_drop]
theorem cWith (l : List (Bs × Nat)) (lv : List V) (hl : lv = entsV l) (s : Bs) (i : Int) (j : Nat) (hi : i = (j : Nat)) (hn : l.length ≤ 1000000) : CallR Tryz.prog 107 [.slice lv, .agg [.str s, .int .i64 i]] fun rs => ∃ r, rs = [.v (.slice r)] ∧ r = entsV (enWith l s j) := by
 obtain ⟨r, hr⟩ : ∃ r, r = entsV (enWith l s j) := ⟨_, rfl⟩
 refine .of _ ⟨r, rfl, hr⟩ ?_
 have hwo := cWithout l lv hl s hn
 obtain ⟨w, hw⟩ : ∃ w, w = enWithout l s := ⟨_, rfl⟩
 rw [← hw] at hwo
 have hwl : w.length ≤ 1000000 := by rw [hw]; exact Nat.le_trans (List.length_filter_le _ _) hn
 refine FnR.of' T_ok M_ok (fn := Tryz.f107) (by kernel_rfl) rfl rfl rfl rfl (Nat.le_of_ble_eq_true rfl) fun A hA => ?_
 cbv
 refine callI hA (hwo) ?_
 intro rs_ h_
 obtain ⟨wv, q_1, hwv⟩ := h_
 subst q_1
 cbv
 refine loopF hA (ι := Int) (fun q => { n := 40, sl := [(0, .v (.slice wv)), (3, .v (.ref [.str s, .int .i64 i])), (4, .nils), (5, .v (.int .i64 q))], ob := [] }) (fun q => ∃ m : Nat, q = (m : Nat) ∧ m ≤ w.length ∧ ∀ x ∈ w.take m, lt x.1 s = true) (fun q => w.length - q.toNat) _ ((weak_soft _ [3]).trans ((weak_toV _ 3 (d := .ptr 3 0) (x := .ref [.str s, .int .i64 i]) rfl rfl).trans (weakI rfl ⟨rfl, rfl, rfl, rfl, trivial⟩ trivial))) ⟨0, rfl, Nat.zero_le _, by simp⟩ ?_
 rintro x ⟨m, hx, hm, hlt⟩
 have hll : wv.length = w.length := by rw [hwv, entsV_len]
 cbv
 refine chkI hA (by kernel_rfl) ?_
 cbv
 refine condI hA (fun hc => ?_) (fun hc => ?_)
 ·have hml := ltL hA (natEq hx) hll hc
  cbv
  refine getEN hA hwv (natEq hx) hml ?_
  rintro nm v hnm hv
  cbv
  refine condI hA (fun h2 => ?_) (fun h2 => ?_)
  ·have h2 : lt (w[m]'hml).1 s = true := by rw [← hnm]; exact sltT hA h2
   cbv
   refine ⟨_, weakI rfl ⟨rfl, rfl, rfl, rfl, trivial⟩ trivial, ⟨m + 1, upI hA (natEq hx) (by omega), hml, fun y hy => ?_⟩, upM hA (natEq hx) hml (by omega)⟩
   rw [List.take_succ_eq_append_getElem hml] at hy
   rcases List.mem_append.1 hy with q | q
   ·exact hlt y q
   ·rw [List.mem_singleton.1 q]; exact h2
  ·have h2 : ¬ lt (w[m]'hml).1 s = true := by rw [← hnm]; exact sltF hA h2
   have hstop : ∀ h : m < w.length, ¬ lt (w[m]'h).1 s = true := fun _ => h2
   have hb1 : (0 : Int) ≤ 0 ∧ 0 ≤ x ∧ x ≤ wv.length := by rw [natEq hx, hll]; omega
   cbv
   refine chkI hA (by kernel_rfl) ?_
   cbv
   refine sizedI hA (entsV_flat hwv) ?_
   refine subLN hA hb1 ?_
   rintro r1 hr1
   have hr1 : r1 = entsV (w.take m) := hr1.trans (cut_es hwv (natEq hx))
   cbv
   refine sizedI hA (entsV_flat hr1) ?_
   cbv
   have hr1l : r1.length ≤ 1000000 := by rw [hr1, entsV_len, List.length_take]; omega
   refine roomI hA ⟨by simp only [List.length_nil]; omega, by decide⟩ ?_
   cbv
   refine sizedI hA (by simp [V.flat]) ?_
   cbv
   have ha1 : A.app [] r1 = entsV (w.take m) := by rw [app_es hA (x := []) (a := []) rfl hr1]; rfl
   have hl1 : ((A.app [] r1).length + 1) * 24 ≤ 140737488355328 := by rw [ha1, entsV_len, List.length_take]; omega
   refine roomI hA ⟨hl1, by decide⟩ ?_
   cbv
   have hb2 : (0 : Int) ≤ x ∧ x ≤ A.lenL wv ∧ A.lenL wv ≤ wv.length := by rw [natEq hx, hA]; show _ ∧ _ ≤ ((wv.length : Nat) : Int) ∧ ((wv.length : Nat) : Int) ≤ _; rw [hll]; omega
   refine sizedI hA (entsV_flat hwv) ?_
   refine subLN hA hb2 ?_
   rintro r2 hr2
   have hr2 : r2 = entsV (w.drop m) := hr2.trans (cut_es2 hwv (natEq hx) (by rw [hA]; show ((wv.length : Nat) : Int) = _; rw [hll]))
   have ha2 : A.app (A.app [] r1) [.agg [.str s, .int .i64 i]] = entsV (w.take m ++ [(s, j)]) := app_es hA ha1 (by rw [natEq hi]; rfl)
   have hl2 : ((A.app (A.app [] r1) [.agg [.str s, .int .i64 i]]).length + r2.length) * 24 ≤ 140737488355328 := by
    rw [ha2, hr2, entsV_len, entsV_len, List.length_append, List.length_take, List.length_drop]; simp only [List.length_cons, List.length_nil]; omega
   cbv
   refine sizedI hA (entsV_flat hr2) ?_
   cbv
   refine roomI hA ⟨hl2, by decide⟩ ?_
   cbv
   have hfin : A.app (A.app (A.app [] r1) [.agg [.str s, .int .i64 i]]) r2 = r := (app_es hA ha2 hr2).trans (by rw [hr]; unfold enWith; rw [← hw, ins_at w m hlt hstop hm, List.append_assoc]; rfl)
   refine retI hA ?_
   exact ⟨congrArg (fun q => some (V.slice q)) hfin, trivial⟩
 ·have hml := geL hA (natEq hx) hll hc hm
  have hstop : ∀ h : m < w.length, ¬ lt (w[m]'h).1 s = true := fun h => absurd h (by omega)
  have hb1 : (0 : Int) ≤ 0 ∧ 0 ≤ x ∧ x ≤ wv.length := by rw [natEq hx, hll]; omega
  cbv
  refine chkI hA (by kernel_rfl) ?_
  cbv
  refine sizedI hA (entsV_flat hwv) ?_
  refine subLN hA hb1 ?_
  rintro r1 hr1
  have hr1 : r1 = entsV (w.take m) := hr1.trans (cut_es hwv (natEq hx))
  cbv
  refine sizedI hA (entsV_flat hr1) ?_
  cbv
  have hr1l : r1.length ≤ 1000000 := by rw [hr1, entsV_len, List.length_take]; omega
  refine roomI hA ⟨by simp only [List.length_nil]; omega, by decide⟩ ?_
  cbv
  refine sizedI hA (by simp [V.flat]) ?_
  cbv
  have ha1 : A.app [] r1 = entsV (w.take m) := by rw [app_es hA (x := []) (a := []) rfl hr1]; rfl
  have hl1 : ((A.app [] r1).length + 1) * 24 ≤ 140737488355328 := by rw [ha1, entsV_len, List.length_take]; omega
  refine roomI hA ⟨hl1, by decide⟩ ?_
  cbv
  have hb2 : (0 : Int) ≤ x ∧ x ≤ A.lenL wv ∧ A.lenL wv ≤ wv.length := by rw [natEq hx, hA]; show _ ∧ _ ≤ ((wv.length : Nat) : Int) ∧ ((wv.length : Nat) : Int) ≤ _; rw [hll]; omega
  refine sizedI hA (entsV_flat hwv) ?_
  refine subLN hA hb2 ?_
  rintro r2 hr2
  have hr2 : r2 = entsV (w.drop m) := hr2.trans (cut_es2 hwv (natEq hx) (by rw [hA]; show ((wv.length : Nat) : Int) = _; rw [hll]))
  have ha2 : A.app (A.app [] r1) [.agg [.str s, .int .i64 i]] = entsV (w.take m ++ [(s, j)]) := app_es hA ha1 (by rw [natEq hi]; rfl)
  have hl2 : ((A.app (A.app [] r1) [.agg [.str s, .int .i64 i]]).length + r2.length) * 24 ≤ 140737488355328 := by
   rw [ha2, hr2, entsV_len, entsV_len, List.length_append, List.length_take, List.length_drop]; simp only [List.length_cons, List.length_nil]; omega
  cbv
  refine sizedI hA (entsV_flat hr2) ?_
  cbv
  refine roomI hA ⟨hl2, by decide⟩ ?_
  cbv
  have hfin : A.app (A.app (A.app [] r1) [.agg [.str s, .int .i64 i]]) r2 = r := (app_es hA ha2 hr2).trans (by rw [hr]; unfold enWith; rw [← hw, ins_at w m hlt hstop hm, List.append_assoc]; rfl)
  refine retI hA ?_
  exact ⟨congrArg (fun q => some (V.slice q)) hfin, trivial⟩
end Go.Proofs.YthioccbgjkbmdaaGreat.AM
