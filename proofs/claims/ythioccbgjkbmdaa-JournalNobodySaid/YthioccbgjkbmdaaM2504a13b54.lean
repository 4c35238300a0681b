/-
  Plain law: Add, Open and Clear of a journal.
-/
import Derived.Test.YthioccbgjkbmdaaM241004659b
import Derived.Test.YthioccbgjkbmdaaRows
set_option linter.unusedVariables false
set_option linter.unusedSimpArgs false
namespace Go.Proofs.Ythioccbgjkbmdaa.AM
open Go Go.RowKit
set_option maxRecDepth 100000
set_option maxHeartbeats 4000000

section
variable {C : Nat}
theorem w64_add1 (a : Int) : w64 (w64 a + 1) = w64 (a + 1) := by
  rw [w64_def (w64 a + 1), w64_def (a + 1), w64_def a]
  split <;> omega
theorem w64_addg (a b : Int) : w64 (w64 a + b) = w64 (a + b) := by
  rw [w64_def (w64 a + b), w64_def (a + b), w64_def a]
  split <;> omega
theorem full_off {k : Dk} (h : k.full.is = false) : k.full.hit = false ∧ ({ k with full := k.full.next } : Dk) = k := by
  have : k.full.next = k.full := by unfold Told.next; rw [h]; rfl
  exact ⟨by unfold Told.hit; rw [h]; rfl, by rw [this]⟩
theorem reach_JR {k : Dk} {j : Nat} {nd : Nd} (h : JR k j nd) (w : Nat → Nat) : k.reach w k.nodes.length 0 = w (j + 1) := by
  obtain ⟨n, hn⟩ : ∃ n, k.nodes.length = n + 1 := ⟨k.nodes.length - 1, by have := (List.getElem?_eq_some_iff.1 h.root).1; omega⟩
  rw [hn]
  unfold Dk.reach
  rw [h.root]
  have : k.isD (j + 1) = false := by unfold Dk.isD; rw [show j + 1 - 1 = j from rfl, h.at_]; exact h.dir
  simp [rootN, Nd.seen, this]
theorem room_JR (hC : C ≤ 1000000000) {k : Dk} (hW : JW C k) {j : Nat} {nd : Nd} (h : JR k j nd) (m : Nat) (hm : nd.seen.b.length + m ≤ C) : ¬ k.room ((j : Int) + 1) m < 0 := by
  unfold Dk.room
  rw [reach_JR h, hW.cap]
  have : appW k ((j : Int) + 1) m (j + 1) = nd.seen.b.length + m := by
    unfold appW Dk.wt; rw [show j + 1 - 1 = j from rfl, h.at_, if_pos (by omega)]
  rw [this, w64_id (by omega)]
  omega
theorem app_eq (hC : C ≤ 1000000000) {k : Dk} (hW : JW C k) {j : Nat} {nd : Nd} (h : JR k j nd) (fr : Bs) (hne : fr ≠ []) (hm : nd.seen.b.length + fr.length ≤ C) : k.appD ((j : Int) + 1) fr = (k.op true ((j : Int) + 1) (·.add (.app fr)), k.opE) := by
  obtain ⟨q1, q2⟩ := full_off hW.full
  unfold Dk.appD
  rw [ofE_of hW.up (node_at h.at_), if_pos h.dir, if_neg (by simp), if_neg (room_JR hC hW h fr.length hm)]
  dsimp only
  rw [q1, if_neg (by simp), q2]
  simp only [hne, if_false]
theorem sync_eq {k : Dk} (hu : k.down = false) {i : Nat} {nd : Nd} (h : k.nodes[i]? = some nd) : k.syncD ((i : Int) + 1) = (k.op false ((i : Int) + 1) Nd.sync, k.opE) := by
  unfold Dk.syncD; rw [anyE_of hu (node_at h), if_neg (by simp)]
theorem make_eq {k : Dk} (hW : JW C k) (h : k.nodes[0]? = some (rootN [])) (hl : k.nodes.length < 4096) : k.makeD 1 jName false = (if k.does then (k.tick true).mk1 0 (rootN []) jName false else k.tick true, if k.opE = 0 then ((k.nodes.length + 1 : Nat) : Int) else 0, k.opE) := by
  obtain ⟨q1, q2⟩ := full_off hW.full
  unfold Dk.makeD
  rw [ofE_of hW.up (node_one h), if_neg (by simp [rootN]), if_neg (by decide), node_one h]
  dsimp only
  rw [show enGet (rootN []).seen.en jName = none from rfl, if_neg (by simp), if_neg (by omega), q1, if_neg (by simp), q2]
  rfl
/-- A journal's disk: at most so many nodes, the file, its records. -/
def JSt (C c : Nat) (k : Dk) (file : Int) (recs : List RecM) : Prop :=
  JW C k ∧ ((file = 0 ∧ recs = [] ∧ k.nodes[0]? = some (rootN []) ∧ k.nodes.length ≤ c) ∨ ∃ j : Nat, file = (j : Int) + 1 ∧ JR k j (fileN (framesB 0 recs)) ∧ k.nodes.length ≤ c + 1)
theorem op_len (k : Dk) (c : Bool) (i : Int) (f : Nd → Nd) : (k.op c i f).nodes.length = k.nodes.length := by
  unfold Dk.op; split
  · split
    · simp [Dk.set, Dk.tick]
    · rfl
  · rfl
theorem begin_step {c : Nat} {k : Dk} {file : Int} {recs : List RecM} (h : JSt C c k file recs) (hc : c ≤ 4000) (ho : w64 k.ops = k.ops) (late : RecM) :
    ((k.beginD file).2.2 = 12 ∧ k.fail.is = true ∧ (k.beginD file).1.down = true ∧ JX C (k.beginD file).1 recs late) ∨
    ((k.beginD file).2.2 = 0 ∧ JW C (k.beginD file).1 ∧ (k.fail.is = false → (k.beginD file).1.fail.is = false) ∧ ∃ j : Nat, (k.beginD file).2.1 = (j : Int) + 1 ∧ JR (k.beginD file).1 j (fileN (framesB 0 recs)) ∧ (k.beginD file).1.nodes.length ≤ c + 1 ∧ (k.beginD file).1.ops = w64 (k.ops + if file = 0 then 2 else 0)) := by
  obtain ⟨hW, ⟨rfl, rfl, hr, hl⟩ | ⟨j, rfl, hR, hl⟩⟩ := h
  · have hm := make_eq hW hr (by omega)
    have hlen1 : 1 ≤ k.nodes.length := (List.getElem?_eq_some_iff.1 hr).1
    have hmk : ∀ q : Dk, q.nodes = k.nodes → (q.mk1 0 (rootN []) jName false).nodes = (k.nodes ++ [fileN []]).set 0 ((rootN []).add (.link jName (k.nodes.length + 1))) := fun q hq => by unfold Dk.mk1; rw [hq]; rfl
    have g0 : ∀ n : Nd, ((k.nodes ++ [fileN []]).set 0 n)[0]? = some n := fun n => by rw [List.getElem?_set_self (by simp)]
    have g1 : ∀ n : Nd, ((k.nodes ++ [fileN []]).set 0 n)[k.nodes.length]? = some (fileN []) := fun n => by rw [List.getElem?_set_ne (by omega), List.getElem?_append_right (Nat.le_refl _)]; simp
    cases hh : k.fail.hit with
    | true =>
      have hE : k.opE = 12 := by simp [Dk.opE, hh]
      have hf : k.fail.is = true := by unfold Told.hit at hh; cases q : k.fail.is <;> simp [q] at hh ⊢
      have q : k.beginD 0 = ((k.makeD 1 jName false).1, 0, (k.makeD 1 jName false).2.2) := by unfold Dk.beginD; rw [if_neg (by simp)]; dsimp only; rw [if_pos (by rw [hm]; dsimp only; rw [hE]; decide)]
      rw [q, hm]
      dsimp only
      refine .inl ⟨hE, hf, ?_, ?_⟩
      · split <;> simp [Dk.mk1, Dk.tick, hh]
      · split
        · exact jx_link (by simp [Dk.mk1, Dk.tick, hW.cap]) hlen1 (by rw [hmk (k.tick true) rfl]; exact g0 _) (by rw [hmk (k.tick true) rfl]; exact g1 _) late
        · exact jx_root (by simp [Dk.tick, hW.cap]) (by exact hr) late
    | false =>
      have hE : k.opE = 0 := by simp [Dk.opE, hh]
      have hd : k.does = true := by simp [Dk.does, hh]
      rw [if_pos hd, if_pos hE, hE] at hm
      obtain ⟨k1, hk1⟩ : ∃ q, q = (k.tick true).mk1 0 (rootN []) jName false := ⟨_, rfl⟩
      rw [← hk1] at hm
      have n1 : k1.nodes = (k.nodes ++ [fileN []]).set 0 ((rootN []).add (.link jName (k.nodes.length + 1))) := by rw [hk1]; exact hmk _ rfl
      have hW1 : JW C k1 := by rw [hk1]; exact ⟨by simp [Dk.mk1, Dk.tick, hh, hW.up], by simp [Dk.mk1, Dk.tick, hW.cap], by simp [Dk.mk1, Dk.tick, hW.full]⟩
      have hf1 : k.fail.is = false → k1.fail.is = false := fun q => by rw [hk1]; simp [Dk.mk1, Dk.tick, Told.next, q]
      have hf1' : k1.fail.is = true → k.fail.is = true := fun q => by
        cases q2 : k.fail.is with
        | true => rfl
        | false => rw [hf1 q2] at q; cases q
      have r0 : k1.nodes[0]? = some ((rootN []).add (.link jName (k.nodes.length + 1))) := by rw [n1]; exact g0 _
      have r1 : k1.nodes[k.nodes.length]? = some (fileN []) := by rw [n1]; exact g1 _
      have q : k.beginD 0 = ((k1.syncD 1).1, ((k.nodes.length + 1 : Nat) : Int), (k1.syncD 1).2) := by unfold Dk.beginD; rw [if_neg (by simp)]; dsimp only; rw [hm]; dsimp only; rw [if_neg (by simp)]
      have o1 : k1.ops = w64 (k.ops + 1) := by rw [hk1]; rfl
      have hs := sync_eq hW1.up r0
      have st := op_step hW1.up r0 Nd.sync false
      have hle := op_len k1 false (((0 : Nat) : Int) + 1) Nd.sync
      rw [q, show (1 : Int) = ((0 : Nat) : Int) + 1 from rfl, hs]
      dsimp only
      have hsy : ((rootN []).add (.link jName (k.nodes.length + 1))).sync = rootN [(jName, k.nodes.length + 1)] := rfl
      rcases st with ⟨s1, s2, s3, s4, s5⟩ | ⟨s1, s2, s3, s4, s5, s6, s7⟩
      · refine .inl ⟨s1, hf1' s2, s3, ?_⟩
        rcases s4 with s4 | s4
        · exact jx_link (s5.trans hW1.cap) hlen1 (by rw [s4]; exact r0) (by rw [s4]; exact r1) late
        · refine jx_file (nd := fileN []) (s5.trans hW1.cap) ⟨by rw [s4, List.getElem?_set_self (List.getElem?_eq_some_iff.1 r0).1]; rfl, hlen1, by rw [s4, List.getElem?_set_ne (by omega)]; exact r1, rfl⟩ [] late (.inl rfl)
      · refine .inr ⟨s1, hW1.op s2 s4 s5, fun q => s6 (hf1 q), k.nodes.length, by omega, ⟨by rw [s3, List.getElem?_set_self (List.getElem?_eq_some_iff.1 r0).1]; rfl, hlen1, by rw [s3, List.getElem?_set_ne (by omega)]; exact r1, rfl⟩, by rw [hle, n1]; simp; omega, by rw [s7, o1, w64_add1, if_pos rfl]; congr 1; omega⟩
  · have q : k.beginD ((j : Int) + 1) = (k, (j : Int) + 1, 0) := by unfold Dk.beginD; rw [if_pos (by omega)]
    rw [q]
    exact .inr ⟨rfl, hW, fun h => h, j, rfl, hR, hl, by rw [if_neg (by omega), Int.add_zero]; exact ho.symm⟩
/-- Add of a record that may be. -/
theorem add_step (hC : C ≤ 1000000000) {c : Nat} {k : Dk} {file : Int} {recs : List RecM} (h : JSt C c k file recs) (hc : c ≤ 4000) {a : RecM} (hr : RecOk a) (ha : checkM a = true) (hsz : (framesB 0 recs).length + (10 + (putB a).length) ≤ C) (ho : w64 k.ops = k.ops) :
    ((k.addD file recs.length a).2.2.2 = 12 ∧ k.fail.is = true ∧ (k.addD file recs.length a).1.down = true ∧ JX C (k.addD file recs.length a).1 recs a) ∨
    ((k.addD file recs.length a).2.2.2 = 0 ∧ (k.fail.is = false → (k.addD file recs.length a).1.fail.is = false) ∧ JSt C c (k.addD file recs.length a).1 (k.addD file recs.length a).2.1 (recs ++ [a]) ∧ (k.addD file recs.length a).2.2.1 = ((recs ++ [a]).length : Nat) ∧ (k.addD file recs.length a).1.ops = w64 (k.ops + if file = 0 then 4 else 2)) := by
  have hpb := putB_small hr
  have hfl := frameL_len recs.length (putB a)
  obtain ⟨fr, hfr⟩ : ∃ fr, fr = frameL recs.length (putB a) := ⟨_, rfl⟩
  have hadd : k.addD file recs.length a = (if (k.beginD file).2.2 ≠ 0 then ((k.beginD file).1, (k.beginD file).2.1, (recs.length : Int), (k.beginD file).2.2) else if ((k.beginD file).1.appD (k.beginD file).2.1 fr).2 ≠ 0 then (((k.beginD file).1.appD (k.beginD file).2.1 fr).1, (k.beginD file).2.1, (recs.length : Int), ((k.beginD file).1.appD (k.beginD file).2.1 fr).2) else ((((k.beginD file).1.appD (k.beginD file).2.1 fr).1.syncD (k.beginD file).2.1).1, (k.beginD file).2.1, if (((k.beginD file).1.appD (k.beginD file).2.1 fr).1.syncD (k.beginD file).2.1).2 = 0 then (recs.length : Int) + 1 else recs.length, (((k.beginD file).1.appD (k.beginD file).2.1 fr).1.syncD (k.beginD file).2.1).2)) := by
    unfold Dk.addD; rw [if_neg (by rw [ha]; decide), if_neg (by omega), hfr]; rfl
  rw [hadd]
  have hb := begin_step h hc ho a
  generalize k.beginD file = r at hb ⊢
  rcases hb with ⟨b1, b2, b3, b4⟩ | ⟨b1, hW, bf, j, b2, hR, hl, bo⟩
  · rw [if_pos (by rw [b1]; decide)]
    exact .inl ⟨b1, b2, b3, b4⟩
  · rw [if_neg (by rw [b1]; simp), b2]
    have hne : fr ≠ [] := fun q => by rw [q] at hfr; rw [← hfr] at hfl; simp only [List.length_nil] at hfl; omega
    have e1 := app_eq hC hW hR fr hne (by show (framesB 0 recs).length + fr.length ≤ _; rw [hfr, hfl]; exact hsz)
    have st := op_step hW.up hR.at_ (·.add (.app fr)) true
    have ol := op_len r.1 true ((j : Int) + 1) (·.add (.app fr))
    rw [e1]
    dsimp only
    have bft : r.1.fail.is = true → k.fail.is = true := fun q => by
      cases q2 : k.fail.is with
      | true => rfl
      | false => rw [bf q2] at q; cases q
    rcases st with ⟨s1, s2, s3, s4, s5⟩ | ⟨s1, s2, s3, s4, s5, s6, s7⟩
    · rw [if_pos (by rw [s1]; decide)]
      refine .inl ⟨s1, bft s2, s3, ?_⟩
      rcases s4 with s4 | s4
      · exact jx_file (s5.trans hW.cap) (hR.same s4) recs a (.inl rfl)
      · exact jx_file (s5.trans hW.cap) (hR.set s4 rfl) recs a (.inr (.inl (by rw [hfr])))
    · rw [if_neg (by rw [s1]; simp)]
      generalize r.1.op true ((j : Int) + 1) (·.add (.app fr)) = k2 at s2 s3 s4 s5 s6 s7 ol ⊢
      have hW2 : JW C k2 := hW.op s2 s4 s5
      have hR2 := hR.set s3 (nd' := (fileN (framesB 0 recs)).add (.app fr)) rfl
      have e2 := sync_eq hW2.up hR2.at_
      have st := op_step hW2.up hR2.at_ Nd.sync false
      have ol2 := op_len k2 false ((j : Int) + 1) Nd.sync
      have hsy : ((fileN (framesB 0 recs)).add (.app fr)).sync = fileN (framesB 0 recs ++ fr) := by simp [Nd.sync, Nd.add, Nd.seen, fileN, Stp.run, Stp.parts]
      rw [e2]
      dsimp only
      rcases st with ⟨t1, t2, t3, t4, t5⟩ | ⟨t1, t2, t3, t4, t5, t6, t7⟩
      · have hf2 : k.fail.is = true := by
          cases q2 : k.fail.is with
          | true => rfl
          | false => rw [s6 (bf q2)] at t2; cases t2
        refine .inl ⟨t1, hf2, t3, ?_⟩
        rcases t4 with t4 | t4
        · exact jx_file (t5.trans hW2.cap) (hR2.same t4) recs a (.inr (.inl (by rw [hfr])))
        · exact jx_file (t5.trans hW2.cap) (hR2.set t4 rfl) recs a (.inr (.inr (by rw [hsy, hfr])))
      · refine .inr ⟨t1, fun q => t6 (s6 (bf q)), ⟨hW2.op t2 t4 t5, .inr ⟨j, rfl, ?_, by rw [ol2, ol]; exact hl⟩⟩, ?_, ?_⟩
        · rw [framesB_snoc, Nat.zero_add, ← hfr, ← hsy]
          exact hR2.set t3 rfl
        · rw [if_pos t1]; simp
        · rw [t7, s7, bo, w64_add1, Int.add_assoc, w64_addg]; congr 1; split <;> omega
end
end Go.Proofs.Ythioccbgjkbmdaa.AM

/-
  Plain law: Open and Clear of a journal.
-/
set_option linter.unusedVariables false
set_option linter.unusedSimpArgs false
namespace Go.Proofs.Ythioccbgjkbmdaa.AM
open Go Go.RowKit
set_option maxRecDepth 100000
set_option maxHeartbeats 4000000

section
variable {C : Nat}
theorem no_hit {k : Dk} (h : k.fail.is = false) : k.opE = 0 := by unfold Dk.opE Told.hit; rw [h]; rfl
/-- An op where nothing is told to fail. -/
theorem op_calm {k : Dk} (hW : JW C k) (hf : k.fail.is = false) {i : Nat} {nd : Nd} (hn : k.nodes[i]? = some nd) (f : Nd → Nd) (c : Bool) : JW C (k.op c ((i : Int) + 1) f) ∧ (k.op c ((i : Int) + 1) f).fail.is = false ∧ (k.op c ((i : Int) + 1) f).nodes = k.nodes.set i (f nd) := by
  rcases op_step hW.up hn f c with ⟨_, q, _⟩ | ⟨_, s2, s3, s4, s5, s6, _⟩
  · rw [hf] at q; cases q
  · exact ⟨hW.op s2 s4 s5, s6 hf, s3⟩
theorem open0 {k : Dk} (hu : k.down = false) (h : k.nodes[0]? = some (rootN [])) : k.openD = (k, some (0, []), 0) := by
  unfold Dk.openD; rw [find0 hu h]; rfl
theorem openR {k : Dk} (hW : JW C k) (hf : k.fail.is = false) {j : Nat} {nd : Nd} (hR : JR k j nd) {b : Bs} (hs : nd.seen = ⟨b, []⟩) : ∃ k', k.openD = (k', some ((j : Int) + 1, (scanM 0 b).1), 0) ∧ JW C k' ∧ k'.fail.is = false ∧ k'.nodes.length = k.nodes.length ∧ (((scanM 0 b).2 < b.length ∧ JR k' j (fileN (b.take (scanM 0 b).2))) ∨ (¬ (scanM 0 b).2 < b.length ∧ k' = k)) := by
  have hn := node_at hR.at_
  have hof : k.ofE ((j : Int) + 1) false = 0 := by rw [ofE_of hW.up hn, if_pos hR.dir]
  have hsz : sizeM k ((j : Int) + 1) = (b.length : Nat) := by unfold sizeM; rw [if_pos hof, hn]; simp [hs]
  have hrd : (k.readM ((j : Int) + 1) 0 (sizeM k ((j : Int) + 1))).1 = b := by
    unfold Dk.readM; rw [if_neg (by rw [hof]; simp), hn, hsz]
    dsimp only
    rw [hs, if_neg (by simp), Int.toNat_natCast]
    simp
  obtain ⟨s, hss⟩ : ∃ s, s = scanM 0 b := ⟨_, rfl⟩
  have hop : k.openD = if s.2 < b.length then (if (k.cutD ((j : Int) + 1) (s.2 : Nat)).2 ≠ 0 then ((k.cutD ((j : Int) + 1) (s.2 : Nat)).1, none, (k.cutD ((j : Int) + 1) (s.2 : Nat)).2) else if ((k.cutD ((j : Int) + 1) (s.2 : Nat)).1.syncD ((j : Int) + 1)).2 ≠ 0 then (((k.cutD ((j : Int) + 1) (s.2 : Nat)).1.syncD ((j : Int) + 1)).1, none, ((k.cutD ((j : Int) + 1) (s.2 : Nat)).1.syncD ((j : Int) + 1)).2) else (((k.cutD ((j : Int) + 1) (s.2 : Nat)).1.syncD ((j : Int) + 1)).1, some ((j : Int) + 1, s.1), 0)) else (k, some ((j : Int) + 1, s.1), 0) := by
    unfold Dk.openD
    rw [findR hW.up hR]
    dsimp only
    rw [if_neg (by decide), if_neg (by simp), if_neg (by rw [ofE_of hW.up hn, if_neg (by rw [hR.dir]; decide)]; decide), hrd, ← hss]
  rw [hop, ← hss]
  split
  · rename_i hlt
    have hcut : k.cutD ((j : Int) + 1) (s.2 : Nat) = (k.op true ((j : Int) + 1) (·.add (.cut s.2)), k.opE) := by
      unfold Dk.cutD; rw [if_neg (by rw [hof]; simp), hn]
      dsimp only
      rw [hs, if_neg (by dsimp only; omega), Int.toNat_natCast]
    obtain ⟨oc1, oc2, oc3⟩ := op_calm hW hf hR.at_ (·.add (.cut s.2)) true
    have ol := op_len k true ((j : Int) + 1) (·.add (.cut s.2))
    rw [hcut, if_neg (by rw [no_hit hf]; simp)]
    dsimp only
    generalize k.op true ((j : Int) + 1) (·.add (.cut s.2)) = k2 at oc1 oc2 oc3 ol ⊢
    have hR2 := hR.set oc3 (nd' := nd.add (.cut s.2)) hR.dir
    obtain ⟨d1, d2, d3⟩ := op_calm oc1 oc2 hR2.at_ Nd.sync false
    have ol2 := op_len k2 false ((j : Int) + 1) Nd.sync
    have hsy : (nd.add (.cut s.2)).sync = fileN (b.take s.2) := by
      unfold Nd.sync; rw [Nd.seen_add, hs]
      have := hR.dir
      unfold Nd.add fileN; simp [Stp.run, this]
    rw [sync_eq oc1.up hR2.at_, if_neg (by rw [no_hit oc2]; simp)]
    exact ⟨_, rfl, d1, d2, by rw [ol2, ol], .inl ⟨hlt, hsy ▸ hR2.set d3 (hsy ▸ rfl)⟩⟩
  · rename_i hlt
    exact ⟨k, rfl, hW, hf, rfl, .inr ⟨hlt, rfl⟩⟩
theorem clear_step {c : Nat} {k : Dk} {file : Int} {recs : List RecM} (h : JSt C c k file recs) (hf : k.fail.is = false) : (k.clearD file recs.length).2.2.2 = 0 ∧ (k.clearD file recs.length).1.fail.is = false ∧ (k.clearD file recs.length).2.1 = 0 ∧ (k.clearD file recs.length).2.2.1 = 0 ∧ JSt C (c + 1) (k.clearD file recs.length).1 0 [] := by
  obtain ⟨hW, ⟨rfl, rfl, hr, hl⟩ | ⟨j, rfl, hR, hl⟩⟩ := h
  · have q : k.clearD 0 ([] : List RecM).length = (k, 0, ((([] : List RecM).length : Nat) : Int), 0) := by unfold Dk.clearD; rw [if_pos rfl]
    rw [q]
    exact ⟨rfl, hf, rfl, rfl, hW, .inl ⟨rfl, rfl, hr, Nat.le_succ_of_le hl⟩⟩
  · have hun : k.unlD 1 jName = (k.op true (((0 : Nat) : Int) + 1) (·.add (.unl jName)), k.opE) := by
      unfold Dk.unlD; rw [findR hW.up hR]; dsimp only
      rw [if_neg (by simp), node_at hR.at_]; dsimp only
      rw [hR.dir]; rfl
    obtain ⟨oc1, oc2, oc3⟩ := op_calm hW hf hR.root (·.add (.unl jName)) true
    have ol := op_len k true (((0 : Nat) : Int) + 1) (·.add (.unl jName))
    have hcl : k.clearD ((j : Int) + 1) recs.length = (if (k.unlD 1 jName).2 ≠ 0 then ((k.unlD 1 jName).1, (j : Int) + 1, (recs.length : Int), (k.unlD 1 jName).2) else (((k.unlD 1 jName).1.syncD 1).1, if ((k.unlD 1 jName).1.syncD 1).2 = 0 then 0 else (j : Int) + 1, if ((k.unlD 1 jName).1.syncD 1).2 = 0 then 0 else (recs.length : Int), ((k.unlD 1 jName).1.syncD 1).2)) := by
      unfold Dk.clearD; rw [if_neg (by omega)]
    rw [hcl, hun]
    dsimp only
    rw [if_neg (by rw [no_hit hf]; simp)]
    generalize k.op true (((0 : Nat) : Int) + 1) (·.add (.unl jName)) = k2 at oc1 oc2 oc3 ol ⊢
    have hr2 : k2.nodes[0]? = some ((rootN [(jName, j + 1)]).add (.unl jName)) := by rw [oc3, List.getElem?_set_self (List.getElem?_eq_some_iff.1 hR.root).1]
    obtain ⟨d1, d2, d3⟩ := op_calm oc1 oc2 hr2 Nd.sync false
    have ol2 := op_len k2 false (((0 : Nat) : Int) + 1) Nd.sync
    have hs := sync_eq oc1.up hr2
    rw [show (1 : Int) = ((0 : Nat) : Int) + 1 from rfl, hs]
    dsimp only
    rw [no_hit oc2, if_pos rfl, if_pos rfl]
    refine ⟨rfl, d2, rfl, rfl, d1, .inl ⟨rfl, rfl, ?_, by rw [ol2, ol]; exact hl⟩⟩
    rw [d3, List.getElem?_set_self (List.getElem?_eq_some_iff.1 hr2).1]
    simp [Nd.sync, Nd.add, Nd.seen, rootN, Stp.run, enWithout]
theorem add_calm (hC : C ≤ 1000000000) {c : Nat} {k : Dk} {file : Int} {recs : List RecM} (h : JSt C c k file recs) (hf : k.fail.is = false) (hc : c ≤ 4000) {a : RecM} (hr : RecOk a) (ha : checkM a = true) (hsz : (framesB 0 recs).length + (10 + (putB a).length) ≤ C) (ho : w64 k.ops = k.ops) :
    (k.addD file recs.length a).2.2.2 = 0 ∧ (k.addD file recs.length a).1.fail.is = false ∧ JSt C c (k.addD file recs.length a).1 (k.addD file recs.length a).2.1 (recs ++ [a]) ∧ (k.addD file recs.length a).2.2.1 = ((recs ++ [a]).length : Nat) ∧ (k.addD file recs.length a).1.ops = w64 (k.ops + if file = 0 then 4 else 2) := by
  rcases add_step hC h hc hr ha hsz ho with ⟨_, q, _⟩ | ⟨q1, q2, q3⟩
  · rw [hf] at q; cases q
  · exact ⟨q1, q2 hf, q3⟩
/-- All whole records are told. -/
theorem open_st {c : Nat} {k : Dk} {file : Int} {recs : List RecM} (h : JSt C c k file recs) (hf : k.fail.is = false) (hg : ∀ a ∈ recs, Good a) : k.openD = (k, some (file, recs), 0) := by
  obtain ⟨hW, ⟨rfl, rfl, hr, hl⟩ | ⟨j, rfl, hR, hl⟩⟩ := h
  · exact open0 hW.up hr
  · obtain ⟨k', h1, _, _, _, h2⟩ := openR hW hf hR (b := framesB 0 recs) rfl
    have hsc := scan_frames recs 0 [] hg
    rw [List.append_nil, scan_nil] at hsc
    rw [hsc] at h1 h2
    rcases h2 with ⟨q, _⟩ | ⟨_, rfl⟩
    · exact absurd q (by simp)
    · rw [h1]; simp
end
end Go.Proofs.Ythioccbgjkbmdaa.AM

/-
  Contracts: the closed case of the journal's laws.
-/
set_option linter.unusedVariables false
set_option linter.unusedSimpArgs false
namespace Go.Proofs.Ythioccbgjkbmdaa.AM
open Go Go.RowKit
set_option maxRecDepth 100000
set_option maxHeartbeats 4000000

theorem i64_0 : I64 0 := by unfold I64; omega
theorem gLen {gh : GH} {lab : Lab} {p : Nat} {k : Dk} {B jp : Nat} {file n : Int} (h : JD gh lab p k B jp file n) : FnG Try.prog 12 [.gp jp 0] gh fun rs g => ∃ m : Int, rs = [.v (.int .i64 m)] ∧ m = n ∧ gh = g := by
  have hj := h.j.at_
  unfold jBox at hj
  refine FnG.of' T_ok M_ok [] (fn := Try.f12) (by kernel_rfl) rfl rfl rfl rfl (Nat.le_of_ble_eq_true rfl) fun A hA => ?_
  cbv
  refine gldI hA _ (hj) ?_
  cbv
  exact retGI hA rfl [.v (.int .i64 n)] gh (⟨n, rfl, rfl, rfl⟩) (by first | exact ⟨rfl, trivial⟩ | exact ⟨rfl, rfl, trivial⟩ | exact ⟨rfl, rfl, rfl, trivial⟩ | trivial)
theorem gThere {gh : GH} {lab : Lab} {p : Nat} {k : Dk} {B jp : Nat} {file n : Int} (h : JD gh lab p k B jp file n) : FnG Try.prog 18 [.gp jp 0] gh fun rs g => ∃ b : Bool, rs = [.v (.bool b)] ∧ (b = true ↔ file ≠ 0) ∧ gh = g := by
  have hj := h.j.at_
  unfold jBox at hj
  refine FnG.of' T_ok M_ok [] (fn := Try.f18) (by kernel_rfl) rfl rfl rfl rfl (Nat.le_of_ble_eq_true rfl) fun A hA => ?_
  cbv
  refine gldI hA _ (hj) ?_
  cbv
  exact retGI hA rfl [.v (.bool (A.ine file 0))] gh (⟨_, rfl, by rw [hA]; simp [std], rfl⟩) (by first | exact ⟨rfl, trivial⟩ | exact ⟨rfl, rfl, trivial⟩ | exact ⟨rfl, rfl, rfl, trivial⟩ | trivial)
theorem framesB_one (a : RecM) : framesB 0 [a] = frameL 0 (putB a) := by simp [framesB]
theorem R3_good : Good R3 := ⟨R3_ok, R3_check⟩
/-- Add, where nothing is told to fail. -/
theorem gAddC {C : Nat} (hC : C ≤ 1000000000) {gh : GH} {lab : Lab} {p : Nat} {k : Dk} {B jp c : Nat} {file n : Int} {recs : List RecM} (h : JD gh lab p k B jp file n) (hn : n = (recs.length : Nat)) (hB : B + 2000 ≤ 1000000000) (hS : JSt C c k file recs) (hf : k.fail.is = false) (hc : c ≤ 4000) (a : RecM) (l : List V) (ha : l = strsV a.path) (hr : RecOk a) (hck : checkM a = true) (hsz : (framesB 0 recs).length + (10 + (putB a).length) ≤ C) (ho : w64 k.ops = k.ops) (hrl : recs.length ≤ 1000) :
    ∃ k' file', k'.fail.is = false ∧ JSt C c k' file' (recs ++ [a]) ∧ k'.ops = w64 (k.ops + if file = 0 then 4 else 2) ∧ FnG Try.prog 11 [.gp jp 0, .agg [.int .u8 a.k, .slice l, .int .i64 a.sz, .int .u32 a.sm, .int .i64 a.mi, .int .i64 a.mo, .int .u32 a.si, .int .u32 a.so]] gh fun rs g => ∃ e : Int, rs = [.v (.int .i64 e)] ∧ e = 0 ∧ JDid gh lab p k' (B + 2000) jp file' ((recs ++ [a]).length : Nat) g := by
  obtain ⟨b1, b2, b3, b4, b5⟩ := add_calm hC hS hf hc hr hck hsz ho
  have hi : I64 file := by
    rcases hS.2 with ⟨q, _⟩ | ⟨j, q, r, q2⟩
    · rw [q]; exact i64_0
    · have := (List.getElem?_eq_some_iff.1 r.at_).1
      rw [q]; unfold I64; omega
  have hg := gAdd h hB (by omega) hi a l ha hr
  rw [hn] at hg
  refine ⟨_, _, b2, b3, b5, hg.mono fun rs g ⟨e, q1, q2, q3⟩ => ⟨e, q1, q2.trans b1, b4 ▸ q3⟩⟩
theorem gAwake18 (gh : GH) : FnG Try.prog 8 [] gh fun rs g => ∃ b : Bool, rs = [.v (.bool b)] ∧ b = true := by
  obtain ⟨k0, hk0⟩ : ∃ k, k = dkNew 1000 := ⟨_, rfl⟩
  have hn := dNew gh 1000 (by decide) (by decide)
  rw [← hk0] at hn
  have S0 : JSt 1000 1 k0 0 [] := by rw [hk0]; exact ⟨⟨rfl, rfl, rfl⟩, .inl ⟨rfl, rfl, rfl, Nat.le_refl _⟩⟩
  have F0 : k0.fail.is = false := by rw [hk0]; rfl
  have O0 : k0.ops = 0 := by rw [hk0]; rfl
  have pl : (putB R3).length = 17 := by rw [R3_put]; rfl
  have fl1 : (framesB 0 ([] ++ [R3])).length = 27 := by rw [List.nil_append, framesB_one, frameL_len, pl]
  have open_ : ∀ (k : Dk) (file : Int) (recs : List RecM) (g : GH) (lab : Lab) (p B : Nat), JSt 1000 1 k file recs → k.fail.is = false → (∀ a ∈ recs, Good a) → DI g lab p k B → B + 2 ≤ 1000000000 → FnG Try.prog 10 [.gp p 0] g fun rs g' => ∃ (jp : Nat) (l : List V) (e : Int), rs = [.v (.gp jp 0), .v (.slice l), .v (.int .i64 e)] ∧ e = 0 ∧ l = recsV recs ∧ ∃ lab', Upd g g' lab lab' (fun _ => True) (fun _ => False) ∧ JD g' lab' p k (B + 2) jp file (recs.length : Nat) := fun k file recs g lab p B hS hf hg hD hB =>
    (gOpen hD hB).mono fun rs g' ⟨x, l, e, q1, q2, lab', u, hD', hm⟩ => by
      rw [open_st hS hf hg] at q2 hD' hm
      obtain ⟨hl, jp, rfl, _, hs⟩ := hm
      exact ⟨jp, l, e, q1, q2, hl, lab', u, hD', hs⟩
  refine FnG.of' T_ok M_ok [] (fn := Try.f8) (by kernel_rfl) rfl rfl rfl rfl (Nat.le_of_ble_eq_true rfl) fun A hA => ?_
  cbv
  refine callGI hA (hn) ?_
  intro rs_ g1 h_
  obtain ⟨p, lab1, q_1, hp, hn1, hold, hD1⟩ := h_
  subst q_1
  cbv
  have ho := open_ k0 0 [] g1 lab1 p 0 S0 F0 (by simp) hD1 (by decide)
  refine callGI hA (ho) ?_
  intro rs_ g2 h_
  obtain ⟨jp, l, e, q_1, he, hl, lab2, u2, J2⟩ := h_
  subst q_1
  cbv
  obtain ⟨k1, f1, F1, S1, O1, ha1⟩ := gAddC (by decide) J2 rfl (by decide) S0 F0 (by decide) R3 [] rfl R3_ok R3_check (by rw [pl]; decide) (by rw [O0]; rfl) (by decide)
  have O1 : k1.ops = 4 := by rw [O1, O0]; rfl
  have hf1 : f1 ≠ 0 := by
    rcases S1.2 with ⟨_, q, _⟩ | ⟨j, q, r, q2⟩
    · simp at q
    · rw [q]; omega
  cbv
  refine condF hA (zne_f hA ((lenR hA hl).trans rfl)) ?_
  cbv
  refine condF hA (zne_f hA he) ?_
  cbv
  refine callGI hA (ha1) ?_
  intro rs_ g3 h_
  obtain ⟨e1, q_1, he1, lab3, u3, J3⟩ := h_
  subst q_1
  cbv
  have hops := gOps J3.d.i
  refine condF hA (zne_f hA he1) ?_
  cbv
  refine callGI hA (hops) ?_
  intro rs_ g_ h_
  obtain ⟨q_1, q_2⟩ := h_
  subst q_1
  subst q_2
  cbv
  obtain ⟨k2, f2, F2, S2, O2, ha2⟩ := gAddC (by decide) J3 rfl (by decide) S1 F1 (by decide) R3 [] rfl R3_ok R3_check (by rw [fl1, pl]; decide) (by rw [O1]; rfl) (by decide)
  have O2 : k2.ops = 6 := by rw [O2, O1, if_neg hf1]; rfl
  refine condF hA (zne_f hA O1) ?_
  cbv
  refine callGI hA (ha2) ?_
  intro rs_ g4 h_
  obtain ⟨e2, q_1, he2, lab4, u4, J4⟩ := h_
  subst q_1
  cbv
  have hops := gOps J4.d.i
  refine condF hA (zne_f hA he2) ?_
  cbv
  refine callGI hA (hops) ?_
  intro rs_ g_ h_
  obtain ⟨q_1, q_2⟩ := h_
  subst q_1
  subst q_2
  cbv
  refine condF hA (zne_f hA O2) ?_
  cbv
  have ho2 := open_ k2 f2 _ _ lab4 p _ S2 F2 (fun a ha => by simp at ha; rw [ha]; exact R3_good) J4.d (by decide)
  refine callGI hA (ho2) ?_
  intro rs_ g5 h_
  obtain ⟨jp5, l5, e5, q_1, he5, hl5, lab5, u5, J5⟩ := h_
  subst q_1
  cbv
  have K5 : JD g5 lab5 p k2 _ jp f2 _ := ⟨J5.d, J4.j.upd u5⟩
  have hf2 : f2 ≠ 0 := by
    rcases S2.2 with ⟨_, q, _⟩ | ⟨j, q, r, q2⟩
    · simp at q
    · rw [q]; omega
  have hlen := gLen K5
  have hth := gThere K5
  have hcl := gClear K5 (by decide)
  have hcs := clear_step S2 F2
  refine condT hA (zeq_t hA ((lenR hA hl5).trans rfl)) ?_
  cbv
  refine condT hA (zeq_t hA he5) ?_
  cbv
  refine callGI hA (hlen) ?_
  intro rs_ g_ h_
  obtain ⟨m, q_1, hm, q_2⟩ := h_
  subst q_1
  subst q_2
  cbv
  refine condT hA (zeq_t hA (hm.trans rfl)) ?_
  cbv
  refine callGI hA (hth) ?_
  intro rs_ g_ h_
  obtain ⟨b, q_1, hb, q_2⟩ := h_
  subst q_1
  subst q_2
  cbv
  refine condT hA (hb.2 hf2) ?_
  cbv
  refine callGI hA (hcl) ?_
  intro rs_ g6 h_
  obtain ⟨e6, q_1, he6, lab6, u6, J6⟩ := h_
  subst q_1
  cbv
  have hth6 := gThere J6
  refine condT hA (zeq_t hA (he6.trans hcs.1)) ?_
  cbv
  refine callGI hA (hth6) ?_
  intro rs_ g_ h_
  obtain ⟨b6, q_1, hb6, q_2⟩ := h_
  subst q_1
  subst q_2
  cbv
  obtain rfl : b6 = false := Bool.eq_false_iff.2 fun q => hb6.1 q hcs.2.2.1
  refine condT hA (by rw [hA]; rfl) ?_
  cbv
  exact retGI hA rfl [.v (.bool true)] g6 ⟨true, rfl, rfl⟩ (by first | exact ⟨rfl, trivial⟩ | trivial)
end Go.Proofs.Ythioccbgjkbmdaa.AM

/-
  Contracts: without a disk, without a journal.
-/
set_option linter.unusedVariables false
set_option linter.unusedSimpArgs false
namespace Go.Proofs.Ythioccbgjkbmdaa.AM
open Go Go.RowKit
set_option maxRecDepth 100000
set_option maxHeartbeats 4000000

theorem cAnyNil (i : Int) : CallR Try.prog 65 [.nilp, .int .i64 i] fun rs => rs = [.v .nilp, .v (.int .i64 1)] := by
  refine .of _ rfl ?_
  refine FnR.of' T_ok M_ok (fn := Try.f65) (by kernel_rfl) rfl rfl rfl rfl (Nat.le_of_ble_eq_true rfl) fun A hA => ?_
  cbv
  refine callI hA (cUpNil) ?_
  intro rs_ h_
  subst h_
  cbv
  refine condT hA (zne_t hA (by decide)) ?_
  cbv
  refine retI hA ?_
  simp only [retOk, rsOk, retIds, idsD, idsDs, softOb, toV, toVs, List.append_nil, List.nil_append, Option.some.injEq, V.int.injEq, V.bool.injEq, V.slice.injEq, V.agg.injEq, V.str.injEq, true_and, and_true, hA, std]
theorem cOfNil (i : Int) (d : Bool) : CallR Try.prog 41 [.nilp, .int .i64 i, .bool d] fun rs => rs = [.v .nilp, .v (.int .i64 1)] := by
  refine .of _ rfl ?_
  refine FnR.of' T_ok M_ok (fn := Try.f41) (by kernel_rfl) rfl rfl rfl rfl (Nat.le_of_ble_eq_true rfl) fun A hA => ?_
  cbv
  refine callI hA (cAnyNil i) ?_
  intro rs_ h_
  subst h_
  cbv
  refine condF hA (zeq_f hA (by decide)) ?_
  cbv
  refine retI hA ?_
  simp only [retOk, rsOk, retIds, idsD, idsDs, softOb, toV, toVs, List.append_nil, List.nil_append, Option.some.injEq, V.int.injEq, V.bool.injEq, V.slice.injEq, V.agg.injEq, V.str.injEq, true_and, and_true, hA, std]
theorem cFindNil (i : Int) (s : Bs) : CallR Try.prog 13 [.nilp, .int .i64 i, .str s] fun rs => rs = [.v (.int .i64 0), .v (.int .i64 1)] := by
  refine .of _ rfl ?_
  refine FnR.of' T_ok M_ok (fn := Try.f13) (by kernel_rfl) rfl rfl rfl rfl (Nat.le_of_ble_eq_true rfl) fun A hA => ?_
  cbv
  refine callI hA (cOfNil i true) ?_
  intro rs_ h_
  subst h_
  cbv
  refine condT hA (zne_t hA (by decide)) ?_
  cbv
  refine retI hA ?_
  simp only [retOk, rsOk, retIds, idsD, idsDs, softOb, toV, toVs, List.append_nil, List.nil_append, Option.some.injEq, V.int.injEq, V.bool.injEq, V.slice.injEq, V.agg.injEq, V.str.injEq, true_and, and_true, hA, std]
theorem cOpenNil : CallR Try.prog 10 [.nilp] fun rs => rs = [.v .nilp, .v (.slice []), .v (.int .i64 1)] := by
  refine .of _ rfl ?_
  refine FnR.of' T_ok M_ok (fn := Try.f10) (by kernel_rfl) rfl rfl rfl rfl (Nat.le_of_ble_eq_true rfl) fun A hA => ?_
  cbv
  refine callI hA (cFindNil 1 jName) ?_
  intro rs_ h_
  subst h_
  cbv
  refine condF hA (zeq_f hA (by decide)) ?_
  cbv
  refine condT hA (zne_t hA (by decide)) ?_
  cbv
  refine retI hA ?_
  simp only [retOk, rsOk, retIds, idsD, idsDs, softOb, toV, toVs, List.append_nil, List.nil_append, Option.some.injEq, V.int.injEq, V.bool.injEq, V.slice.injEq, V.agg.injEq, V.str.injEq, true_and, and_true, hA, std]
theorem cAddNil (r : RecM) (l : List V) : CallR Try.prog 11 [.nilp, .agg [.int .u8 r.k, .slice l, .int .i64 r.sz, .int .u32 r.sm, .int .i64 r.mi, .int .i64 r.mo, .int .u32 r.si, .int .u32 r.so]] fun rs => rs = [.v (.int .i64 1)] := by
  refine .of _ rfl ?_
  refine FnR.of' T_ok M_ok (fn := Try.f11) (by kernel_rfl) rfl rfl rfl rfl (Nat.le_of_ble_eq_true rfl) fun A hA => ?_
  cbv
  refine retI hA ?_
  simp only [retOk, rsOk, retIds, idsD, idsDs, softOb, toV, toVs, List.append_nil, List.nil_append, Option.some.injEq, V.int.injEq, V.bool.injEq, V.slice.injEq, V.agg.injEq, V.str.injEq, true_and, and_true, hA, std]
theorem cClearNil : CallR Try.prog 17 [.nilp] fun rs => rs = [.v (.int .i64 1)] := by
  refine .of _ rfl ?_
  refine FnR.of' T_ok M_ok (fn := Try.f17) (by kernel_rfl) rfl rfl rfl rfl (Nat.le_of_ble_eq_true rfl) fun A hA => ?_
  cbv
  refine retI hA ?_
  simp only [retOk, rsOk, retIds, idsD, idsDs, softOb, toV, toVs, List.append_nil, List.nil_append, Option.some.injEq, V.int.injEq, V.bool.injEq, V.slice.injEq, V.agg.injEq, V.str.injEq, true_and, and_true, hA, std]
theorem cLenNil : CallR Try.prog 12 [.nilp] fun rs => rs = [.v (.int .i64 0)] := by
  refine .of _ rfl ?_
  refine FnR.of' T_ok M_ok (fn := Try.f12) (by kernel_rfl) rfl rfl rfl rfl (Nat.le_of_ble_eq_true rfl) fun A hA => ?_
  cbv
  refine retI hA ?_
  simp only [retOk, rsOk, retIds, idsD, idsDs, softOb, toV, toVs, List.append_nil, List.nil_append, Option.some.injEq, V.int.injEq, V.bool.injEq, V.slice.injEq, V.agg.injEq, V.str.injEq, true_and, and_true, hA, std]
theorem cThereNil : CallR Try.prog 18 [.nilp] fun rs => rs = [.v (.bool false)] := by
  refine .of _ rfl ?_
  refine FnR.of' T_ok M_ok (fn := Try.f18) (by kernel_rfl) rfl rfl rfl rfl (Nat.le_of_ble_eq_true rfl) fun A hA => ?_
  cbv
  refine retI hA ?_
  simp only [retOk, rsOk, retIds, idsD, idsDs, softOb, toV, toVs, List.append_nil, List.nil_append, Option.some.injEq, V.int.injEq, V.bool.injEq, V.slice.injEq, V.agg.injEq, V.str.injEq, true_and, and_true, hA, std]
def nob : Dk := ((dkNew 100).makeD 1 jName true).1
theorem nob_err : ((dkNew 100).makeD 1 jName true).2.2 = 0 := by kernel_rfl
theorem nob_open : nob.openD.2.1 = none ∧ nob.openD.2.2 = 10 := by
  have : nob.openD = (nob, none, 10) := by
    unfold Dk.openD
    rw [show nob.findE 1 jName = (2, 0) from by kernel_rfl]
    dsimp only
    rw [if_neg (by decide), if_neg (by decide), if_pos (by kernel_rfl)]
  rw [this]; exact ⟨rfl, rfl⟩
theorem gNobody (gh : GH) (r : RecM) (l : List V) : FnG Try.prog 4 [.agg [.int .u8 r.k, .slice l, .int .i64 r.sz, .int .u32 r.sm, .int .i64 r.mi, .int .i64 r.mo, .int .u32 r.si, .int .u32 r.so]] gh fun rs g => ∃ b : Bool, rs = [.v (.bool b)] ∧ b = true := by
  obtain ⟨k0, hk0⟩ : ∃ k, k = dkNew 100 := ⟨_, rfl⟩
  have hn := dNew gh 100 (by decide) (by decide)
  rw [← hk0] at hn
  have mk : ∀ (g : GH) (lab : Lab) (p : Nat), DI g lab p k0 0 → FnG Try.prog 16 [.gp p 0, .int .i64 1, .str jName] g fun rs g' => ∃ n e : Int, rs = [.v (.int .i64 n), .v (.int .i64 e)] ∧ e = 0 ∧ FnG Try.prog 10 [.gp p 0] g' fun rs g2 => ∃ (l : List V) (e : Int), rs = [.v .nilp, .v (.slice l), .v (.int .i64 e)] ∧ e = 10 ∧ l = [] := fun g lab p hD => by
    refine (dMkdir hD (by decide) 1 i64_1 jName).mono fun rs g' ⟨n, e, q1, _, q2, lab', u, hD'⟩ => ⟨n, e, q1, q2.trans (by rw [hk0]; exact nob_err), ?_⟩
    have hD' : DI g' lab' p nob 1 := by rw [hk0] at hD'; exact hD'
    refine (gOpen hD' (by decide)).mono fun rs g2 ⟨x, l, e, r1, r2, lab2, u2, hD2, hm⟩ => ?_
    rw [nob_open.1] at hm
    rw [nob_open.2] at r2
    obtain ⟨rfl, rfl⟩ := hm
    exact ⟨[], e, r1, r2, rfl⟩
  refine FnG.of' T_ok M_ok [] (fn := Try.f4) (by kernel_rfl) rfl rfl rfl rfl (Nat.le_of_ble_eq_true rfl) fun A hA => ?_
  cbv
  refine callI hA (cOpenNil) ?_
  intro rs_ h_
  subst h_
  cbv
  refine callGI hA (hn) ?_
  intro rs_ g1 h_
  obtain ⟨p, lab1, q_1, hp, hn1, hold, hD1⟩ := h_
  subst q_1
  cbv
  refine callGI hA ((mk g1 lab1 p hD1)) ?_
  intro rs_ g2 h_
  obtain ⟨n, e, q_1, he, ho⟩ := h_
  subst q_1
  cbv
  refine callGI hA (ho) ?_
  intro rs_ g3 h_
  obtain ⟨l3, e3, q_1, he3, hl3⟩ := h_
  subst q_1
  cbv
  refine condT hA (zeq_t hA (by decide)) ?_
  cbv
  refine condT hA (zeq_t hA he) ?_
  cbv
  refine condT hA (zeq_t hA (by rw [hA, hl3]; rfl)) ?_
  cbv
  refine condT hA (zeq_t hA he3) ?_
  cbv
  refine callI hA (cAddNil r l) ?_
  intro rs_ h_
  subst h_
  cbv
  refine condT hA (zeq_t hA (by decide)) ?_
  cbv
  refine callI hA (cClearNil) ?_
  intro rs_ h_
  subst h_
  cbv
  refine condT hA (zeq_t hA (by decide)) ?_
  cbv
  refine callI hA (cLenNil) ?_
  intro rs_ h_
  subst h_
  cbv
  refine condT hA (zeq_t hA (by decide)) ?_
  cbv
  refine callI hA (cThereNil) ?_
  intro rs_ h_
  subst h_
  cbv
  refine condT hA (by rw [hA]; rfl) ?_
  cbv
  refine callGI hA ((gAwake18 g3)) ?_
  intro rs_ g4 h_
  obtain ⟨b, q_1, hb⟩ := h_
  subst q_1
  cbv
  exact retGI hA rfl [.v (.bool b)] g4 ⟨b, rfl, hb⟩ (by first | exact ⟨rfl, trivial⟩ | trivial)
theorem noG_b (b : Bool) : ∀ r ∈ [Rs.v (.bool b)], r.noG := fun r hr => by
  simp at hr; rw [hr]; exact NoG.bool b
/-- A law's answer, where it has a common heap of its own. -/
theorem CallR.ofLaw {f : Nat} {xs : List V} (h : ∀ gh, FnG Try.prog f xs gh fun rs g => ∃ b : Bool, rs = [.v (.bool b)] ∧ b = true) : CallR Try.prog f xs fun rs => rs = [.v (.bool true)] :=
  .of _ rfl (.ofG (noG_b true) fun n => (h _).mono fun rs g ⟨b, h1, h2⟩ => by rw [h1, h2])
theorem cNobody (r : RecM) (l : List V) : CallR Try.prog 4 [.agg [.int .u8 r.k, .slice l, .int .i64 r.sz, .int .u32 r.sm, .int .i64 r.mi, .int .i64 r.mo, .int .u32 r.si, .int .u32 r.so]] fun rs => rs = [.v (.bool true)] :=
  .ofLaw fun gh => gNobody gh r l
end Go.Proofs.Ythioccbgjkbmdaa.AM

/-
  THE LAW JournalNobody HOLDS: without a disk there is no journal; what is no journal is told. No condition.
-/
set_option linter.unusedVariables false
set_option linter.unusedSimpArgs false
namespace Go.Proofs.Ythioccbgjkbmdaa.AM
open Go Go.RowKit Go.ChangeShapes Go.WideShapes Go.ChangeAt
set_option maxRecDepth 100000

theorem progOwn : ownKnob Try.prog.godebug = none := by kernel_rfl
theorem progLaid : laidOutB Try.prog = true := by kernel_rfl
theorem argsRead : ([29] : List Nat).all (fun t => Try.prog.readableRec t && Nat.blt t Try.prog.types.size) = true := by kernel_rfl
theorem journalNobody_lifted (os : Os) (started : os.Started) (H : Type) (enc : TypeId × Value → H) :
    ReturnsInHanded {} Try.checked os 4 .any (Rows.journalNobodySpec.pre6 enc Try.prog Try.f4 Rows.journalNobodyRow.domain false) (Rows.journalNobodySpec.post enc Try.prog Try.f4 false true false false) := by
  refine returnsInHanded_of_change_sized (C := Try.checked) progOwn started (by kernel_rfl) Try.func4
    (ChangeSpec.witness6 (enc := enc) (C := Try.checked) false ⟨#[], #[.agg #[.int .u8 0, .slice none 0 0, .int .i64 0, .int .u32 0, .int .i64 0, .int .i64 0, .int .u32 0, .int .u32 0]], []⟩ 8 (by kernel_rfl) (by kernel_rfl) (by kernel_rfl) (by kernel_rfl)) ?_
  intro W base args ds gs before hval hW hcnd hwt _
  refine calls_row T_ok (ts := [29]) (tb := 4) (k := 8) (by rw [Try.params4]) (by kernel_rfl) Try.underlying4 (by decide) (fun t ht => ?_) progLaid rfl (fun ds hds => ?_) (fun xs hx hty => ?_) hval hW hwt
  · have e := List.all_eq_true.1 argsRead t (by simpa using ht)
    rw [Bool.and_eq_true] at e
    exact ⟨e.1, Nat.le_of_ble_eq_true e.2⟩
  · match ds, hds with
    | [d0], _ => rfl
  · match xs, hx, hty with
    | [x0], _, hty =>
      obtain ⟨r0, rfl, h0⟩ := tv_rec (k := 5) (hty 0 (by simp) (by simp))
      obtain ⟨rs, q1, rfl⟩ := cNobody r0 _
      exact .of_R q1

/-- **JournalNobody.** -/
theorem journalNobody_holds : Rows.JournalNobodySaid :=
  OpenClaim.holds_of_wide 4 Try.f4 rfl rfl rfl rfl rfl rfl rfl ⟨rfl, rfl, rfl, rfl, rfl⟩ rfl rfl rfl rfl rfl (by kernel_rfl) Try.func4 (by kernel_rfl)
    (of_decide_eq_true (by kernel_rfl)) (by unfold Func.isWrapper; rw [if_neg (by decide +kernel)]; exact ⟨rfl, rfl⟩)
    (fun os started H enc _ => journalNobody_lifted os started H enc)
end Go.Proofs.Ythioccbgjkbmdaa.AM
