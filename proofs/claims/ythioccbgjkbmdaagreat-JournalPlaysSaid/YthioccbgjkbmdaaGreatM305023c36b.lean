/-
 Plain law: two disks that part in 'done' only where no failure is to come; the document's room.
-/
import Derived.Test.YthioccbgjkbmdaaGreatM2930262caf
import Derived.Test.YthioccbgjkbmdaaGreatM24470ffae7
set_option linter.unusedVariables false
set_option linter.unusedSimpArgs false
set_option maxRecDepth 100000
set_option maxHeartbeats 4000000
namespace Go.Proofs.YthioccbgjkbmdaaGreat.AM
open Go Go.RowKit
def Dk.wd (k : Dk) (d : Bool) : Dk := { k with done := d }
def Wf {α : Type} (F : Dk → Dk × α) : Prop := ∀ k d, k.fail.is = false → F (k.wd d) = ((F k).1.wd d, (F k).2) ∧ (F k).1.fail.is = false
def Rel (k r : Dk) : Prop := r = k ∨ k.fail.is = false ∧ ∃ d, r = k.wd d
theorem Rel.map {α : Type} {F : Dk → Dk × α} (hF : Wf F) {k r : Dk} (h : Rel k r) : Rel (F k).1 (F r).1 ∧ (F r).2 = (F k).2 := by
 rcases h with rfl | ⟨hf, d, rfl⟩
 ·exact ⟨.inl rfl, rfl⟩
 ·obtain ⟨q1, q2⟩ := hF k d hf
  rw [q1]; exact ⟨.inr ⟨q2, d, rfl⟩, rfl⟩
theorem Rel.nodes {k r : Dk} (h : Rel k r) : r.nodes = k.nodes ∧ r.cap = k.cap ∧ r.ops = k.ops ∧ r.changes = k.changes ∧ r.down = k.down ∧ r.fail = k.fail ∧ r.full = k.full := by
 rcases h with rfl | ⟨hf, d, rfl⟩ <;> exact ⟨rfl, rfl, rfl, rfl, rfl, rfl, rfl⟩
theorem op_wd (k : Dk) (d c : Bool) (i : Int) (f : Nd → Nd) (h : k.fail.is = false) : (k.wd d).op c i f = (k.op c i f).wd d ∧ (k.op c i f).fail.is = false := by
 have hh : k.fail.hit = false := by unfold Told.hit; rw [h]; rfl
 have hn : k.fail.next = k.fail := by unfold Told.next; rw [h]; rfl
 have hd : k.does = true := by unfold Dk.does; rw [hh]; rfl
 have hd2 : (k.wd d).does = true := by unfold Dk.does; show (!k.fail.hit || d) = true; rw [hh]; rfl
 unfold Dk.op
 rw [show (k.wd d).node? i = k.node? i from rfl, hd, hd2]
 split
 ·exact ⟨rfl, by show k.fail.next.is = false; rw [hn]; exact h⟩
 ·exact ⟨rfl, h⟩
theorem wf_sync (i : Int) : Wf (·.syncD i) := fun k d h => by
 obtain ⟨q1, q2⟩ := op_wd k d false i Nd.sync h
 dsimp only
 unfold Dk.syncD
 rw [show (k.wd d).anyE i = k.anyE i from rfl, show (k.wd d).opE = k.opE from rfl, q1]
 split
 ·exact ⟨rfl, h⟩
 ·exact ⟨rfl, q2⟩
theorem wf_cut (i n : Int) : Wf (·.cutD i n) := fun k d h => by
 obtain ⟨q1, q2⟩ := op_wd k d true i (·.add (.cut n.toNat)) h
 dsimp only
 unfold Dk.cutD
 rw [show (k.wd d).ofE i false = k.ofE i false from rfl, show (k.wd d).opE = k.opE from rfl, show (k.wd d).node? i = k.node? i from rfl, q1]
 split
 ·exact ⟨rfl, h⟩
 ·split
  ·split
   ·exact ⟨rfl, h⟩
   ·exact ⟨rfl, q2⟩
  ·exact ⟨rfl, h⟩
theorem wf_unl (i : Int) (s : Bs) : Wf (·.unlD i s) := fun k d h => by
 obtain ⟨q1, q2⟩ := op_wd k d true i (·.add (.unl s)) h
 dsimp only
 unfold Dk.unlD
 rw [show (k.wd d).findE i s = k.findE i s from rfl, show (k.wd d).opE = k.opE from rfl, show (k.wd d).node? (k.findE i s).1 = k.node? (k.findE i s).1 from rfl, q1]
 split
 ·exact ⟨rfl, h⟩
 ·split
  ·split
   ·exact ⟨rfl, h⟩
   ·exact ⟨rfl, q2⟩
  ·exact ⟨rfl, h⟩
theorem reach_of {k k' : Dk} (hn : k'.nodes = k.nodes) {w w' : Nat → Nat} (hw : w' = w) : ∀ (n j : Nat), k'.reach w' n j = k.reach w n j := by
 subst hw
 intro n
 induction n with
 | zero => intro j; rfl
 | succ n ih =>
  intro j
  have hd : ∀ i, k'.isD i = k.isD i := fun i => by unfold Dk.isD; rw [hn]
  simp only [Dk.reach, hn, ih, hd]
theorem wf_app (i : Int) (b : Bs) : Wf (·.appD i b) := fun k d h => by
 obtain ⟨q1, q2⟩ := op_wd { k with full := k.full.next } d true i (fun n => if b = [] then n else n.add (.app b)) h
 have hr : (k.wd d).room i b.length = k.room i b.length := by
  unfold Dk.room
  rw [show appW (k.wd d) i b.length = appW k i b.length from rfl, reach_of (k := k) (k' := k.wd d) rfl rfl]; rfl
 dsimp only
 unfold Dk.appD
 rw [show (k.wd d).ofE i false = k.ofE i false from rfl, hr]
 split
 ·exact ⟨rfl, h⟩
 ·split
  ·exact ⟨rfl, h⟩
  ·dsimp only
   rw [show (k.wd d).full.hit = k.full.hit from rfl]
   split
   ·exact ⟨rfl, h⟩
   ·exact ⟨congrArg (fun q => (q, _)) q1, q2⟩
theorem wf_make (i : Int) (s : Bs) (dir : Bool) : Wf (·.makeD i s dir) := fun k d h => by
 have hh : k.fail.hit = false := by unfold Told.hit; rw [h]; rfl
 have hn : k.fail.next = k.fail := by unfold Told.next; rw [h]; rfl
 have hd : k.does = true := by unfold Dk.does; rw [hh]; rfl
 have hd2 : (k.wd d).does = true := by unfold Dk.does; show (!k.fail.hit || d) = true; rw [hh]; rfl
 dsimp only
 unfold Dk.makeD
 rw [show (k.wd d).ofE i true = k.ofE i true from rfl, show (k.wd d).node? i = k.node? i from rfl]
 split
 ·exact ⟨rfl, h⟩
 ·split
  ·exact ⟨rfl, h⟩
  ·split
   ·exact ⟨rfl, h⟩
   ·split
    ·exact ⟨rfl, h⟩
    ·rw [show (k.wd d).nodes = k.nodes from rfl]
     split
     ·exact ⟨rfl, h⟩
     ·dsimp only
      rw [show (k.wd d).full.hit = k.full.hit from rfl]
      split
      ·exact ⟨rfl, h⟩
      ·exact ⟨rfl, by show k.fail.next.is = false; rw [hn]; exact h⟩
theorem wf_begin (file : Int) : Wf (·.beginD file) := fun k d h => by
 dsimp only
 unfold Dk.beginD
 split
 ·exact ⟨rfl, h⟩
 ·obtain ⟨q1, q2⟩ := wf_make 1 jName false k d h
  dsimp only at q1 q2 ⊢
  rw [q1]
  dsimp only
  split
  ·exact ⟨rfl, q2⟩
  ·obtain ⟨q3, q4⟩ := wf_sync 1 _ d q2
   dsimp only at q3 q4
   rw [q3]; exact ⟨rfl, q4⟩
theorem wf_add (file n : Int) (a : RecM) : Wf (·.addD file n a) := fun k d h => by
 dsimp only
 unfold Dk.addD
 split
 ·exact ⟨rfl, h⟩
 ·split
  ·exact ⟨rfl, h⟩
  ·obtain ⟨q1, q2⟩ := wf_begin file k d h
   dsimp only at q1 q2 ⊢
   rw [q1]
   dsimp only
   split
   ·exact ⟨rfl, q2⟩
   ·obtain ⟨q3, q4⟩ := wf_app (k.beginD file).2.1 (frameL n.toNat (putB a)) _ d q2
    dsimp only at q3 q4
    rw [q3]
    dsimp only
    split
    ·exact ⟨rfl, q4⟩
    ·obtain ⟨q5, q6⟩ := wf_sync (k.beginD file).2.1 _ d q4
     dsimp only at q5 q6
     rw [q5]; exact ⟨rfl, q6⟩
theorem wf_clear (file n : Int) : Wf (·.clearD file n) := fun k d h => by
 dsimp only
 unfold Dk.clearD
 split
 ·exact ⟨rfl, h⟩
 ·obtain ⟨q1, q2⟩ := wf_unl 1 jName k d h
  dsimp only at q1 q2 ⊢
  rw [q1]
  dsimp only
  split
  ·exact ⟨rfl, q2⟩
  ·obtain ⟨q3, q4⟩ := wf_sync 1 _ d q2
   dsimp only at q3 q4
   rw [q3]; exact ⟨rfl, q4⟩
theorem wf_open : Wf (·.openD) := fun k d h => by
 dsimp only
 unfold Dk.openD
 rw [show (k.wd d).findE 1 jName = k.findE 1 jName from rfl]
 dsimp only
 split
 ·exact ⟨rfl, h⟩
 ·split
  ·exact ⟨rfl, h⟩
  ·rw [show (k.wd d).ofE (k.findE 1 jName).1 true = k.ofE (k.findE 1 jName).1 true from rfl, show sizeM (k.wd d) (k.findE 1 jName).1 = sizeM k (k.findE 1 jName).1 from rfl, show (k.wd d).readM (k.findE 1 jName).1 0 (sizeM k (k.findE 1 jName).1) = k.readM (k.findE 1 jName).1 0 (sizeM k (k.findE 1 jName).1) from rfl]
   split
   ·exact ⟨rfl, h⟩
   ·split
    ·obtain ⟨q1, q2⟩ := wf_cut (k.findE 1 jName).1 (scanM 0 (k.readM (k.findE 1 jName).1 0 (sizeM k (k.findE 1 jName).1)).1).2 k d h
     dsimp only at q1 q2
     rw [q1]
     dsimp only
     split
     ·exact ⟨rfl, q2⟩
     ·obtain ⟨q3, q4⟩ := wf_sync (k.findE 1 jName).1 _ d q2
      dsimp only at q3 q4
      rw [q3]
      dsimp only
      split
      ·exact ⟨rfl, q4⟩
      ·exact ⟨rfl, q4⟩
    ·exact ⟨rfl, h⟩
theorem Rel.crash {k r : Dk} (h : Rel k r) (keep : Bs) : Rel (k.crash keep) ((r.crash keep).wd false) := by
 rcases h with rfl | ⟨hf, d, rfl⟩
 ·exact .inr ⟨rfl, false, rfl⟩
 ·exact .inr ⟨rfl, false, rfl⟩
theorem Rel.fail {k r : Dk} (h : Rel k r) (n : Int) (d : Bool) : Rel (k.failD n d).1 (r.failD n d).1 ∧ (r.failD n d).2 = (k.failD n d).2 := by
 rcases h with rfl | ⟨hf, x, rfl⟩
 ·exact ⟨.inl rfl, rfl⟩
 ·unfold Dk.failD
  rw [show (k.wd x).down = k.down from rfl]
  split
  ·exact ⟨.inr ⟨hf, x, rfl⟩, rfl⟩
  ·split
   ·exact ⟨.inr ⟨hf, x, rfl⟩, rfl⟩
   ·exact ⟨.inl rfl, rfl⟩
theorem wf_full (n : Int) : Wf (·.fullD n) := fun k d h => by
 dsimp only
 unfold Dk.fullD
 rw [show (k.wd d).down = k.down from rfl]
 split
 ·exact ⟨rfl, h⟩
 ·split
  ·exact ⟨rfl, h⟩
  ·exact ⟨rfl, h⟩
theorem app_seen (nd : Nd) (b : Bs) : (nd.add (.app b)).seen.en = nd.seen.en ∧ (nd.add (.app b)).seen.b.length = nd.seen.b.length + b.length := by
 rw [Nd.seen_add]; exact ⟨rfl, by simp [Stp.run, Stp.parts]⟩
theorem reach_app {M B : Nat} {k x : Dk} (hK : K13 M k) (hp : PkOk k B) {j : Nat} {nd : Nd} (hj : k.nodes[j]? = some nd) (hd : nd.dir = false) (b : Bs) (hx : x.nodes = k.nodes.set j (nd.add (.app b))) : ∀ n i, x.reach x.wtF n i = k.reach (appW k ((j : Int) + 1) b.length) n i := by
 have hjl := (List.getElem?_eq_some_iff.1 hj).1
 have hg : ∀ i, i ≠ j → x.nodes[i]? = k.nodes[i]? := fun i q => by rw [hx, List.getElem?_set_ne (fun e => q e.symm)]
 have hgj : x.nodes[j]? = some (nd.add (.app b)) := by rw [hx, List.getElem?_set_self hjl]
 have hD : ∀ m, x.isD m = k.isD m := fun m => by
  unfold Dk.isD
  by_cases q : m - 1 = j
  ·rw [q, hgj, hj]; rfl
  ·rw [hg _ q]
 have hW : ∀ m, 1 ≤ m → m ≤ k.nodes.length → x.wtF m = appW k ((j : Int) + 1) b.length m := fun m h1 h2 => by
  unfold Dk.wtF appW
  rw [hD]
  obtain ⟨nm, hnm⟩ : ∃ nm, k.nodes[m - 1]? = some nm := ⟨_, List.getElem?_eq_getElem (by omega)⟩
  have e1 : k.isD m = nm.dir := by unfold Dk.isD; rw [hnm]
  have e2 : k.wt m = nm.seen.b.length := by unfold Dk.wt; rw [hnm]
  by_cases q : m - 1 = j
  ·have e3 : nm = nd := by rw [q, hj] at hnm; cases hnm; rfl
   have e4 : x.wt m = nd.seen.b.length + b.length := by unfold Dk.wt; rw [q, hgj]; exact (app_seen nd b).2
   rw [if_pos (show (m : Int) = (j : Int) + 1 by omega), e1, e2, e3, e4, hd, if_neg (by simp)]
  ·have e4 : x.wt m = nm.seen.b.length := by unfold Dk.wt; rw [hg _ q, hnm]
   rw [if_neg (show ¬ (m : Int) = (j : Int) + 1 by omega), e1, e2, e4]
   by_cases hdm : nm.dir = true
   ·have h3 := hK (m - 1) nm hnm
    have h4 : nm.seen.b = [] := (fold_b nm.loose nm.safe (hdm ▸ h3.cm)).trans (h3.b hdm)
    rw [if_pos hdm, h4]; rfl
   ·rw [if_neg hdm]; rfl
 intro n
 induction n with
 | zero => intro i; rfl
 | succ n ih =>
  intro i
  have hen : ∀ ni, k.nodes[i]? = some ni → (ni.seen.en.map fun e => x.wtF e.2 + if x.isD e.2 then x.reach x.wtF n (e.2 - 1) else 0) = (ni.seen.en.map fun e => appW k ((j : Int) + 1) b.length e.2 + if k.isD e.2 then k.reach (appW k ((j : Int) + 1) b.length) n (e.2 - 1) else 0) := fun ni hi => by
   refine List.map_congr_left fun e he => ?_
   have h1 := hp.seen_en hi e he
   rw [hW e.2 (by omega) h1.2, hD, ih]
  simp only [Dk.reach]
  by_cases q : i = j
  ·rw [q, hgj, hj]
   dsimp only
   rw [(app_seen nd b).1, hen nd (q ▸ hj)]
  ·rw [hg i q]
   cases hi : k.nodes[i]? with
   | none => rfl
   | some ni => dsimp only; rw [hen ni hi]
theorem sum_le {α : Type} (f : α → Nat) (c : Nat) : ∀ (l : List α), (∀ x ∈ l, f x ≤ c) → (l.map f).sum ≤ l.length * c
 | [], _ => Nat.zero_le _
 | x :: r, h => by
  have h1 := h x (List.mem_cons_self ..)
  have h2 := sum_le f c r (fun y hy => h y (List.mem_cons_of_mem _ hy))
  rw [List.map_cons, List.sum_cons, List.length_cons, Nat.succ_mul]; omega
theorem reach_le {M B : Nat} {k : Dk} (hK : K13 M k) (hp : PkOk k B) (i : Int) (m : Nat) : k.reach (appW k i m) k.nodes.length 0 ≤ M * (B + m) := by
 obtain ⟨n, hn⟩ : ∃ n, k.nodes.length = n + 1 := ⟨k.nodes.length - 1, by have := hp.one; omega⟩
 obtain ⟨rt, hr, _⟩ := hp.root
 rw [hn]
 simp only [Dk.reach]
 rw [hr]
 dsimp only
 refine Nat.le_trans (sum_le _ (B + m) _ fun e he => ?_) (Nat.mul_le_mul_right _ (Nat.le_trans (seen_enlen rt.loose rt.safe) (hK 0 rt hr).len))
 have h1 := hp.seen_en hr e he
 obtain ⟨ne, hne⟩ : ∃ ne, k.nodes[e.2 - 1]? = some ne := ⟨_, List.getElem?_eq_getElem (by omega)⟩
 have h2 : k.isD e.2 = false := by unfold Dk.isD; rw [hne]; exact (hK _ ne hne).flat (by omega)
 have h3 := hp.sz ne (List.mem_of_getElem? hne)
 have h4 := seen_len ne
 have h5 : k.wt e.2 = ne.seen.b.length := by unfold Dk.wt; rw [hne]
 rw [h2]
 unfold appW
 rw [h5]
 split
 ·simp; omega
 ·simp; omega
theorem room13 {M B : Nat} {k x : Dk} (hK : K13 M k) (hp : PkOk k B) (hM : M ≤ 1000000) (hB : B ≤ 1000000000) (hc : 0 ≤ k.cap ∧ k.cap ≤ 1000000) {j : Nat} {nd : Nd} (hj : k.nodes[j]? = some nd) (hd : nd.dir = false) (b : Bs) (hb : b.length ≤ 1000000000) (hx : x.nodes = k.nodes.set j (nd.add (.app b))) : (k.cap < w64 ((x.reach x.wtF k.nodes.length 0 : Nat) : Int)) = (k.room ((j : Int) + 1) b.length < 0) := by
 rw [reach_app hK hp hj hd b hx]
 have h1 := reach_le hK hp ((j : Int) + 1) b.length
 have h2 : M * (B + b.length) ≤ 1000000 * 2000000000 := Nat.mul_le_mul hM (by omega)
 unfold Dk.room
 rw [w64_id (by omega), w64_id (by omega)]
 exact propext (by omega)
open Go Go.RowKit
theorem PkOk.syncD {k : Dk} {B : Nat} (h : PkOk k B) (i : Int) : PkOk (k.syncD i).1 B := by
 unfold Dk.syncD; split
 ·exact h
 ·show PkOk (k.op false i Nd.sync) B
  cases hq : k.node? i with
  | none => unfold Dk.op; rw [hq]; exact h
  | some n =>
   obtain ⟨j, rfl, hj⟩ := node_nat hq
   exact h.sync hj false
theorem PkOk.cutD {k : Dk} {B : Nat} (h : PkOk k B) (i n : Int) : PkOk (k.cutD i n).1 (B + 1) := by
 have hm : PkOk k (B + 1) := h.mono (Nat.le_succ _)
 unfold Dk.cutD; split
 ·exact hm
 ·rename_i h0
  split
  ·rename_i nd hq
   split
   ·exact hm
   ·rename_i h1
    obtain ⟨j, rfl, hj⟩ := node_nat hq
    exact h.add hj true (.cut n.toNat) ⟨ofE_dir h0 hq, by omega⟩ (Nat.le_refl 1) (fun t j e => nomatch e)
  ·exact hm
theorem PkOk.unlD {k : Dk} {B : Nat} (h : PkOk k B) (i : Int) (s : Bs) : PkOk (k.unlD i s).1 (B + 1) := by
 have hm : PkOk k (B + 1) := h.mono (Nat.le_succ _)
 unfold Dk.unlD; split
 ·exact hm
 ·rename_i h0
  obtain ⟨hdn, j0, j1, n0, n1, hij, hj0, hd0, hj1, hg1, hn1⟩ := findE_ok h (Decidable.not_not.1 h0)
  rw [hn1]
  dsimp only
  split
  ·exact hm
  ·subst hij
   exact h.add hj0 true (.unl s) hd0 (Nat.le_refl 1) (fun t j e => nomatch e)
theorem PkOk.appD {k : Dk} {B : Nat} (h : PkOk k B) (i : Int) (b : Bs) (hB : B + b.length ≤ 1000000000) : PkOk (k.appD i b).1 (B + b.length) := by
 have hm : PkOk k (B + b.length) := h.mono (Nat.le_add_right _ _)
 unfold Dk.appD; split
 ·exact hm
 ·rename_i h0
  split
  ·exact hm
  ·dsimp only; split
   ·exact hm.same rfl
   ·obtain ⟨hdn, j, nd, rfl, hj, hdir, hG⟩ := ofE_ok (Decidable.not_not.1 h0)
    have h1 := h.sz nd (List.mem_of_getElem? hj)
    have h2 := seen_len nd
    exact PkOk.app (k := { k with full := k.full.next }) (h.same rfl) hj true b hdir (by omega)
theorem PkOk.makeD {k : Dk} {B : Nat} (h : PkOk k B) (i : Int) (s : Bs) (dir : Bool) : PkOk (k.makeD i s dir).1 (B + 1) := by
 have hm : PkOk k (B + 1) := h.mono (Nat.le_succ _)
 unfold Dk.makeD; dsimp only; split
 ·exact hm
 ·rename_i h0
  split
  ·exact hm
  ·split
   ·exact hm
   ·rename_i nd hq
    split
    ·exact hm
    ·split
     ·exact hm
     ·rename_i h4
      split
      ·exact hm.same rfl
      ·dsimp only; split
       ·obtain ⟨j, rfl, hj⟩ := node_nat hq
        rw [show ((j : Int) + 1 - 1).toNat = j from by omega]
        exact PkOk.mk1 (h.same (k' := { k with full := k.full.next }.tick true) rfl) hj (ofE_dir h0 hq) s dir (by show k.nodes.length < 4096; omega)
       ·exact hm.same rfl
theorem cap_open (k : Dk) : k.openD.1.cap = k.cap := by
 unfold Dk.openD; dsimp only; split
 ·rfl
 ·split
  ·rfl
  ·split
   ·rfl
   ·split
    ·split
     ·exact cap_cut _ _ _
     ·split
      ·exact (cap_sync _ _).trans (cap_cut _ _ _)
      ·exact (cap_sync _ _).trans (cap_cut _ _ _)
    ·rfl
theorem cap_add (k : Dk) (file n : Int) (a : RecM) : (k.addD file n a).1.cap = k.cap := by
 have hb : (k.beginD file).1.cap = k.cap := by
  unfold Dk.beginD; split
  ·rfl
  ·dsimp only; split
   ·exact cap_make _ _ _ _
   ·exact (cap_sync _ _).trans (cap_make _ _ _ _)
 unfold Dk.addD; split
 ·rfl
 ·split
  ·rfl
  ·dsimp only; split
   ·exact hb
   ·split
    ·exact (cap_app _ _ _).trans hb
    ·exact (cap_sync _ _).trans ((cap_app _ _ _).trans hb)
theorem cap_clear (k : Dk) (file n : Int) : (k.clearD file n).1.cap = k.cap := by
 unfold Dk.clearD; split
 ·rfl
 ·dsimp only; split
  ·exact cap_unl _ _ _
  ·exact (cap_sync _ _).trans (cap_unl _ _ _)
structure D13 (ln : List V) (k : Dk) (M B : Nat) : Prop where
 ln : ln = nodesV k.nodes
 p : PkOk k B
 K : K13 M k
 cap : 0 ≤ k.cap ∧ k.cap ≤ 1000000
section
variable {ln lf : List V} {k kf : Dk} {M B : Nat} (h : D13 ln k M B)
include h
theorem D13.mono {M' B' : Nat} (hM : M ≤ M') (hB : B ≤ B') : D13 ln k M' B' := ⟨h.ln, h.p.mono hB, h.K.mono hM, h.cap⟩
theorem D13.ok (hM : M ≤ 1000000) (hB : B ≤ 1000000000) : ∀ nd ∈ k.nodes, N13 nd := h.K.n13 h.p hM hB
theorem D13.sync (i : Int) (h1 : lf = nodesV kf.nodes) (h2 : kf = (k.syncD i).1) : D13 lf kf (M + 1) B := by
 subst h2; exact ⟨h1, h.p.syncD i, h.K.sync i, by rw [cap_sync]; exact h.cap⟩
theorem D13.cut (i n : Int) (h1 : lf = nodesV kf.nodes) (h2 : kf = (k.cutD i n).1) : D13 lf kf (M + 1) (B + 1) := by
 subst h2; exact ⟨h1, h.p.cutD i n, h.K.cut i n, by rw [cap_cut]; exact h.cap⟩
theorem D13.unl (i : Int) (s : Bs) (hs : s ≠ []) (h1 : lf = nodesV kf.nodes) (h2 : kf = (k.unlD i s).1) : D13 lf kf (M + 1) (B + 1) := by
 subst h2; exact ⟨h1, h.p.unlD i s, h.K.unl i s hs, by rw [cap_unl]; exact h.cap⟩
theorem D13.app (i : Int) (b : Bs) (hB : B + b.length ≤ 1000000000) (h1 : lf = nodesV kf.nodes) (h2 : kf = (k.appD i b).1) : D13 lf kf (M + 1) (B + b.length) := by
 subst h2; exact ⟨h1, h.p.appD i b hB, h.K.app i b, by rw [cap_app]; exact h.cap⟩
theorem D13.make (i : Int) (s : Bs) (hs : s ≠ []) (h1 : lf = nodesV kf.nodes) (h2 : kf = (k.makeD i s false).1) : D13 lf kf (M + 1) (B + 1) := by
 subst h2; exact ⟨h1, h.p.makeD i s false, h.K.make i s hs, by rw [cap_make]; exact h.cap⟩
end
open Go Go.RowKit
theorem nodesV_flat {l : List Nd} {lv : List V} (h : lv = nodesV l) : ∀ x ∈ lv, x.flat.length = 4 := fun x hx => by
 rw [h] at hx
 obtain ⟨n, _, rfl⟩ := List.mem_map.1 hx
 rfl
theorem stepsV_flat {l : List Stp} {lv : List V} (h : lv = stepsV l) : ∀ x ∈ lv, x.flat.length = 6 := fun x hx => by
 rw [h] at hx
 obtain ⟨s, _, rfl⟩ := List.mem_map.1 hx
 obtain ⟨c, n, bs, fr, tn, ti, q⟩ := stC_open s
 rw [q]; rfl
theorem app_nd {A : Prim} {P : Program} {R : List (Nat × AObj) → List D → Prop} (hA : A = std P R) {x y : List V} {a b : List Nd} (hx : x = nodesV a) (hy : y = nodesV b) : A.app x y = nodesV (a ++ b) := by
 rw [hA, hx, hy]; exact (List.map_append ..).symm
theorem app_st {A : Prim} {P : Program} {R : List (Nat × AObj) → List D → Prop} (hA : A = std P R) {x y : List V} {a b : List Stp} (hx : x = stepsV a) (hy : y = stepsV b) : A.app x y = stepsV (a ++ b) := by
 rw [hA, hx, hy]; exact (List.map_append ..).symm
theorem setL_nd {A : Prim} {P : Program} {R : List (Nat × AObj) → List D → Prop} (hA : A = std P R) {lv : List V} {l : List Nd} {i : Int} {j : Nat} {x : V} {nd : Nd} (hl : lv = nodesV l) (hi : i = (j : Nat)) (hx : x = V.agg (ndC nd)) : A.setL lv i x = nodesV (l.set j nd) := by
 subst hA; rw [hl, hi, hx]
 show (nodesV l).set (Int.toNat (j : Int)) _ = _
 rw [Int.toNat_natCast]; unfold nodesV; rw [List.map_set]
theorem noG_ents {l : List V} {en : List (Bs × Nat)} (h : l = entsV en) : NoG (.slice l) := .slice _ fun x hx y hy => by
 rw [h] at hx
 obtain ⟨e, _, rfl⟩ := List.mem_map.1 hx
 simp only [V.flat, List.mem_cons, List.not_mem_nil, or_false] at hy
 rcases hy with rfl | rfl
 ·exact .str _
 ·exact .int _ _
theorem noG_steps {l : List V} {st : List Stp} (h : l = stepsV st) : NoG (.slice l) := .slice _ fun x hx y hy => by
 rw [h] at hx
 obtain ⟨s, _, rfl⟩ := List.mem_map.1 hx
 obtain ⟨c, n, bs, fr, tn, ti, q⟩ := stC_open s
 rw [q] at hy
 simp only [V.flat, List.mem_cons, List.not_mem_nil, or_false] at hy
 rcases hy with rfl | rfl | rfl | rfl | rfl | rfl
 ·exact .bool _
 ·exact .int _ _
 ·exact .str _
 ·exact .str _
 ·exact .str _
 ·exact .int _ _
theorem noG_nodes {l : List V} {ns : List Nd} (h : l = nodesV ns) : NoG (.slice l) := .slice _ fun x hx y hy => by
 rw [h] at hx
 obtain ⟨n, _, rfl⟩ := List.mem_map.1 hx
 simp only [V.flat, ndC, List.mem_cons, List.not_mem_nil, or_false] at hy
 rcases hy with rfl | rfl | rfl | rfl
 ·exact .bool _
 ·exact .str _
 ·exact noG_ents rfl
 ·exact noG_steps rfl
theorem noG_dk {l : List V} {ns : List Nd} (k : Dk) (h : l = nodesV ns) : NoG (.agg (diskC l k)) := .agg _ fun x hx => by
 simp only [diskC, List.mem_cons, List.not_mem_nil, or_false] at hx
 rcases hx with rfl | rfl | rfl | rfl | rfl | rfl | rfl | rfl | rfl | rfl
 ·exact noG_nodes h
 ·exact .int _ _
 ·exact .int _ _
 ·exact .int _ _
 ·exact .bool _
 ·exact .bool _
 ·exact .int _ _
 ·exact .bool _
 ·exact .bool _
 ·exact .int _ _
theorem noG_disk {l : List V} {ns : List Nd} (k : Dk) (h : l = nodesV ns) : ∀ r ∈ [Rs.v (.agg (diskC l k))], r.noG := fun r hr => by
 rw [List.mem_singleton.1 hr]; exact noG_dk k h
theorem cLoose13 (ln : List V) (k : Dk) (hln : ln = nodesV k.nodes) (i : Int) (j : Nat) (hij : i = (j : Int) + 1) (hj : j < k.nodes.length) (hn : k.nodes.length ≤ 4096) (hsn : (k.nodes[j]'hj).loose.length ≤ 1000000) (c : Bool) (n : Int) (bs fr tn : Bs) (ti : Int) (s : Stp) (hs : stC s = [.bool c, .int .i64 n, .str bs, .str fr, .str tn, .int .i64 ti]) : CallR Tryz.prog 78 [.agg [.slice ln, .int .i64 k.cap, .int .i64 k.ops, .int .i64 k.changes, .bool k.down, .bool k.fail.is, .int .i64 k.fail.after, .bool k.done, .bool k.full.is, .int .i64 k.full.after], .int .i64 i, .agg [.bool c, .int .i64 n, .str bs, .str fr, .str tn, .int .i64 ti]] fun rs => ∃ ln', rs = [.v (.agg (diskC ln' k))] ∧ ln' = nodesV (k.nodes.set j ((k.nodes[j]'hj).add s)) := by
 obtain ⟨re, hre⟩ : ∃ b, b = nodesV (k.nodes.set j ((k.nodes[j]'hj).add s)) := ⟨_, rfl⟩
 have hw : w64 (i - 1) = (j : Nat) := by rw [hij, w64_id (by omega)]; omega
 refine .of _ ⟨re, rfl, hre⟩ (.ofG (noG_disk k hre) fun gn => ?_)
 refine FnG.of' T_ok M_ok [1000032] (fn := Tryz.f78) (by kernel_rfl) rfl rfl rfl rfl (Nat.le_of_ble_eq_true rfl) fun A hA => ?_
 cbv
 have hrm : (([] : List V).length + ln.length + 1) * 72 ≤ 140737488355328 := by rw [hln, nodesV_len]; simp only [List.length_nil]; omega
 refine sizedI hA (nodesV_flat hln) ?_
 cbv
 refine roomI hA ⟨by simp only [List.length_nil] at *; omega, by decide⟩ ?_
 cbv
 have ha : A.app [] ln = nodesV k.nodes := by rw [app_nd hA (x := []) (a := []) rfl hln]; rfl
 have hix : A.wrap .i64 (A.sub i 1) = (j : Nat) := (zsub hA i 1).trans (natEq hw)
 have hin : 0 ≤ A.wrap .i64 (A.sub i 1) ∧ A.wrap .i64 (A.sub i 1) < (A.app [] ln).length := by rw [hix, ha, nodesV_len]; omega
 refine inRI hA hin ?_
 cbv
 refine getND hA ha hix hj ?_
 rintro dd bb le ls hdd hbb hle hls
 cbv
 refine chkI hA (by kernel_rfl) ?_
 cbv
 have hlsn : ls.length = (k.nodes[j]'hj).loose.length := by rw [hls, stepsV_len]
 refine sizedI hA (stepsV_flat hls) ?_
 cbv
 refine roomI hA ⟨by simp only [List.length_nil]; omega, by decide⟩ ?_
 cbv
 refine sizedI hA (by simp [V.flat]) ?_
 cbv
 have hb1 : A.app [] ls = stepsV (k.nodes[j]'hj).loose := by rw [app_st hA (x := []) (a := []) rfl hls]; rfl
 have hl0 : (A.app [] ls).length ≤ 1000000 := Nat.le_trans (Nat.le_of_eq ((congrArg List.length hb1).trans (stepsV_len _))) hsn
 have hl1 : ((A.app [] ls).length + 1) * 72 ≤ 140737488355328 := Nat.le_trans (Nat.mul_le_mul_right 72 (Nat.succ_le_succ hl0)) (Nat.le_of_ble_eq_true rfl)
 refine roomI hA ⟨hl1, by decide⟩ ?_
 cbv
 refine weakA hA _ (weak_soft _ [25]) ?_
 cbv
 refine inRI hA hin ?_
 cbv
 refine inRI hA hin ?_
 cbv
 have hst1 : [V.agg [.bool c, .int .i64 n, .str bs, .str fr, .str tn, .int .i64 ti]] = stepsV [s] := by rw [← hs]; rfl
 have hx : V.agg [.bool dd, .str bb, .slice le, .slice (A.app (A.app [] ls) [V.agg [.bool c, .int .i64 n, .str bs, .str fr, .str tn, .int .i64 ti]])] = V.agg (ndC ((k.nodes[j]'hj).add s)) := by rw [hdd, hbb, hle, app_st hA hb1 hst1]; rfl
 exact retGI hA rfl [.v (.agg (diskC re k))] _ rfl ⟨congrArg (fun q => some (V.agg (diskC q k))) ((setL_nd hA ha hix hx).trans hre.symm), trivial⟩
open Go Go.RowKit
theorem disk_eq {ln lf : List V} {k1 kf : Dk} (h1 : kf = { k1 with nodes := kf.nodes }) (h2 : ln = lf) : some (V.agg (diskC ln k1)) = some (V.agg (diskC lf kf)) := by rw [h2, h1]; rfl
theorem i64_eq {a b : Int} (h : a = b) : some (V.int .i64 a) = some (V.int .i64 b) := by rw [h]
theorem op_at {k : Dk} {i : Int} {j : Nat} {nd : Nd} (hij : i = (j : Int) + 1) (hj : k.nodes[j]? = some nd) (c : Bool) (f : Nd → Nd) : k.op c i f = if k.does then { k.tick c with nodes := k.nodes.set j (f nd) } else k.tick c := by
 unfold Dk.op
 rw [op_get hij hj]
 dsimp only
 unfold Dk.set
 rw [hij, show ((j : Int) + 1 - 1).toNat = j from by omega]; rfl
theorem cLoose (ln : List V) (k : Dk) (hln : ln = nodesV k.nodes) (i : Int) (j : Nat) (nd : Nd) (hij : i = (j : Int) + 1) (hj : k.nodes[j]? = some nd) (hn : k.nodes.length ≤ 4096) (hsn : nd.loose.length ≤ 1000000) (c : Bool) (n : Int) (bs fr tn : Bs) (ti : Int) (s : Stp) (hs : stC s = [.bool c, .int .i64 n, .str bs, .str fr, .str tn, .int .i64 ti]) : CallR Tryz.prog 78 [.agg [.slice ln, .int .i64 k.cap, .int .i64 k.ops, .int .i64 k.changes, .bool k.down, .bool k.fail.is, .int .i64 k.fail.after, .bool k.done, .bool k.full.is, .int .i64 k.full.after], .int .i64 i, .agg [.bool c, .int .i64 n, .str bs, .str fr, .str tn, .int .i64 ti]] fun rs => ∃ ln', rs = [.v (.agg (diskC ln' k))] ∧ ln' = nodesV (k.nodes.set j (nd.add s)) := by
 obtain ⟨hjl, rfl⟩ := List.getElem?_eq_some_iff.1 hj
 exact cLoose13 ln k hln i j hij hjl hn hsn c n bs fr tn ti s hs
theorem after_op {k k1 kf : Dk} {j : Nat} {n2 : Nd} {c ok : Bool} (h : kf = if k.does then { k.tick c with nodes := k.nodes.set j n2 } else k.tick c) (hk1 : k1 = k.tick c) (hok : ok = k.does) : (ok = true → ∀ l lf, l = nodesV (k1.nodes.set j n2) → lf = nodesV kf.nodes → some (V.agg (diskC l k1)) = some (V.agg (diskC lf kf))) ∧ (ok = false → ∀ l lf, l = nodesV k.nodes → lf = nodesV kf.nodes → some (V.agg (diskC l k1)) = some (V.agg (diskC lf kf))) := by
 subst hk1 hok
 refine ⟨fun q l lf h1 h2 => ?_, fun q l lf h1 h2 => ?_⟩
 ·rw [if_pos q] at h
  exact disk_eq (by rw [h]) (by rw [h1, h2, h]; rfl)
 ·rw [q, if_neg (by simp)] at h
  exact disk_eq (by rw [h]) (by rw [h1, h2, h]; rfl)
theorem cCut13 (ln : List V) (k : Dk) (hln : ln = nodesV k.nodes) (hn : k.nodes.length ≤ 4096) (hok : ∀ nd ∈ k.nodes, N13 nd) (i : Int) (hi : I64 i) (n : Int) : CallR Tryz.prog 57 [.agg [.slice ln, .int .i64 k.cap, .int .i64 k.ops, .int .i64 k.changes, .bool k.down, .bool k.fail.is, .int .i64 k.fail.after, .bool k.done, .bool k.full.is, .int .i64 k.full.after], .int .i64 i, .int .i64 n] fun rs => ∃ (lf : List V) (kf : Dk) (ef : Int), rs = [.v (.agg (diskC lf kf)), .v (.int .i64 ef)] ∧ lf = nodesV kf.nodes ∧ kf = (k.cutD i n).1 ∧ ef = (k.cutD i n).2 := by
 obtain ⟨kf, hkf⟩ : ∃ q, q = (k.cutD i n).1 := ⟨_, rfl⟩
 obtain ⟨ef, hef⟩ : ∃ q, q = (k.cutD i n).2 := ⟨_, rfl⟩
 obtain ⟨lf, hlf⟩ : ∃ q, q = nodesV kf.nodes := ⟨_, rfl⟩
 have s1 : ∀ e, e = k.ofE i false → e ≠ 0 → kf = k ∧ ef = e := fun e he q => by rw [hkf, hef, he]; unfold Dk.cutD; rw [if_pos (he ▸ q)]; exact ⟨rfl, rfl⟩
 have s2 : ∀ (j : Nat) (hj : j < k.nodes.length), i = (j : Int) + 1 → k.ofE i false = 0 → (n < 0 ∨ ((k.nodes[j]'hj).seen.b.length : Nat) < n) → kf = k ∧ ef = 13 := fun j hj hij h0 q => by
  rw [hkf, hef]; unfold Dk.cutD; rw [if_neg (fun f => f h0), op_get hij (List.getElem?_eq_getElem hj)]; dsimp only; rw [if_pos q]; exact ⟨rfl, rfl⟩
 have s3 : ∀ (j : Nat) (hj : j < k.nodes.length), i = (j : Int) + 1 → k.ofE i false = 0 → ¬ (n < 0 ∨ ((k.nodes[j]'hj).seen.b.length : Nat) < n) → ef = k.opE ∧ kf = if k.does then { k.tick true with nodes := k.nodes.set j ((k.nodes[j]'hj).add (.cut n.toNat)) } else k.tick true := fun j hj hij h0 q => by
  rw [hkf, hef]; unfold Dk.cutD; rw [if_neg (fun f => f h0), op_get hij (List.getElem?_eq_getElem hj)]; dsimp only; rw [if_neg q, op_at hij (List.getElem?_eq_getElem hj)]; exact ⟨rfl, rfl⟩
 refine .of _ ⟨lf, kf, ef, rfl, hlf, hkf, hef⟩ ?_
 clear hkf hef
 refine FnR.of' T_ok M_ok (fn := Tryz.f57) (by kernel_rfl) rfl rfl rfl rfl (Nat.le_of_ble_eq_true rfl) fun A hA => ?_
 cbv
 refine callI hA (cNode13 ln k hln (by omega) i hi false) ?_
 intro rs_ h_
 obtain ⟨e, q_1, he⟩ := h_
 subst q_1
 cbv
 refine condI hA (fun h1 => ?_) (fun h1 => ?_)
 ·obtain ⟨q1, q2⟩ := s1 e he (zneT hA h1)
  cbv
  refine retI hA ?_
  exact ⟨disk_eq (by rw [q1]) (by rw [hlf, q1]; exact hln), i64_eq q2.symm, trivial⟩
 ·have h0 : k.ofE i false = 0 := he.symm.trans (zneF hA h1)
  obtain ⟨j, nd, hij, hjl, hjn, hG⟩ := of_zero h0
  have hse := cSeen ln k hln i j hij hjl (by omega) (hok _ (List.getElem_mem hjl))
  have hst := cStep13 ln k true
  have hN := hok _ (List.getElem_mem hjl)
  have s2 := s2 j hjl hij h0
  have s3 := s3 j hjl hij h0
  have bad : (n < 0 ∨ ((k.nodes[j]'hjl).seen.b.length : Nat) < n) → some (V.agg (diskC ln k)) = some (V.agg (diskC lf kf)) ∧ some (V.int .i64 13) = some (V.int .i64 ef) ∧ True := fun q => by
   obtain ⟨q1, q2⟩ := s2 q
   exact ⟨disk_eq (by rw [q1]) (by rw [hlf, q1]; exact hln), i64_eq q2.symm, trivial⟩
  cbv
  refine condI hA (fun h2 => ?_) (fun h2 => ?_)
  ·have h2 := zltT hA h2
   cbv
   refine retI hA ?_
   exact bad (.inl h2)
  ·have h2 := zltF hA h2
   cbv
   refine callI hA (hse) ?_
   intro rs_ h_
   obtain ⟨d, b, lv, q_1, hd, hb, hlv⟩ := h_
   subst q_1
   cbv
   refine condI hA (fun h3 => ?_) (fun h3 => ?_)
   ·have h3 : A.lenS b < n := zltT hA h3
    have h3 : ((k.nodes[j]'hjl).seen.b.length : Nat) < n := by rw [lenZ hA, hb] at h3; exact h3
    cbv
    refine retI hA ?_
    exact bad (.inr h3)
   ·have h3 : ¬ A.lenS b < n := zltF hA h3
    have h3 : ¬ ((k.nodes[j]'hjl).seen.b.length : Nat) < n := by rw [lenZ hA, hb] at h3; exact h3
    obtain ⟨q1, q2⟩ := s3 (fun q => q.elim h2 h3)
    have hcs : stC (.cut n.toNat) = [.bool true, .int .i64 n, .str [], .str [], .str [], .int .i64 0] := by
     show [V.bool true, V.int .i64 (n.toNat : Int), V.str [], V.str [], V.str [], V.int .i64 0] = _
     rw [Int.toNat_of_nonneg (by omega)]
    cbv
    refine callI hA (hst) ?_
    intro rs_ h_
    obtain ⟨k1, ok, e1, q_1, hk1, hok1, he1⟩ := h_
    subst q_1
    cbv
    obtain ⟨a1, a2⟩ := after_op q2 hk1 hok1
    have hk1n : k1.nodes = k.nodes := by rw [hk1]; rfl
    have hlo := cLoose ln k1 (by rw [hk1n]; exact hln) i j _ hij (by rw [hk1n]; exact List.getElem?_eq_getElem hjl) (by rw [hk1n]; exact hn) hN.n true n [] [] [] 0 _ hcs
    refine condI hA (fun h4 => ?_) (fun h4 => ?_)
    ·cbv
     refine callI hA (hlo) ?_
     intro rs_ h_
     obtain ⟨ln2, q_1, hln2⟩ := h_
     subst q_1
     cbv
     refine retI hA ?_
     exact ⟨a1 h4 _ _ hln2 hlf, i64_eq (he1.trans q1.symm), trivial⟩
    ·cbv
     refine retI hA ?_
     exact ⟨a2 h4 _ _ hln hlf, i64_eq (he1.trans q1.symm), trivial⟩
open Go Go.RowKit
theorem cUnl13 {B : Nat} (ln : List V) (k : Dk) (hln : ln = nodesV k.nodes) (hp : PkOk k B) (hok : ∀ nd ∈ k.nodes, N13 nd) (i : Int) (hi : I64 i) (s : Bs) : CallR Tryz.prog 66 [.agg [.slice ln, .int .i64 k.cap, .int .i64 k.ops, .int .i64 k.changes, .bool k.down, .bool k.fail.is, .int .i64 k.fail.after, .bool k.done, .bool k.full.is, .int .i64 k.full.after], .int .i64 i, .str s] fun rs => ∃ (lf : List V) (kf : Dk) (ef : Int), rs = [.v (.agg (diskC lf kf)), .v (.int .i64 ef)] ∧ lf = nodesV kf.nodes ∧ kf = (k.unlD i s).1 ∧ ef = (k.unlD i s).2 := by
 obtain ⟨kf, hkf⟩ : ∃ q, q = (k.unlD i s).1 := ⟨_, rfl⟩
 obtain ⟨ef, hef⟩ : ∃ q, q = (k.unlD i s).2 := ⟨_, rfl⟩
 obtain ⟨lf, hlf⟩ : ∃ q, q = nodesV kf.nodes := ⟨_, rfl⟩
 have hn := hp.most
 have s1 : ∀ e, e = (k.findE i s).2 → e ≠ 0 → some (V.agg (diskC ln k)) = some (V.agg (diskC lf kf)) ∧ some (V.int .i64 e) = some (V.int .i64 ef) ∧ True := fun e he q => by
  have q1 : kf = k ∧ ef = e := by rw [hkf, hef, he]; unfold Dk.unlD; rw [if_pos (he ▸ q)]; exact ⟨rfl, rfl⟩
  exact ⟨disk_eq (by rw [q1.1]) (by rw [hlf, q1.1]; exact hln), i64_eq q1.2.symm, trivial⟩
 have s2 : ∀ n1, (k.findE i s).2 = 0 → k.node? (k.findE i s).1 = some n1 → n1.dir = true → some (V.agg (diskC ln k)) = some (V.agg (diskC lf kf)) ∧ some (V.int .i64 10) = some (V.int .i64 ef) ∧ True := fun n1 h0 h1 q => by
  have q1 : kf = k ∧ ef = 10 := by rw [hkf, hef]; unfold Dk.unlD; rw [if_neg (fun f => f h0), h1]; dsimp only; rw [if_pos q]; exact ⟨rfl, rfl⟩
  exact ⟨disk_eq (by rw [q1.1]) (by rw [hlf, q1.1]; exact hln), i64_eq q1.2.symm, trivial⟩
 have s3 : ∀ (j : Nat) (n0 n1 : Nd), (k.findE i s).2 = 0 → k.node? (k.findE i s).1 = some n1 → n1.dir = false → i = (j : Int) + 1 → k.nodes[j]? = some n0 → ef = k.opE ∧ kf = if k.does then { k.tick true with nodes := k.nodes.set j (n0.add (.unl s)) } else k.tick true := fun j n0 n1 h0 h1 q hij hj => by
  rw [hkf, hef]; unfold Dk.unlD; rw [if_neg (fun f => f h0), h1]; dsimp only; rw [if_neg (by simp [q]), op_at hij hj]; exact ⟨rfl, rfl⟩
 have hfi := cFind13 ln k hln (by omega) i hi hok s
 have hst := cStep13 ln k true
 refine .of _ ⟨lf, kf, ef, rfl, hlf, hkf, hef⟩ ?_
 clear hkf hef
 refine FnR.of' T_ok M_ok (fn := Tryz.f66) (by kernel_rfl) rfl rfl rfl rfl (Nat.le_of_ble_eq_true rfl) fun A hA => ?_
 cbv
 refine callI hA (hfi) ?_
 intro rs_ h_
 obtain ⟨a, e, q_1, ha, he⟩ := h_
 subst q_1
 cbv
 refine condI hA (fun h1 => ?_) (fun h1 => ?_)
 ·have h1 := zneT hA h1
  cbv
  refine retI hA ?_
  exact s1 e he h1
 ·have h0 : (k.findE i s).2 = 0 := he.symm.trans (zneF hA h1)
  obtain ⟨hdn, j0, j1, n0, n1, hij, hj0, hd0, hj1, hg1, hn1⟩ := findE_ok hp h0
  obtain ⟨hj1l, hj1e⟩ := List.getElem?_eq_some_iff.1 hg1
  have s2 := s2 n1 h0 hn1
  have s3 := s3 j0 n0 n1 h0 hn1
  have hw : w64 (a - 1) = (j1 : Nat) := by rw [ha, hj1, w64_id (by omega)]; omega
  have hix : A.wrap .i64 (A.sub a 1) = (j1 : Nat) := (zsub hA a 1).trans (natEq hw)
  cbv
  refine getND hA hln hix hj1l ?_
  rintro dd bb le ls hdd hbb hle hls
  have hdd : dd = n1.dir := by rw [hdd, hj1e]
  cbv
  refine condI hA (fun h2 => ?_) (fun h2 => ?_)
  ·have h2 : n1.dir = true := hdd.symm.trans h2
   cbv
   refine retI hA ?_
   exact s2 h2
  ·have h2 : n1.dir = false := hdd.symm.trans h2
   obtain ⟨q1, q2⟩ := s3 h2 hij hj0
   cbv
   refine callI hA (hst) ?_
   intro rs_ h_
   obtain ⟨k1, ok, e1, q_1, hk1, hok1, he1⟩ := h_
   subst q_1
   cbv
   obtain ⟨a1, a2⟩ := after_op q2 hk1 hok1
   have hk1n : k1.nodes = k.nodes := by rw [hk1]; rfl
   have hlo := cLoose ln k1 (by rw [hk1n]; exact hln) i j0 n0 hij (by rw [hk1n]; exact hj0) (by rw [hk1n]; exact hn) (hok n0 (List.mem_of_getElem? hj0)).n false 0 [] s [] 0 (.unl s) rfl
   refine condI hA (fun h4 => ?_) (fun h4 => ?_)
   ·cbv
    refine callI hA (hlo) ?_
    intro rs_ h_
    obtain ⟨ln2, q_1, hln2⟩ := h_
    subst q_1
    cbv
    refine retI hA ?_
    exact ⟨a1 h4 _ _ hln2 hlf, i64_eq (he1.trans q1.symm), trivial⟩
   ·cbv
    refine retI hA ?_
    exact ⟨a2 h4 _ _ hln hlf, i64_eq (he1.trans q1.symm), trivial⟩
open Go Go.RowKit
theorem N13.add {nd : Nd} (h : N13 nd) (b : Bs) (hd : nd.dir = false) (h1 : nd.loose.length + 1 ≤ 1000000) (h2 : nd.safe.b.length + nd.parts + b.length ≤ 1000000000) (h3 : nd.safe.en.length + nd.loose.length + 1 ≤ 1000000) : N13 (nd.add (.app b)) :=
 ⟨by simp only [Nd.add, List.length_append, List.length_singleton]; exact h1, by
  have : (nd.add (.app b)).parts = nd.parts + b.length := by simp [Nd.add, Nd.parts, Stp.parts]
  rw [this]; show nd.safe.b.length + _ ≤ _; omega, by simp only [Nd.add, List.length_append, List.length_singleton]; omega, lsC_add (fun n e => by cases e) h.ok, fun s hs => by
  rcases List.mem_append.1 hs with q | q
  ·exact h.cm s q
  ·rw [List.mem_singleton.1 q]; exact hd⟩
theorem cApp13 {M B : Nat} (ln : List V) (k : Dk) (hln : ln = nodesV k.nodes) (hp : PkOk k B) (hK : K13 M k) (hM : M ≤ 900000) (b : Bs) (hB : B + b.length ≤ 1000000000) (hc : 0 ≤ k.cap ∧ k.cap ≤ 1000000) (i : Int) (hi : I64 i) : CallR Tryz.prog 35 [.agg [.slice ln, .int .i64 k.cap, .int .i64 k.ops, .int .i64 k.changes, .bool k.down, .bool k.fail.is, .int .i64 k.fail.after, .bool k.done, .bool k.full.is, .int .i64 k.full.after], .int .i64 i, .str b] fun rs => ∃ (lf : List V) (kf : Dk) (ef : Int), rs = [.v (.agg (diskC lf kf)), .v (.int .i64 ef)] ∧ lf = nodesV kf.nodes ∧ kf = (k.appD i b).1 ∧ ef = (k.appD i b).2 := by
 obtain ⟨kf, hkf⟩ : ∃ q, q = (k.appD i b).1 := ⟨_, rfl⟩
 obtain ⟨ef, hef⟩ : ∃ q, q = (k.appD i b).2 := ⟨_, rfl⟩
 obtain ⟨lf, hlf⟩ : ∃ q, q = nodesV kf.nodes := ⟨_, rfl⟩
 have hn := hp.most
 have hok := hK.n13 hp (by omega) (by omega)
 have s1 : ∀ e, e = k.ofE i false → e ≠ 0 → some (V.agg (diskC ln k)) = some (V.agg (diskC lf kf)) ∧ some (V.int .i64 e) = some (V.int .i64 ef) ∧ True := fun e he q => by
  have q1 : kf = k ∧ ef = e := by rw [hkf, hef, he]; unfold Dk.appD; rw [if_pos (he ▸ q)]; exact ⟨rfl, rfl⟩
  exact ⟨disk_eq (by rw [q1.1]) (by rw [hlf, q1.1]; exact hln), i64_eq q1.2.symm, trivial⟩
 have s2 : k.ofE i false = 0 → k.room i b.length < 0 → some (V.agg (diskC ln k)) = some (V.agg (diskC lf kf)) ∧ some (V.int .i64 11) = some (V.int .i64 ef) ∧ True := fun h0 q => by
  have q1 : kf = k ∧ ef = 11 := by rw [hkf, hef]; unfold Dk.appD; rw [if_neg (fun f => f h0), if_pos q]; exact ⟨rfl, rfl⟩
  exact ⟨disk_eq (by rw [q1.1]) (by rw [hlf, q1.1]; exact hln), i64_eq q1.2.symm, trivial⟩
 have s3 : ∀ k1 : Dk, k1 = { k with full := k.full.next } → k.ofE i false = 0 → ¬ k.room i b.length < 0 → k.full.hit = true → some (V.agg (diskC ln k1)) = some (V.agg (diskC lf kf)) ∧ some (V.int .i64 11) = some (V.int .i64 ef) ∧ True := fun k1 hk1 h0 q h3 => by
  have q1 : kf = k1 ∧ ef = 11 := by rw [hkf, hef]; unfold Dk.appD; rw [if_neg (fun f => f h0), if_neg q]; dsimp only; rw [if_pos h3, hk1]; exact ⟨rfl, rfl⟩
  exact ⟨disk_eq (by rw [q1.1]) (by rw [hlf, q1.1, hk1]; exact hln), i64_eq q1.2.symm, trivial⟩
 have s4 : ∀ (k1 : Dk) (j : Nat) (nd : Nd), k1 = { k with full := k.full.next } → k.ofE i false = 0 → ¬ k.room i b.length < 0 → k.full.hit = false → i = (j : Int) + 1 → k.nodes[j]? = some nd → ef = k1.opE ∧ kf = if k1.does then { k1.tick true with nodes := k1.nodes.set j (if b = [] then nd else nd.add (.app b)) } else k1.tick true := fun k1 j nd hk1 h0 q h3 hij hj => by
  rw [hkf, hef]; unfold Dk.appD; rw [if_neg (fun f => f h0), if_neg q]; dsimp only; rw [h3, if_neg (by simp), ← hk1, op_at hij (by rw [hk1]; exact hj)]; exact ⟨rfl, rfl⟩
 have hfu := cFull13 ln k
 refine .of _ ⟨lf, kf, ef, rfl, hlf, hkf, hef⟩ ?_
 clear hkf hef
 refine FnR.of' T_ok M_ok (fn := Tryz.f35) (by kernel_rfl) rfl rfl rfl rfl (Nat.le_of_ble_eq_true rfl) fun A hA => ?_
 cbv
 refine callI hA (cNode13 ln k hln (by omega) i hi false) ?_
 intro rs_ h_
 obtain ⟨e, q_1, he⟩ := h_
 subst q_1
 cbv
 refine condI hA (fun h1 => ?_) (fun h1 => ?_)
 ·have h1 := zneT hA h1
  cbv
  refine retI hA ?_
  exact s1 e he h1
 ·have h0 : k.ofE i false = 0 := he.symm.trans (zneF hA h1)
  obtain ⟨hdn, j, nd, hij, hj, hdir, hG⟩ := ofE_ok h0
  have hjl := (List.getElem?_eq_some_iff.1 hj).1
  have hNd := hok nd (List.mem_of_getElem? hj)
  have hKd := hK j nd hj
  have hKl := hKd.len
  have hsz := hp.sz nd (List.mem_of_getElem? hj)
  have hlo := cLoose ln k hln i j nd hij hj hn hNd.n false 0 b [] [] 0 (.app b) rfl
  have hby : ∀ l2, l2 = nodesV (k.nodes.set j (nd.add (.app b))) → CallR _ _ _ _ := fun l2 hl2 => cBytes l2 { k with nodes := k.nodes.set j (nd.add (.app b)) } hl2 (by rw [List.length_set]; exact hn) (fun a na ha e he => by
   rw [show ({ k with nodes := k.nodes.set j (nd.add (.app b)) } : Dk).nodes = k.nodes.set j (nd.add (.app b)) from rfl, List.length_set] at *
   rw [List.getElem?_set] at ha
   split at ha
   ·rename_i e1; subst e1
    cases ha; rw [(app_seen nd b).1] at he; exact hp.seen_en hj e he
   ·exact hp.seen_en ha e he) (fun na hna => by
   rcases List.mem_or_eq_of_mem_set hna with q | q
   ·exact hok na q
   ·rw [q]; exact hNd.add b hdir (by omega) (by omega) (by omega)) k.nodes.length 1 0 0 rfl (by rw [List.length_set]; omega) (by rw [List.length_set]; omega) 0 rfl (Nat.le_refl 0)
  dsimp only at hby
  have hrm := room13 hK hp (by omega) (by omega) hc hj hdir b (by omega) (x := { k with nodes := k.nodes.set j (nd.add (.app b)) }) rfl
  rw [← hij] at hrm
  have s2 := s2 h0
  have s3 := s3 { k with full := k.full.next } rfl h0
  have s4 := s4 { k with full := k.full.next } j nd rfl h0
  obtain ⟨rx, hrx⟩ : ∃ q : Nat, q = Dk.reach { k with nodes := k.nodes.set j (nd.add (.app b)) } (Dk.wtF { k with nodes := k.nodes.set j (nd.add (.app b)) }) k.nodes.length 0 := ⟨_, rfl⟩
  rw [← hrx] at hrm hby
  cbv
  refine callI hA (hlo) ?_
  intro rs_ h_
  obtain ⟨l2, q_1, hl2⟩ := h_
  subst q_1
  cbv
  refine chkI hA (by kernel_rfl) ?_
  cbv
  refine callI hA ((hby l2 hl2)) ?_
  intro rs_ h_
  obtain ⟨m, q_1, hm⟩ := h_
  subst q_1
  cbv
  refine condI hA (fun h2 => ?_) (fun h2 => ?_)
  ·have h2 : k.cap < m := zltT hA h2
   have h2 : k.room i b.length < 0 := by rw [← hrm]; rw [hm] at h2; exact h2
   have := s2 h2
   cbv
   refine retI hA ?_
   exact this
  ·have h2 : ¬ k.cap < m := zltF hA h2
   have h2 : ¬ k.room i b.length < 0 := by rw [← hrm]; rw [hm] at h2; exact h2
   have s3 := s3 h2
   have s4 := s4 h2
   cbv
   refine callI hA (hfu) ?_
   intro rs_ h_
   obtain ⟨k1, no, q_1, hk1, hno⟩ := h_
   subst q_1
   cbv
   rw [← hk1] at s3 s4
   have hst := cStep13 ln k1 true
   refine condI hA (fun h3 => ?_) (fun h3 => ?_)
   ·have := s3 (hno.symm.trans h3)
    cbv
    refine retI hA ?_
    exact this
   ·have h3 : k.full.hit = false := hno.symm.trans h3
    obtain ⟨q1, q2⟩ := s4 h3 hij hj
    have hk1n : k1.nodes = k.nodes := by rw [hk1]
    cbv
    refine callI hA (hst) ?_
    intro rs_ h_
    obtain ⟨k2, ok, e2, q_1, hk2, hok2, he2⟩ := h_
    subst q_1
    cbv
    obtain ⟨a1, a2⟩ := after_op q2 hk2 hok2
    have hk2n : k2.nodes = k.nodes := by rw [hk2]; exact hk1n
    have hlo2 := cLoose ln k2 (by rw [hk2n]; exact hln) i j nd hij (by rw [hk2n]; exact hj) (by rw [hk2n]; exact hn) hNd.n false 0 b [] [] 0 (.app b) rfl
    refine condI hA (fun h4 => ?_) (fun h4 => ?_)
    ·cbv
     refine condI hA (fun h5 => ?_) (fun h5 => ?_)
     ·have h5 : ¬ b = [] := by
       have h5 : 0 < A.lenS b := zltT hA h5
       rw [lenZ hA] at h5
       intro q; rw [q] at h5; exact absurd h5 (by simp)
      rw [if_neg h5] at a1
      cbv
      refine callI hA (hlo2) ?_
      intro rs_ h_
      obtain ⟨l3, q_1, hl3⟩ := h_
      subst q_1
      cbv
      refine retI hA ?_
      exact ⟨a1 h4 _ _ hl3 hlf, i64_eq (he2.trans q1.symm), trivial⟩
     ·have h5 : b = [] := by
       have h5 : ¬ 0 < A.lenS b := zltF hA h5
       rw [lenZ hA] at h5
       exact List.eq_nil_of_length_eq_zero (by omega)
      rw [if_pos h5] at a1
      have hset : ln = nodesV (k2.nodes.set j nd) := by
       rw [hk2n, hln]; congr 1
       obtain ⟨w1, w2⟩ := List.getElem?_eq_some_iff.1 hj
       rw [← w2, List.set_getElem_self]
      cbv
      refine retI hA ?_
      exact ⟨a1 h4 _ _ hset hlf, i64_eq (he2.trans q1.symm), trivial⟩
    ·cbv
     refine retI hA ?_
     exact ⟨a2 h4 _ _ (by rw [hk1n]; exact hln) hlf, i64_eq (he2.trans q1.symm), trivial⟩
end Go.Proofs.YthioccbgjkbmdaaGreat.AM
