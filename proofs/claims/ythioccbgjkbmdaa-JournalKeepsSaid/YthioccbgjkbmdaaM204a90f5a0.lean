/-
  Contracts: an op of a disk.
-/
import Derived.Test.YthioccbgjkbmdaaM19c4f0ed2d
set_option linter.unusedVariables false
set_option linter.unusedSimpArgs false
namespace Go.Proofs.Ythioccbgjkbmdaa.AM
open Go Go.RowKit
set_option maxRecDepth 100000
set_option maxHeartbeats 4000000

theorem GH.eq_of {a b : GH} (h1 : a.next = b.next) (h2 : ∀ x, a.get x = b.get x) : a = b := by
  cases a; cases b
  obtain rfl := h1
  obtain rfl := funext h2
  rfl
/-- What is counted ahead of an op. -/
def Dk.tick0 (k : Dk) (change : Bool) : Dk := { k with ops := w64 (k.ops + 1), changes := if change then w64 (k.changes + 1) else k.changes, fail := k.fail.next }
/-- What an op leaves. -/
def OpPost (gh : GH) (p : Nat) (k : Dk) (v : V) (change : Bool) (Q : GH → Prop) (g : GH) : Prop :=
  if k.does then ∃ g2, Q g2 ∧ (k.fail.hit = false → g = g2) ∧ (k.fail.hit = true → ∃ v' k', g2.get p = some (boxD v' k') ∧ g = g2.set p (boxD v' { k' with down := true })) else g = gh.set p (boxD v (k.tick0 change |> fun q => { q with down := true }))
theorem gOp2 {gh : GH} {p : Nat} {k : Dk} {v : V} (hg : gh.get p = some (boxD v k)) (change : Bool) (f : Nat) (xc0 xc1 : V) (Q : GH → Prop) (hdo : k.does = true → FnG Try.prog f [xc0, xc1] (gh.set p (boxD v (k.tick0 change))) fun rs g => rs = [] ∧ Q g) (hQ : ∀ g, Q g → ∃ v' k', g.get p = some (boxD v' k')) :
    FnG Try.prog 46 [.gp p 0, .bool change, .clo f [xc0, xc1]] gh fun rs g => ∃ e : Int, rs = [.v (.int .i64 e)] ∧ e = k.opE ∧ OpPost gh p k v change Q g := by
  have nx : ∀ (g2 g3 : GH), g2 = gh.set p (boxD v { k with ops := w64 (k.ops + 1), changes := if change then w64 (k.changes + 1) else k.changes }) → g3.next = g2.next → (∀ x, x ≠ p → g3.get x = g2.get x) → g3.get p = some (boxD v (k.tick0 change)) → g3 = gh.set p (boxD v (k.tick0 change)) := fun g2 g3 e1 e2 e3 e4 => by
    refine GH.eq_of (by rw [e2, e1]; rfl) fun x => ?_
    rcases Nat.decEq x p with h | h
    · rw [e3 x h, e1]; simp [h]
    · rw [h, e4]; simp
  have c1 : k.fail.hit = false → k.does = true ∧ k.opE = 0 := fun h => by simp [Dk.does, Dk.opE, h]
  have c2 : k.fail.hit = true → k.opE = 12 := fun h => by simp [Dk.opE, h]
  have c3 : k.done = true → k.does = true := fun h => by simp [Dk.does, h]
  have c4 : k.fail.hit = true → ¬ k.done = true → ¬ k.does = true := fun h h2 => by simp [Dk.does, h, h2]
  have c5 : ∀ g, k.fail.hit = false → Q g → OpPost gh p k v change Q g := fun g h hq => by
    unfold OpPost; rw [if_pos (c1 h).1]; exact ⟨g, hq, fun _ => rfl, fun e => by rw [h] at e; cases e⟩
  have c6 : ∀ g2 g v' k', k.fail.hit = true → k.done = true → Q g2 → g2.get p = some (boxD v' k') → g = g2.set p (boxD v' { k' with down := true }) → OpPost gh p k v change Q g := fun g2 g v' k' h hd hq e1 e2 => by
    unfold OpPost; rw [if_pos (c3 hd)]; exact ⟨g2, hq, fun e => by rw [h] at e; (cases e), fun _ => ⟨v', k', e1, e2⟩⟩
  have c7 : ∀ g2 g, k.fail.hit = true → ¬ k.done = true → g2 = gh.set p (boxD v (k.tick0 change)) → g = g2.set p (boxD v { k.tick0 change with down := true }) → OpPost gh p k v change Q g := fun g2 g h hd e1 e2 => by
    unfold OpPost; rw [if_neg (c4 h hd), e2, e1, set_set]
  cases change
  · refine FnG.of' T_ok M_ok [] (fn := Try.f46) (by kernel_rfl) rfl rfl rfl rfl (Nat.le_of_ble_eq_true rfl) fun A hA => ?_
    cbv
    refine gldI hA _ (hg) ?_
    cbv
    refine gstI hA _ hg ?_
    intro g1 hg1
    have hg1 : g1 = gh.set p (boxD v { k with ops := w64 (k.ops + 1) }) := hg1.trans (congrArg (fun n => gh.set p (boxD v { k with ops := n })) (zadd hA k.ops 1))
    obtain ⟨k1, hk1⟩ : ∃ q : Dk, q = { k with ops := w64 (k.ops + 1) } := ⟨_, rfl⟩
    have b1 : g1.get p = some (boxD v k1) := by rw [hg1, hk1]; simp
    cbv
    refine condF hA rfl ?_
    cbv
    refine callGI hA (gNext k1.fail b1 rfl rfl) ?_
    intro rs_ g3 h_
    obtain ⟨c, q_1, hc, e2, e3, e4⟩ := h_
    subst q_1
    cbv
    replace e4 : g3.get p = some (boxD v { k1 with fail := k1.fail.next }) := e4
    rw [hk1] at e4 hc
    have hg3 : g3 = gh.set p (boxD v (k.tick0 false)) := nx g1 g3 hg1 e2 e3 e4
    obtain ⟨k3, hk3⟩ : ∃ q : Dk, q = k.tick0 false := ⟨_, rfl⟩
    have b3 : g3.get p = some (boxD v k3) := by rw [hk3]; exact e4
    have hkd : k3.done = k.done := by rw [hk3]; rfl
    refine condI hA (fun h1 => ?_) (fun h1 => ?_)
    · have h1 : k.fail.hit = false := hc ▸ znotT hA h1
      have hd : FnG Try.prog f [xc0, xc1] g3 fun rs g => rs = [] ∧ Q g := by rw [hg3]; exact hdo (c1 h1).1
      cbv
      refine callGI hA (hd) ?_
      intro rs_ g4 h_
      obtain ⟨q_1, hq⟩ := h_
      subst q_1
      cbv
      exact retGI hA rfl [.v (.int .i64 0)] g4 (⟨_, rfl, (c1 h1).2.symm, c5 g4 h1 hq⟩) (by first | exact ⟨rfl, trivial⟩ | exact ⟨rfl, rfl, trivial⟩ | exact ⟨rfl, rfl, rfl, trivial⟩ | trivial)
    · have h1 : k.fail.hit = true := hc ▸ znotF hA h1
      cbv
      refine gldI hA _ (b3) ?_
      cbv
      refine condI hA (fun h2 => ?_) (fun h2 => ?_)
      · have h2 : k.done = true := hkd ▸ h2
        have hd : FnG Try.prog f [xc0, xc1] g3 fun rs g => rs = [] ∧ Q g := by rw [hg3]; exact hdo (c3 h2)
        cbv
        refine callGI hA (hd) ?_
        intro rs_ g4 h_
        obtain ⟨q_1, hq⟩ := h_
        subst q_1
        cbv
        obtain ⟨v', k', e5⟩ := hQ g4 hq
        refine gstI hA _ (e5) ?_
        rintro g5 hg5
        cbv
        exact retGI hA rfl [.v (.int .i64 12)] g5 (⟨_, rfl, (c2 h1).symm, c6 g4 g5 v' k' h1 h2 hq e5 hg5⟩) (by first | exact ⟨rfl, trivial⟩ | exact ⟨rfl, rfl, trivial⟩ | exact ⟨rfl, rfl, rfl, trivial⟩ | trivial)
      · cbv
        refine gstI hA _ (b3) ?_
        rintro g5 hg5
        cbv
        exact retGI hA rfl [.v (.int .i64 12)] g5 (⟨_, rfl, (c2 h1).symm, c7 g3 g5 h1 (by rw [← hkd, h2]; decide) hg3 (by rw [hg5, hk3]; rfl)⟩) (by first | exact ⟨rfl, trivial⟩ | exact ⟨rfl, rfl, trivial⟩ | exact ⟨rfl, rfl, rfl, trivial⟩ | trivial)
  · refine FnG.of' T_ok M_ok [] (fn := Try.f46) (by kernel_rfl) rfl rfl rfl rfl (Nat.le_of_ble_eq_true rfl) fun A hA => ?_
    cbv
    refine gldI hA _ (hg) ?_
    cbv
    refine gstI hA _ hg ?_
    intro g1 hg1
    have hg1 : g1 = gh.set p (boxD v { k with ops := w64 (k.ops + 1) }) := hg1.trans (congrArg (fun n => gh.set p (boxD v { k with ops := n })) (zadd hA k.ops 1))
    obtain ⟨k1, hk1⟩ : ∃ q : Dk, q = { k with ops := w64 (k.ops + 1) } := ⟨_, rfl⟩
    have b1 : g1.get p = some (boxD v k1) := by rw [hg1, hk1]; simp
    cbv
    refine condT hA rfl ?_
    cbv
    refine gldI hA _ (b1) ?_
    cbv
    refine gstI hA _ b1 ?_
    intro g2 hg2
    have hg2 : g2 = g1.set p (boxD v { k1 with changes := w64 (k1.changes + 1) }) := hg2.trans (congrArg (fun n => g1.set p (boxD v { k1 with changes := n })) (zadd hA k1.changes 1))
    have hg2 : g2 = gh.set p (boxD v { k with ops := w64 (k.ops + 1), changes := w64 (k.changes + 1) }) := hg2.trans (by rw [hg1, set_set, hk1])
    obtain ⟨k2, hk2⟩ : ∃ q : Dk, q = { k with ops := w64 (k.ops + 1), changes := w64 (k.changes + 1) } := ⟨_, rfl⟩
    have b2 : g2.get p = some (boxD v k2) := by rw [hg2, hk2]; simp
    cbv
    refine callGI hA (gNext k2.fail b2 rfl rfl) ?_
    intro rs_ g3 h_
    obtain ⟨c, q_1, hc, e2, e3, e4⟩ := h_
    subst q_1
    cbv
    replace e4 : g3.get p = some (boxD v { k2 with fail := k2.fail.next }) := e4
    rw [hk2] at e4 hc
    have hg3 : g3 = gh.set p (boxD v (k.tick0 true)) := nx g2 g3 hg2 e2 e3 e4
    obtain ⟨k3, hk3⟩ : ∃ q : Dk, q = k.tick0 true := ⟨_, rfl⟩
    have b3 : g3.get p = some (boxD v k3) := by rw [hk3]; exact e4
    have hkd : k3.done = k.done := by rw [hk3]; rfl
    refine condI hA (fun h1 => ?_) (fun h1 => ?_)
    · have h1 : k.fail.hit = false := hc ▸ znotT hA h1
      have hd : FnG Try.prog f [xc0, xc1] g3 fun rs g => rs = [] ∧ Q g := by rw [hg3]; exact hdo (c1 h1).1
      cbv
      refine callGI hA (hd) ?_
      intro rs_ g4 h_
      obtain ⟨q_1, hq⟩ := h_
      subst q_1
      cbv
      exact retGI hA rfl [.v (.int .i64 0)] g4 (⟨_, rfl, (c1 h1).2.symm, c5 g4 h1 hq⟩) (by first | exact ⟨rfl, trivial⟩ | exact ⟨rfl, rfl, trivial⟩ | exact ⟨rfl, rfl, rfl, trivial⟩ | trivial)
    · have h1 : k.fail.hit = true := hc ▸ znotF hA h1
      cbv
      refine gldI hA _ (b3) ?_
      cbv
      refine condI hA (fun h2 => ?_) (fun h2 => ?_)
      · have h2 : k.done = true := hkd ▸ h2
        have hd : FnG Try.prog f [xc0, xc1] g3 fun rs g => rs = [] ∧ Q g := by rw [hg3]; exact hdo (c3 h2)
        cbv
        refine callGI hA (hd) ?_
        intro rs_ g4 h_
        obtain ⟨q_1, hq⟩ := h_
        subst q_1
        cbv
        obtain ⟨v', k', e5⟩ := hQ g4 hq
        refine gstI hA _ (e5) ?_
        rintro g5 hg5
        cbv
        exact retGI hA rfl [.v (.int .i64 12)] g5 (⟨_, rfl, (c2 h1).symm, c6 g4 g5 v' k' h1 h2 hq e5 hg5⟩) (by first | exact ⟨rfl, trivial⟩ | exact ⟨rfl, rfl, trivial⟩ | exact ⟨rfl, rfl, rfl, trivial⟩ | trivial)
      · cbv
        refine gstI hA _ (b3) ?_
        rintro g5 hg5
        cbv
        exact retGI hA rfl [.v (.int .i64 12)] g5 (⟨_, rfl, (c2 h1).symm, c7 g3 g5 h1 (by rw [← hkd, h2]; decide) hg3 (by rw [hg5, hk3]; rfl)⟩) (by first | exact ⟨rfl, trivial⟩ | exact ⟨rfl, rfl, trivial⟩ | exact ⟨rfl, rfl, rfl, trivial⟩ | trivial)
theorem gOp3 {gh : GH} {p : Nat} {k : Dk} {v : V} (hg : gh.get p = some (boxD v k)) (change : Bool) (f : Nat) (xc0 xc1 xc2 : V) (Q : GH → Prop) (hdo : k.does = true → FnG Try.prog f [xc0, xc1, xc2] (gh.set p (boxD v (k.tick0 change))) fun rs g => rs = [] ∧ Q g) (hQ : ∀ g, Q g → ∃ v' k', g.get p = some (boxD v' k')) :
    FnG Try.prog 46 [.gp p 0, .bool change, .clo f [xc0, xc1, xc2]] gh fun rs g => ∃ e : Int, rs = [.v (.int .i64 e)] ∧ e = k.opE ∧ OpPost gh p k v change Q g := by
  have nx : ∀ (g2 g3 : GH), g2 = gh.set p (boxD v { k with ops := w64 (k.ops + 1), changes := if change then w64 (k.changes + 1) else k.changes }) → g3.next = g2.next → (∀ x, x ≠ p → g3.get x = g2.get x) → g3.get p = some (boxD v (k.tick0 change)) → g3 = gh.set p (boxD v (k.tick0 change)) := fun g2 g3 e1 e2 e3 e4 => by
    refine GH.eq_of (by rw [e2, e1]; rfl) fun x => ?_
    rcases Nat.decEq x p with h | h
    · rw [e3 x h, e1]; simp [h]
    · rw [h, e4]; simp
  have c1 : k.fail.hit = false → k.does = true ∧ k.opE = 0 := fun h => by simp [Dk.does, Dk.opE, h]
  have c2 : k.fail.hit = true → k.opE = 12 := fun h => by simp [Dk.opE, h]
  have c3 : k.done = true → k.does = true := fun h => by simp [Dk.does, h]
  have c4 : k.fail.hit = true → ¬ k.done = true → ¬ k.does = true := fun h h2 => by simp [Dk.does, h, h2]
  have c5 : ∀ g, k.fail.hit = false → Q g → OpPost gh p k v change Q g := fun g h hq => by
    unfold OpPost; rw [if_pos (c1 h).1]; exact ⟨g, hq, fun _ => rfl, fun e => by rw [h] at e; cases e⟩
  have c6 : ∀ g2 g v' k', k.fail.hit = true → k.done = true → Q g2 → g2.get p = some (boxD v' k') → g = g2.set p (boxD v' { k' with down := true }) → OpPost gh p k v change Q g := fun g2 g v' k' h hd hq e1 e2 => by
    unfold OpPost; rw [if_pos (c3 hd)]; exact ⟨g2, hq, fun e => by rw [h] at e; (cases e), fun _ => ⟨v', k', e1, e2⟩⟩
  have c7 : ∀ g2 g, k.fail.hit = true → ¬ k.done = true → g2 = gh.set p (boxD v (k.tick0 change)) → g = g2.set p (boxD v { k.tick0 change with down := true }) → OpPost gh p k v change Q g := fun g2 g h hd e1 e2 => by
    unfold OpPost; rw [if_neg (c4 h hd), e2, e1, set_set]
  cases change
  · refine FnG.of' T_ok M_ok [] (fn := Try.f46) (by kernel_rfl) rfl rfl rfl rfl (Nat.le_of_ble_eq_true rfl) fun A hA => ?_
    cbv
    refine gldI hA _ (hg) ?_
    cbv
    refine gstI hA _ hg ?_
    intro g1 hg1
    have hg1 : g1 = gh.set p (boxD v { k with ops := w64 (k.ops + 1) }) := hg1.trans (congrArg (fun n => gh.set p (boxD v { k with ops := n })) (zadd hA k.ops 1))
    obtain ⟨k1, hk1⟩ : ∃ q : Dk, q = { k with ops := w64 (k.ops + 1) } := ⟨_, rfl⟩
    have b1 : g1.get p = some (boxD v k1) := by rw [hg1, hk1]; simp
    cbv
    refine condF hA rfl ?_
    cbv
    refine callGI hA (gNext k1.fail b1 rfl rfl) ?_
    intro rs_ g3 h_
    obtain ⟨c, q_1, hc, e2, e3, e4⟩ := h_
    subst q_1
    cbv
    replace e4 : g3.get p = some (boxD v { k1 with fail := k1.fail.next }) := e4
    rw [hk1] at e4 hc
    have hg3 : g3 = gh.set p (boxD v (k.tick0 false)) := nx g1 g3 hg1 e2 e3 e4
    obtain ⟨k3, hk3⟩ : ∃ q : Dk, q = k.tick0 false := ⟨_, rfl⟩
    have b3 : g3.get p = some (boxD v k3) := by rw [hk3]; exact e4
    have hkd : k3.done = k.done := by rw [hk3]; rfl
    refine condI hA (fun h1 => ?_) (fun h1 => ?_)
    · have h1 : k.fail.hit = false := hc ▸ znotT hA h1
      have hd : FnG Try.prog f [xc0, xc1, xc2] g3 fun rs g => rs = [] ∧ Q g := by rw [hg3]; exact hdo (c1 h1).1
      cbv
      refine callGI hA (hd) ?_
      intro rs_ g4 h_
      obtain ⟨q_1, hq⟩ := h_
      subst q_1
      cbv
      exact retGI hA rfl [.v (.int .i64 0)] g4 (⟨_, rfl, (c1 h1).2.symm, c5 g4 h1 hq⟩) (by first | exact ⟨rfl, trivial⟩ | exact ⟨rfl, rfl, trivial⟩ | exact ⟨rfl, rfl, rfl, trivial⟩ | trivial)
    · have h1 : k.fail.hit = true := hc ▸ znotF hA h1
      cbv
      refine gldI hA _ (b3) ?_
      cbv
      refine condI hA (fun h2 => ?_) (fun h2 => ?_)
      · have h2 : k.done = true := hkd ▸ h2
        have hd : FnG Try.prog f [xc0, xc1, xc2] g3 fun rs g => rs = [] ∧ Q g := by rw [hg3]; exact hdo (c3 h2)
        cbv
        refine callGI hA (hd) ?_
        intro rs_ g4 h_
        obtain ⟨q_1, hq⟩ := h_
        subst q_1
        cbv
        obtain ⟨v', k', e5⟩ := hQ g4 hq
        refine gstI hA _ (e5) ?_
        rintro g5 hg5
        cbv
        exact retGI hA rfl [.v (.int .i64 12)] g5 (⟨_, rfl, (c2 h1).symm, c6 g4 g5 v' k' h1 h2 hq e5 hg5⟩) (by first | exact ⟨rfl, trivial⟩ | exact ⟨rfl, rfl, trivial⟩ | exact ⟨rfl, rfl, rfl, trivial⟩ | trivial)
      · cbv
        refine gstI hA _ (b3) ?_
        rintro g5 hg5
        cbv
        exact retGI hA rfl [.v (.int .i64 12)] g5 (⟨_, rfl, (c2 h1).symm, c7 g3 g5 h1 (by rw [← hkd, h2]; decide) hg3 (by rw [hg5, hk3]; rfl)⟩) (by first | exact ⟨rfl, trivial⟩ | exact ⟨rfl, rfl, trivial⟩ | exact ⟨rfl, rfl, rfl, trivial⟩ | trivial)
  · refine FnG.of' T_ok M_ok [] (fn := Try.f46) (by kernel_rfl) rfl rfl rfl rfl (Nat.le_of_ble_eq_true rfl) fun A hA => ?_
    cbv
    refine gldI hA _ (hg) ?_
    cbv
    refine gstI hA _ hg ?_
    intro g1 hg1
    have hg1 : g1 = gh.set p (boxD v { k with ops := w64 (k.ops + 1) }) := hg1.trans (congrArg (fun n => gh.set p (boxD v { k with ops := n })) (zadd hA k.ops 1))
    obtain ⟨k1, hk1⟩ : ∃ q : Dk, q = { k with ops := w64 (k.ops + 1) } := ⟨_, rfl⟩
    have b1 : g1.get p = some (boxD v k1) := by rw [hg1, hk1]; simp
    cbv
    refine condT hA rfl ?_
    cbv
    refine gldI hA _ (b1) ?_
    cbv
    refine gstI hA _ b1 ?_
    intro g2 hg2
    have hg2 : g2 = g1.set p (boxD v { k1 with changes := w64 (k1.changes + 1) }) := hg2.trans (congrArg (fun n => g1.set p (boxD v { k1 with changes := n })) (zadd hA k1.changes 1))
    have hg2 : g2 = gh.set p (boxD v { k with ops := w64 (k.ops + 1), changes := w64 (k.changes + 1) }) := hg2.trans (by rw [hg1, set_set, hk1])
    obtain ⟨k2, hk2⟩ : ∃ q : Dk, q = { k with ops := w64 (k.ops + 1), changes := w64 (k.changes + 1) } := ⟨_, rfl⟩
    have b2 : g2.get p = some (boxD v k2) := by rw [hg2, hk2]; simp
    cbv
    refine callGI hA (gNext k2.fail b2 rfl rfl) ?_
    intro rs_ g3 h_
    obtain ⟨c, q_1, hc, e2, e3, e4⟩ := h_
    subst q_1
    cbv
    replace e4 : g3.get p = some (boxD v { k2 with fail := k2.fail.next }) := e4
    rw [hk2] at e4 hc
    have hg3 : g3 = gh.set p (boxD v (k.tick0 true)) := nx g2 g3 hg2 e2 e3 e4
    obtain ⟨k3, hk3⟩ : ∃ q : Dk, q = k.tick0 true := ⟨_, rfl⟩
    have b3 : g3.get p = some (boxD v k3) := by rw [hk3]; exact e4
    have hkd : k3.done = k.done := by rw [hk3]; rfl
    refine condI hA (fun h1 => ?_) (fun h1 => ?_)
    · have h1 : k.fail.hit = false := hc ▸ znotT hA h1
      have hd : FnG Try.prog f [xc0, xc1, xc2] g3 fun rs g => rs = [] ∧ Q g := by rw [hg3]; exact hdo (c1 h1).1
      cbv
      refine callGI hA (hd) ?_
      intro rs_ g4 h_
      obtain ⟨q_1, hq⟩ := h_
      subst q_1
      cbv
      exact retGI hA rfl [.v (.int .i64 0)] g4 (⟨_, rfl, (c1 h1).2.symm, c5 g4 h1 hq⟩) (by first | exact ⟨rfl, trivial⟩ | exact ⟨rfl, rfl, trivial⟩ | exact ⟨rfl, rfl, rfl, trivial⟩ | trivial)
    · have h1 : k.fail.hit = true := hc ▸ znotF hA h1
      cbv
      refine gldI hA _ (b3) ?_
      cbv
      refine condI hA (fun h2 => ?_) (fun h2 => ?_)
      · have h2 : k.done = true := hkd ▸ h2
        have hd : FnG Try.prog f [xc0, xc1, xc2] g3 fun rs g => rs = [] ∧ Q g := by rw [hg3]; exact hdo (c3 h2)
        cbv
        refine callGI hA (hd) ?_
        intro rs_ g4 h_
        obtain ⟨q_1, hq⟩ := h_
        subst q_1
        cbv
        obtain ⟨v', k', e5⟩ := hQ g4 hq
        refine gstI hA _ (e5) ?_
        rintro g5 hg5
        cbv
        exact retGI hA rfl [.v (.int .i64 12)] g5 (⟨_, rfl, (c2 h1).symm, c6 g4 g5 v' k' h1 h2 hq e5 hg5⟩) (by first | exact ⟨rfl, trivial⟩ | exact ⟨rfl, rfl, trivial⟩ | exact ⟨rfl, rfl, rfl, trivial⟩ | trivial)
      · cbv
        refine gstI hA _ (b3) ?_
        rintro g5 hg5
        cbv
        exact retGI hA rfl [.v (.int .i64 12)] g5 (⟨_, rfl, (c2 h1).symm, c7 g3 g5 h1 (by rw [← hkd, h2]; decide) hg3 (by rw [hg5, hk3]; rfl)⟩) (by first | exact ⟨rfl, trivial⟩ | exact ⟨rfl, rfl, trivial⟩ | exact ⟨rfl, rfl, rfl, trivial⟩ | trivial)
theorem gOp5 {gh : GH} {p : Nat} {k : Dk} {v : V} (hg : gh.get p = some (boxD v k)) (change : Bool) (f : Nat) (xc0 xc1 xc2 xc3 xc4 : V) (Q : GH → Prop) (hdo : k.does = true → FnG Try.prog f [xc0, xc1, xc2, xc3, xc4] (gh.set p (boxD v (k.tick0 change))) fun rs g => rs = [] ∧ Q g) (hQ : ∀ g, Q g → ∃ v' k', g.get p = some (boxD v' k')) :
    FnG Try.prog 46 [.gp p 0, .bool change, .clo f [xc0, xc1, xc2, xc3, xc4]] gh fun rs g => ∃ e : Int, rs = [.v (.int .i64 e)] ∧ e = k.opE ∧ OpPost gh p k v change Q g := by
  have nx : ∀ (g2 g3 : GH), g2 = gh.set p (boxD v { k with ops := w64 (k.ops + 1), changes := if change then w64 (k.changes + 1) else k.changes }) → g3.next = g2.next → (∀ x, x ≠ p → g3.get x = g2.get x) → g3.get p = some (boxD v (k.tick0 change)) → g3 = gh.set p (boxD v (k.tick0 change)) := fun g2 g3 e1 e2 e3 e4 => by
    refine GH.eq_of (by rw [e2, e1]; rfl) fun x => ?_
    rcases Nat.decEq x p with h | h
    · rw [e3 x h, e1]; simp [h]
    · rw [h, e4]; simp
  have c1 : k.fail.hit = false → k.does = true ∧ k.opE = 0 := fun h => by simp [Dk.does, Dk.opE, h]
  have c2 : k.fail.hit = true → k.opE = 12 := fun h => by simp [Dk.opE, h]
  have c3 : k.done = true → k.does = true := fun h => by simp [Dk.does, h]
  have c4 : k.fail.hit = true → ¬ k.done = true → ¬ k.does = true := fun h h2 => by simp [Dk.does, h, h2]
  have c5 : ∀ g, k.fail.hit = false → Q g → OpPost gh p k v change Q g := fun g h hq => by
    unfold OpPost; rw [if_pos (c1 h).1]; exact ⟨g, hq, fun _ => rfl, fun e => by rw [h] at e; cases e⟩
  have c6 : ∀ g2 g v' k', k.fail.hit = true → k.done = true → Q g2 → g2.get p = some (boxD v' k') → g = g2.set p (boxD v' { k' with down := true }) → OpPost gh p k v change Q g := fun g2 g v' k' h hd hq e1 e2 => by
    unfold OpPost; rw [if_pos (c3 hd)]; exact ⟨g2, hq, fun e => by rw [h] at e; (cases e), fun _ => ⟨v', k', e1, e2⟩⟩
  have c7 : ∀ g2 g, k.fail.hit = true → ¬ k.done = true → g2 = gh.set p (boxD v (k.tick0 change)) → g = g2.set p (boxD v { k.tick0 change with down := true }) → OpPost gh p k v change Q g := fun g2 g h hd e1 e2 => by
    unfold OpPost; rw [if_neg (c4 h hd), e2, e1, set_set]
  cases change
  · refine FnG.of' T_ok M_ok [] (fn := Try.f46) (by kernel_rfl) rfl rfl rfl rfl (Nat.le_of_ble_eq_true rfl) fun A hA => ?_
    cbv
    refine gldI hA _ (hg) ?_
    cbv
    refine gstI hA _ hg ?_
    intro g1 hg1
    have hg1 : g1 = gh.set p (boxD v { k with ops := w64 (k.ops + 1) }) := hg1.trans (congrArg (fun n => gh.set p (boxD v { k with ops := n })) (zadd hA k.ops 1))
    obtain ⟨k1, hk1⟩ : ∃ q : Dk, q = { k with ops := w64 (k.ops + 1) } := ⟨_, rfl⟩
    have b1 : g1.get p = some (boxD v k1) := by rw [hg1, hk1]; simp
    cbv
    refine condF hA rfl ?_
    cbv
    refine callGI hA (gNext k1.fail b1 rfl rfl) ?_
    intro rs_ g3 h_
    obtain ⟨c, q_1, hc, e2, e3, e4⟩ := h_
    subst q_1
    cbv
    replace e4 : g3.get p = some (boxD v { k1 with fail := k1.fail.next }) := e4
    rw [hk1] at e4 hc
    have hg3 : g3 = gh.set p (boxD v (k.tick0 false)) := nx g1 g3 hg1 e2 e3 e4
    obtain ⟨k3, hk3⟩ : ∃ q : Dk, q = k.tick0 false := ⟨_, rfl⟩
    have b3 : g3.get p = some (boxD v k3) := by rw [hk3]; exact e4
    have hkd : k3.done = k.done := by rw [hk3]; rfl
    refine condI hA (fun h1 => ?_) (fun h1 => ?_)
    · have h1 : k.fail.hit = false := hc ▸ znotT hA h1
      have hd : FnG Try.prog f [xc0, xc1, xc2, xc3, xc4] g3 fun rs g => rs = [] ∧ Q g := by rw [hg3]; exact hdo (c1 h1).1
      cbv
      refine callGI hA (hd) ?_
      intro rs_ g4 h_
      obtain ⟨q_1, hq⟩ := h_
      subst q_1
      cbv
      exact retGI hA rfl [.v (.int .i64 0)] g4 (⟨_, rfl, (c1 h1).2.symm, c5 g4 h1 hq⟩) (by first | exact ⟨rfl, trivial⟩ | exact ⟨rfl, rfl, trivial⟩ | exact ⟨rfl, rfl, rfl, trivial⟩ | trivial)
    · have h1 : k.fail.hit = true := hc ▸ znotF hA h1
      cbv
      refine gldI hA _ (b3) ?_
      cbv
      refine condI hA (fun h2 => ?_) (fun h2 => ?_)
      · have h2 : k.done = true := hkd ▸ h2
        have hd : FnG Try.prog f [xc0, xc1, xc2, xc3, xc4] g3 fun rs g => rs = [] ∧ Q g := by rw [hg3]; exact hdo (c3 h2)
        cbv
        refine callGI hA (hd) ?_
        intro rs_ g4 h_
        obtain ⟨q_1, hq⟩ := h_
        subst q_1
        cbv
        obtain ⟨v', k', e5⟩ := hQ g4 hq
        refine gstI hA _ (e5) ?_
        rintro g5 hg5
        cbv
        exact retGI hA rfl [.v (.int .i64 12)] g5 (⟨_, rfl, (c2 h1).symm, c6 g4 g5 v' k' h1 h2 hq e5 hg5⟩) (by first | exact ⟨rfl, trivial⟩ | exact ⟨rfl, rfl, trivial⟩ | exact ⟨rfl, rfl, rfl, trivial⟩ | trivial)
      · cbv
        refine gstI hA _ (b3) ?_
        rintro g5 hg5
        cbv
        exact retGI hA rfl [.v (.int .i64 12)] g5 (⟨_, rfl, (c2 h1).symm, c7 g3 g5 h1 (by rw [← hkd, h2]; decide) hg3 (by rw [hg5, hk3]; rfl)⟩) (by first | exact ⟨rfl, trivial⟩ | exact ⟨rfl, rfl, trivial⟩ | exact ⟨rfl, rfl, rfl, trivial⟩ | trivial)
  · refine FnG.of' T_ok M_ok [] (fn := Try.f46) (by kernel_rfl) rfl rfl rfl rfl (Nat.le_of_ble_eq_true rfl) fun A hA => ?_
    cbv
    refine gldI hA _ (hg) ?_
    cbv
    refine gstI hA _ hg ?_
    intro g1 hg1
    have hg1 : g1 = gh.set p (boxD v { k with ops := w64 (k.ops + 1) }) := hg1.trans (congrArg (fun n => gh.set p (boxD v { k with ops := n })) (zadd hA k.ops 1))
    obtain ⟨k1, hk1⟩ : ∃ q : Dk, q = { k with ops := w64 (k.ops + 1) } := ⟨_, rfl⟩
    have b1 : g1.get p = some (boxD v k1) := by rw [hg1, hk1]; simp
    cbv
    refine condT hA rfl ?_
    cbv
    refine gldI hA _ (b1) ?_
    cbv
    refine gstI hA _ b1 ?_
    intro g2 hg2
    have hg2 : g2 = g1.set p (boxD v { k1 with changes := w64 (k1.changes + 1) }) := hg2.trans (congrArg (fun n => g1.set p (boxD v { k1 with changes := n })) (zadd hA k1.changes 1))
    have hg2 : g2 = gh.set p (boxD v { k with ops := w64 (k.ops + 1), changes := w64 (k.changes + 1) }) := hg2.trans (by rw [hg1, set_set, hk1])
    obtain ⟨k2, hk2⟩ : ∃ q : Dk, q = { k with ops := w64 (k.ops + 1), changes := w64 (k.changes + 1) } := ⟨_, rfl⟩
    have b2 : g2.get p = some (boxD v k2) := by rw [hg2, hk2]; simp
    cbv
    refine callGI hA (gNext k2.fail b2 rfl rfl) ?_
    intro rs_ g3 h_
    obtain ⟨c, q_1, hc, e2, e3, e4⟩ := h_
    subst q_1
    cbv
    replace e4 : g3.get p = some (boxD v { k2 with fail := k2.fail.next }) := e4
    rw [hk2] at e4 hc
    have hg3 : g3 = gh.set p (boxD v (k.tick0 true)) := nx g2 g3 hg2 e2 e3 e4
    obtain ⟨k3, hk3⟩ : ∃ q : Dk, q = k.tick0 true := ⟨_, rfl⟩
    have b3 : g3.get p = some (boxD v k3) := by rw [hk3]; exact e4
    have hkd : k3.done = k.done := by rw [hk3]; rfl
    refine condI hA (fun h1 => ?_) (fun h1 => ?_)
    · have h1 : k.fail.hit = false := hc ▸ znotT hA h1
      have hd : FnG Try.prog f [xc0, xc1, xc2, xc3, xc4] g3 fun rs g => rs = [] ∧ Q g := by rw [hg3]; exact hdo (c1 h1).1
      cbv
      refine callGI hA (hd) ?_
      intro rs_ g4 h_
      obtain ⟨q_1, hq⟩ := h_
      subst q_1
      cbv
      exact retGI hA rfl [.v (.int .i64 0)] g4 (⟨_, rfl, (c1 h1).2.symm, c5 g4 h1 hq⟩) (by first | exact ⟨rfl, trivial⟩ | exact ⟨rfl, rfl, trivial⟩ | exact ⟨rfl, rfl, rfl, trivial⟩ | trivial)
    · have h1 : k.fail.hit = true := hc ▸ znotF hA h1
      cbv
      refine gldI hA _ (b3) ?_
      cbv
      refine condI hA (fun h2 => ?_) (fun h2 => ?_)
      · have h2 : k.done = true := hkd ▸ h2
        have hd : FnG Try.prog f [xc0, xc1, xc2, xc3, xc4] g3 fun rs g => rs = [] ∧ Q g := by rw [hg3]; exact hdo (c3 h2)
        cbv
        refine callGI hA (hd) ?_
        intro rs_ g4 h_
        obtain ⟨q_1, hq⟩ := h_
        subst q_1
        cbv
        obtain ⟨v', k', e5⟩ := hQ g4 hq
        refine gstI hA _ (e5) ?_
        rintro g5 hg5
        cbv
        exact retGI hA rfl [.v (.int .i64 12)] g5 (⟨_, rfl, (c2 h1).symm, c6 g4 g5 v' k' h1 h2 hq e5 hg5⟩) (by first | exact ⟨rfl, trivial⟩ | exact ⟨rfl, rfl, trivial⟩ | exact ⟨rfl, rfl, rfl, trivial⟩ | trivial)
      · cbv
        refine gstI hA _ (b3) ?_
        rintro g5 hg5
        cbv
        exact retGI hA rfl [.v (.int .i64 12)] g5 (⟨_, rfl, (c2 h1).symm, c7 g3 g5 h1 (by rw [← hkd, h2]; decide) hg3 (by rw [hg5, hk3]; rfl)⟩) (by first | exact ⟨rfl, trivial⟩ | exact ⟨rfl, rfl, trivial⟩ | exact ⟨rfl, rfl, rfl, trivial⟩ | trivial)
theorem gOpM {gh : GH} {p : Nat} {k : Dk} {v : V} (hg : gh.get p = some (boxD v k)) (change : Bool) (f : Nat) (xc0 : V) (Q : GH → Prop) (hdo : k.does = true → FnG Try.prog f [xc0] (gh.set p (boxD v (k.tick0 change))) fun rs g => rs = [] ∧ Q g) (hQ : ∀ g, Q g → ∃ v' k', g.get p = some (boxD v' k')) :
    FnG Try.prog 46 [.gp p 0, .bool change, .mth f [xc0]] gh fun rs g => ∃ e : Int, rs = [.v (.int .i64 e)] ∧ e = k.opE ∧ OpPost gh p k v change Q g := by
  have nx : ∀ (g2 g3 : GH), g2 = gh.set p (boxD v { k with ops := w64 (k.ops + 1), changes := if change then w64 (k.changes + 1) else k.changes }) → g3.next = g2.next → (∀ x, x ≠ p → g3.get x = g2.get x) → g3.get p = some (boxD v (k.tick0 change)) → g3 = gh.set p (boxD v (k.tick0 change)) := fun g2 g3 e1 e2 e3 e4 => by
    refine GH.eq_of (by rw [e2, e1]; rfl) fun x => ?_
    rcases Nat.decEq x p with h | h
    · rw [e3 x h, e1]; simp [h]
    · rw [h, e4]; simp
  have c1 : k.fail.hit = false → k.does = true ∧ k.opE = 0 := fun h => by simp [Dk.does, Dk.opE, h]
  have c2 : k.fail.hit = true → k.opE = 12 := fun h => by simp [Dk.opE, h]
  have c3 : k.done = true → k.does = true := fun h => by simp [Dk.does, h]
  have c4 : k.fail.hit = true → ¬ k.done = true → ¬ k.does = true := fun h h2 => by simp [Dk.does, h, h2]
  have c5 : ∀ g, k.fail.hit = false → Q g → OpPost gh p k v change Q g := fun g h hq => by
    unfold OpPost; rw [if_pos (c1 h).1]; exact ⟨g, hq, fun _ => rfl, fun e => by rw [h] at e; cases e⟩
  have c6 : ∀ g2 g v' k', k.fail.hit = true → k.done = true → Q g2 → g2.get p = some (boxD v' k') → g = g2.set p (boxD v' { k' with down := true }) → OpPost gh p k v change Q g := fun g2 g v' k' h hd hq e1 e2 => by
    unfold OpPost; rw [if_pos (c3 hd)]; exact ⟨g2, hq, fun e => by rw [h] at e; (cases e), fun _ => ⟨v', k', e1, e2⟩⟩
  have c7 : ∀ g2 g, k.fail.hit = true → ¬ k.done = true → g2 = gh.set p (boxD v (k.tick0 change)) → g = g2.set p (boxD v { k.tick0 change with down := true }) → OpPost gh p k v change Q g := fun g2 g h hd e1 e2 => by
    unfold OpPost; rw [if_neg (c4 h hd), e2, e1, set_set]
  cases change
  · refine FnG.of' T_ok M_ok [] (fn := Try.f46) (by kernel_rfl) rfl rfl rfl rfl (Nat.le_of_ble_eq_true rfl) fun A hA => ?_
    cbv
    refine gldI hA _ (hg) ?_
    cbv
    refine gstI hA _ hg ?_
    intro g1 hg1
    have hg1 : g1 = gh.set p (boxD v { k with ops := w64 (k.ops + 1) }) := hg1.trans (congrArg (fun n => gh.set p (boxD v { k with ops := n })) (zadd hA k.ops 1))
    obtain ⟨k1, hk1⟩ : ∃ q : Dk, q = { k with ops := w64 (k.ops + 1) } := ⟨_, rfl⟩
    have b1 : g1.get p = some (boxD v k1) := by rw [hg1, hk1]; simp
    cbv
    refine condF hA rfl ?_
    cbv
    refine callGI hA (gNext k1.fail b1 rfl rfl) ?_
    intro rs_ g3 h_
    obtain ⟨c, q_1, hc, e2, e3, e4⟩ := h_
    subst q_1
    cbv
    replace e4 : g3.get p = some (boxD v { k1 with fail := k1.fail.next }) := e4
    rw [hk1] at e4 hc
    have hg3 : g3 = gh.set p (boxD v (k.tick0 false)) := nx g1 g3 hg1 e2 e3 e4
    obtain ⟨k3, hk3⟩ : ∃ q : Dk, q = k.tick0 false := ⟨_, rfl⟩
    have b3 : g3.get p = some (boxD v k3) := by rw [hk3]; exact e4
    have hkd : k3.done = k.done := by rw [hk3]; rfl
    refine condI hA (fun h1 => ?_) (fun h1 => ?_)
    · have h1 : k.fail.hit = false := hc ▸ znotT hA h1
      have hd : FnG Try.prog f [xc0] g3 fun rs g => rs = [] ∧ Q g := by rw [hg3]; exact hdo (c1 h1).1
      cbv
      refine callGI hA (hd) ?_
      intro rs_ g4 h_
      obtain ⟨q_1, hq⟩ := h_
      subst q_1
      cbv
      exact retGI hA rfl [.v (.int .i64 0)] g4 (⟨_, rfl, (c1 h1).2.symm, c5 g4 h1 hq⟩) (by first | exact ⟨rfl, trivial⟩ | exact ⟨rfl, rfl, trivial⟩ | exact ⟨rfl, rfl, rfl, trivial⟩ | trivial)
    · have h1 : k.fail.hit = true := hc ▸ znotF hA h1
      cbv
      refine gldI hA _ (b3) ?_
      cbv
      refine condI hA (fun h2 => ?_) (fun h2 => ?_)
      · have h2 : k.done = true := hkd ▸ h2
        have hd : FnG Try.prog f [xc0] g3 fun rs g => rs = [] ∧ Q g := by rw [hg3]; exact hdo (c3 h2)
        cbv
        refine callGI hA (hd) ?_
        intro rs_ g4 h_
        obtain ⟨q_1, hq⟩ := h_
        subst q_1
        cbv
        obtain ⟨v', k', e5⟩ := hQ g4 hq
        refine gstI hA _ (e5) ?_
        rintro g5 hg5
        cbv
        exact retGI hA rfl [.v (.int .i64 12)] g5 (⟨_, rfl, (c2 h1).symm, c6 g4 g5 v' k' h1 h2 hq e5 hg5⟩) (by first | exact ⟨rfl, trivial⟩ | exact ⟨rfl, rfl, trivial⟩ | exact ⟨rfl, rfl, rfl, trivial⟩ | trivial)
      · cbv
        refine gstI hA _ (b3) ?_
        rintro g5 hg5
        cbv
        exact retGI hA rfl [.v (.int .i64 12)] g5 (⟨_, rfl, (c2 h1).symm, c7 g3 g5 h1 (by rw [← hkd, h2]; decide) hg3 (by rw [hg5, hk3]; rfl)⟩) (by first | exact ⟨rfl, trivial⟩ | exact ⟨rfl, rfl, trivial⟩ | exact ⟨rfl, rfl, rfl, trivial⟩ | trivial)
  · refine FnG.of' T_ok M_ok [] (fn := Try.f46) (by kernel_rfl) rfl rfl rfl rfl (Nat.le_of_ble_eq_true rfl) fun A hA => ?_
    cbv
    refine gldI hA _ (hg) ?_
    cbv
    refine gstI hA _ hg ?_
    intro g1 hg1
    have hg1 : g1 = gh.set p (boxD v { k with ops := w64 (k.ops + 1) }) := hg1.trans (congrArg (fun n => gh.set p (boxD v { k with ops := n })) (zadd hA k.ops 1))
    obtain ⟨k1, hk1⟩ : ∃ q : Dk, q = { k with ops := w64 (k.ops + 1) } := ⟨_, rfl⟩
    have b1 : g1.get p = some (boxD v k1) := by rw [hg1, hk1]; simp
    cbv
    refine condT hA rfl ?_
    cbv
    refine gldI hA _ (b1) ?_
    cbv
    refine gstI hA _ b1 ?_
    intro g2 hg2
    have hg2 : g2 = g1.set p (boxD v { k1 with changes := w64 (k1.changes + 1) }) := hg2.trans (congrArg (fun n => g1.set p (boxD v { k1 with changes := n })) (zadd hA k1.changes 1))
    have hg2 : g2 = gh.set p (boxD v { k with ops := w64 (k.ops + 1), changes := w64 (k.changes + 1) }) := hg2.trans (by rw [hg1, set_set, hk1])
    obtain ⟨k2, hk2⟩ : ∃ q : Dk, q = { k with ops := w64 (k.ops + 1), changes := w64 (k.changes + 1) } := ⟨_, rfl⟩
    have b2 : g2.get p = some (boxD v k2) := by rw [hg2, hk2]; simp
    cbv
    refine callGI hA (gNext k2.fail b2 rfl rfl) ?_
    intro rs_ g3 h_
    obtain ⟨c, q_1, hc, e2, e3, e4⟩ := h_
    subst q_1
    cbv
    replace e4 : g3.get p = some (boxD v { k2 with fail := k2.fail.next }) := e4
    rw [hk2] at e4 hc
    have hg3 : g3 = gh.set p (boxD v (k.tick0 true)) := nx g2 g3 hg2 e2 e3 e4
    obtain ⟨k3, hk3⟩ : ∃ q : Dk, q = k.tick0 true := ⟨_, rfl⟩
    have b3 : g3.get p = some (boxD v k3) := by rw [hk3]; exact e4
    have hkd : k3.done = k.done := by rw [hk3]; rfl
    refine condI hA (fun h1 => ?_) (fun h1 => ?_)
    · have h1 : k.fail.hit = false := hc ▸ znotT hA h1
      have hd : FnG Try.prog f [xc0] g3 fun rs g => rs = [] ∧ Q g := by rw [hg3]; exact hdo (c1 h1).1
      cbv
      refine callGI hA (hd) ?_
      intro rs_ g4 h_
      obtain ⟨q_1, hq⟩ := h_
      subst q_1
      cbv
      exact retGI hA rfl [.v (.int .i64 0)] g4 (⟨_, rfl, (c1 h1).2.symm, c5 g4 h1 hq⟩) (by first | exact ⟨rfl, trivial⟩ | exact ⟨rfl, rfl, trivial⟩ | exact ⟨rfl, rfl, rfl, trivial⟩ | trivial)
    · have h1 : k.fail.hit = true := hc ▸ znotF hA h1
      cbv
      refine gldI hA _ (b3) ?_
      cbv
      refine condI hA (fun h2 => ?_) (fun h2 => ?_)
      · have h2 : k.done = true := hkd ▸ h2
        have hd : FnG Try.prog f [xc0] g3 fun rs g => rs = [] ∧ Q g := by rw [hg3]; exact hdo (c3 h2)
        cbv
        refine callGI hA (hd) ?_
        intro rs_ g4 h_
        obtain ⟨q_1, hq⟩ := h_
        subst q_1
        cbv
        obtain ⟨v', k', e5⟩ := hQ g4 hq
        refine gstI hA _ (e5) ?_
        rintro g5 hg5
        cbv
        exact retGI hA rfl [.v (.int .i64 12)] g5 (⟨_, rfl, (c2 h1).symm, c6 g4 g5 v' k' h1 h2 hq e5 hg5⟩) (by first | exact ⟨rfl, trivial⟩ | exact ⟨rfl, rfl, trivial⟩ | exact ⟨rfl, rfl, rfl, trivial⟩ | trivial)
      · cbv
        refine gstI hA _ (b3) ?_
        rintro g5 hg5
        cbv
        exact retGI hA rfl [.v (.int .i64 12)] g5 (⟨_, rfl, (c2 h1).symm, c7 g3 g5 h1 (by rw [← hkd, h2]; decide) hg3 (by rw [hg5, hk3]; rfl)⟩) (by first | exact ⟨rfl, trivial⟩ | exact ⟨rfl, rfl, trivial⟩ | exact ⟨rfl, rfl, rfl, trivial⟩ | trivial)
end Go.Proofs.Ythioccbgjkbmdaa.AM

/-
  Contracts: a new node; a new disk.
-/
set_option linter.unusedVariables false
set_option linter.unusedSimpArgs false
namespace Go.Proofs.Ythioccbgjkbmdaa.AM
open Go Go.RowKit
set_option maxRecDepth 100000
set_option maxHeartbeats 4000000

theorem NsV.app {gh : GH} {lab : Lab} {v : V} {ids : List Nat} (h : NsV gh lab v ids) : SlApp gh 1 (ids.map fun i => V.gp i 0) v := by
  rcases h with ⟨h1, h2⟩ | ⟨id, h1, _, h2⟩
  · exact .inl ⟨h1, by rw [h2]; rfl⟩
  · exact .inr (.inr ⟨id, by rw [h1, List.length_map], h2⟩)
def nd0 (dir : Bool) : Nd := ⟨dir, ⟨[], []⟩, []⟩
def NewT (n : Nat) (r : Nat × Nat) : Prop := r = (0, 6) ∨ r = (0, 7) ∨ NdT n r
/-- A node is put behind the others. -/
theorem DkX.push {gh g g5 g6 : GH} {lab lab' : Lab} {p : Nat} {k : Dk} {v : V} {ids : List Nat} (h : DkX gh lab p k v ids) {nid x : Nat} {nd : Nd} {m : Int}
    (u : Upd gh g lab lab' (NdT k.nodes.length) (fun _ => False)) (hN : NodeAt g lab' k.nodes.length nid nd) (hx : x = g.next) (e1 : g5.next = g.next + 1) (e2 : g5.get x = some (.arow 1 ((ids.map fun i => V.gp i 0) ++ [.gp nid 0]))) (e3 : ∀ j, j < g.next → (∀ n, v ≠ .gs j n) → g5.get j = g.get j) (e4 : m = (((ids.map fun i => V.gp i 0) ++ [V.gp nid 0]).length : Nat)) (e5 : g6 = g5.set p (boxD (.gs x m) k)) :
    m = ((k.nodes.length + 1 : Nat) : Int) ∧ ∃ lab6 ids', Upd gh g6 lab lab6 (NewT k.nodes.length) (fun _ => False) ∧ DkX g6 lab6 p { k with nodes := k.nodes ++ [nd] } (.gs x m) ids' ∧ ∀ (j id : Nat), ids[j]? = some id → ids'[j]? = some id := by
  subst hx
  have no : ∀ {j : Nat}, 5 < j → ¬ NdT k.nodes.length (0, j) := fun h t => by have := t.2; dsimp only at this; omega
  obtain ⟨q1, q2⟩ := upd_id h.dom u h.lp (no (by decide)) (fun h => h) h.box
  have hns := h.ns.upd h.dom u (no (by decide)) (fun _ h => h.elim)
  have hlen : m = ((k.nodes.length + 1 : Nat) : Int) := by rw [e4, ← h.len]; simp
  have hvl : ∀ j n, v = .gs j n → lab' j = some (0, 7) := fun j n e => by
    rcases hns with ⟨q, _⟩ | ⟨y, q, q3, _⟩
    · rw [q] at e; cases e
    · rw [q] at e; cases e; exact q3
  have u6 : Upd g g6 lab' (fun y => if y = g.next then some (0, 7) else lab' y) (fun r => r = (0, 6) ∨ r = (0, 7)) (fun _ => False) := by
    refine ⟨by rw [e5]; simp; omega, fun y hy => by rw [if_neg (by omega)], fun y hy => ?_, fun y hy _ t => ?_⟩
    · rw [e5] at hy; simp at hy
      rw [if_neg (by omega)]; exact u.dom y (by omega)
    · rw [e5]; simp only [GH.set_get]
      rw [if_neg (fun e => t (0, 6) (by rw [e]; exact q1) (.inl rfl))]
      exact e3 y hy fun n e => t (0, 7) (hvl y n e) (.inr rfl)
  have hp : p < g.next := u.dom.lt q1
  refine ⟨hlen, _, ids ++ [nid], (u.weak (T' := NewT k.nodes.length) (fun r t => .inr (.inr t)) (fun _ h => h.elim)).trans (u6.weak (fun r t => t.elim .inl (fun t => .inr (.inl t))) (fun _ h => h.elim)), ⟨u6.dom, (u6.old p hp).trans q1, by rw [e5]; simp; rfl, .inr ⟨g.next, by rw [e4]; simp, by simp, ?_⟩, by simp [h.len], fun i id nj h1 h2 => ?_⟩, fun j id q => by rw [List.getElem?_append_left (List.getElem?_eq_some_iff.1 q).1]; exact q⟩
  · rw [e5]; simp only [GH.set_get]; rw [if_neg (by omega), e2]; simp
  · have f : ∀ (r : Nat × Nat), r.2 ≤ 5 → ¬ (r = (0, 6) ∨ r = (0, 7)) := fun r hr e => by rcases e with rfl | rfl <;> simp at hr
    rcases Nat.lt_or_ge i k.nodes.length with q | q
    · have h1' : ids[i]? = some id := by rw [List.getElem?_append_left (by rw [h.len]; exact q)] at h1; exact h1
      have h2' : k.nodes[i]? = some nj := by dsimp only at h2; rw [List.getElem?_append_left q] at h2; exact h2
      exact ((h.at_ i id nj h1' h2').upd h.dom u (fun j _ t => by have := t.1; dsimp only at this; omega) (fun _ h => h.elim)).upd u.dom u6 (fun j hj => f _ hj) (fun _ h => h.elim)
    · dsimp only at h2
      have hi : i = k.nodes.length := by
        have := (List.getElem?_eq_some_iff.1 h2).1; simp at this; omega
      subst hi
      rw [List.getElem?_append_right (Nat.le_refl _)] at h2
      rw [List.getElem?_append_right (by rw [h.len]; exact Nat.le_refl _)] at h1
      simp [h.len] at h1 h2
      subst h1 h2
      exact hN.upd u.dom u6 (fun j hj => f _ hj) (fun _ h => h.elim)
section
variable {A : Prim} {R : List (Nat × AObj) → List D → Prop} (hA : A = std Try.prog R)
include hA
theorem gbxN {o : Oper} {t : Nat} {x : Operand} {gh : GH} {v : V} {K : V → GH → Prop} (hK : ∀ g' i, i = gh.next → g' = gh.new (.box v.flat) → K (.gp i 0) g') (ho : o.op = .box t x := by rfl) (hc : v.okc = true := by rfl) : A.gop o [v] gh K := gbxI hA (fun g' h => hK g' _ rfl h) ho hc
theorem gmakeN {o : Oper} {t : Nat} {gh : GH} {K : V → GH → Prop} (hK : ∀ g' i, i = gh.next → g' = gh.new (.map [] 0) → K (.gm i) g') (ho : o.op = .makeMap t none := by rfl) : A.gop o [] gh K := gmakeI hA (fun g' h => hK g' _ rfl h) ho
theorem gappN {o : Oper} {c : Call} {t t2 e z bt : Nat} {s x : Operand} {gh : GH} {y v : V} {K : V → GH → Prop} (l l2 : List V) (hy : SlApp gh z l y) (hsrc : SrcIs gh z v l2) (hne : l2 ≠ []) (hzl : ∀ x ∈ l, x.flat.length = z) (hroom : (l.length + l2.length) * bt ≤ 140737488355328)
    (hK : ∀ (g' : GH) (m : Int) (i : Nat), i = gh.next → g'.next = gh.next + 1 → g'.get i = some (.arow z (l ++ l2)) → (∀ j, j < gh.next → (∀ n, y ≠ .gs j n) → g'.get j = gh.get j) → m = ((l ++ l2).length : Nat) → K (.gs i m) g')
    (ho : o.op = .call c := by rfl) (hcb : c.callee = .builtin .append := by rfl) (hat : c.argTypes = #[t, t2] := by rfl) (has : c.args = #[s, x] := by rfl) (hkt : (tyOf t).k = .slice e := by rfl) (hkn : known (tyOf e).k = true := by rfl) (hz : (tyOf e).size = z := by rfl) (hbt : (tyOf e).bytes = bt := by rfl) (hz0 : 0 < z := by decide)
    (hst : isSrcV (tyOf t2).k v = true := by rfl) (hb0 : 0 < bt := by decide) : A.gop o [y, v] gh K :=
  gappSI hA l l2 hy hsrc hne hzl hroom (fun g' m h1 h2 h3 h4 => hK g' m _ rfl h1 h2 h3 h4) ho hcb hat has hkt hkn hz hbt hz0 hst hb0
end
theorem mp0 : MpOk [] 0 [] := ⟨by simp, by simp, .refl _, by first | exact .nil | simp [Ord]⟩
theorem gFresh {gh : GH} {lab : Lab} {p : Nat} {k : Dk} {v : V} {ids : List Nat} (h : DkX gh lab p k v ids) (dir : Bool) (hn : k.nodes.length ≤ 1000000000) : FnG Try.prog 26 [.gp p 0, .bool dir] gh fun rs g => ∃ (m : Int) (lab' : Lab) (v' : V) (ids' : List Nat), rs = [.v (.int .i64 m)] ∧ m = ((k.nodes.length + 1 : Nat) : Int) ∧ Upd gh g lab lab' (NewT k.nodes.length) (fun _ => False) ∧ DkX g lab' p { k with nodes := k.nodes ++ [nd0 dir] } v' ids' ∧ ∀ (j id : Nat), ids[j]? = some id → ids'[j]? = some id := by
  obtain ⟨n, hnn⟩ : ∃ n, n = k.nodes.length := ⟨_, rfl⟩
  have hp := h.dom.lt h.lp
  -- where the node has been made
  have mid : ∀ (g3 : GH) (lab3 : Lab) (g4 : GH) (lab4 : Lab) (nid : Nat), Upd gh g3 lab lab3 (fun _ => False) (fun _ => False) → Upd g3 g4 lab3 lab4 (fun r => r = (n, 0)) (fun _ => False) → Upd gh g4 lab lab4 (NdT k.nodes.length) (fun _ => False) ∧ g4.get p = some (boxD v k) ∧ SlApp g4 1 (ids.map fun i => V.gp i 0) v := fun g3 lab3 g4 lab4 nid u3 u4 => by
    have u : Upd gh g4 lab lab4 (NdT k.nodes.length) (fun _ => False) := (u3.weak (fun _ h => h.elim) (fun _ h => h.elim)).trans (u4.weak (fun r e => by rw [e, hnn]; exact ⟨rfl, Nat.zero_le _⟩) (fun _ h => h.elim))
    have no : ∀ {j : Nat}, 5 < j → ¬ NdT k.nodes.length (0, j) := fun h t => by have := t.2; dsimp only at this; omega
    exact ⟨u, (upd_id h.dom u h.lp (no (by decide)) (fun h => h) h.box).2, (h.ns.upd h.dom u (no (by decide)) (fun _ h => h.elim)).app⟩
  have hzl : ∀ x ∈ (ids.map fun i => V.gp i 0), x.flat.length = 1 := fun x hx => by
    obtain ⟨_, _, rfl⟩ := List.mem_map.1 hx
    rfl
  have hroom : ((ids.map fun i => V.gp i 0).length + 1) * 8 ≤ 140737488355328 := by
    rw [List.length_map, h.len]; omega
  obtain ⟨ls, hls⟩ : ∃ ls, ls = ids.map fun i => V.gp i 0 := ⟨_, rfl⟩
  rw [← hls] at mid hzl hroom
  have push : ∀ {g g5 g6 : GH} {lab' : Lab} {nid x : Nat} {nd : Nd} {m : Int}, Upd gh g lab lab' (NdT k.nodes.length) (fun _ => False) → NodeAt g lab' k.nodes.length nid nd → x = g.next → g5.next = g.next + 1 → g5.get x = some (.arow 1 (ls ++ [.gp nid 0])) → (∀ j, j < g.next → (∀ n, v ≠ .gs j n) → g5.get j = g.get j) → m = ((ls ++ [V.gp nid 0]).length : Nat) → g6 = g5.set p (boxD (.gs x m) k) →
      m = ((k.nodes.length + 1 : Nat) : Int) ∧ ∃ lab6 ids', Upd gh g6 lab lab6 (NewT k.nodes.length) (fun _ => False) ∧ DkX g6 lab6 p { k with nodes := k.nodes ++ [nd] } (.gs x m) ids' ∧ ∀ (j id : Nat), ids[j]? = some id → ids'[j]? = some id := fun u hN hx e1 e2 e3 e4 e5 => h.push u hN hx e1 (hls ▸ e2) e3 (hls ▸ e4) e5
  have hvp : ∀ (g : GH) (lab' : Lab), Upd gh g lab lab' (NdT k.nodes.length) (fun _ => False) → ∀ n, v ≠ .gs p n := fun g lab' u n e => by
    rcases h.ns with ⟨q, _⟩ | ⟨y, q, q3, _⟩
    · rw [q] at e; cases e
    · rw [q] at e; cases e
      rw [h.lp] at q3; cases q3
  have bp := h.box
  have hv : v = .nils ∨ ∃ a n, v = .gs a n := by
    rcases h.ns with ⟨q, _⟩ | ⟨y, q, _⟩
    · exact .inl q
    · exact .inr ⟨_, _, q⟩
  have hd := h.dom
  clear h
  rcases hv with rfl | ⟨va, vn, rfl⟩
  all_goals cases dir
  · refine FnG.of' T_ok M_ok [8, 24] (fn := Try.f26) (by kernel_rfl) rfl rfl rfl rfl (Nat.le_of_ble_eq_true rfl) fun A hA => ?_
    cbv
    refine gbxN hA ?_
    intro g1 nid hnid hg1
    have hb1 : g1.get nid = some (.box [.bool false, .nils, .nilmap, .nils, .nilmap, .nils]) := by rw [hg1, hnid]; simp; rfl
    cbv
    refine condF hA rfl ?_
    cbv
    have u3 : Upd gh g1 lab (fun x => if x = nid then some (n, 0) else lab x) (fun _ => False) (fun _ => False) := ⟨by rw [hg1]; simp, fun x hx => by rw [if_neg (by omega)], fun x hx => by
      rw [hg1] at hx; simp at hx
      rw [if_neg (by omega)]; exact hd x (by omega), fun x hx _ _ => by
      rw [hg1]; simp only [GH.new_get]; rw [if_neg (by omega)]⟩
    have hsy := gSyncG (i := n) (c := ⟨[], []⟩) (dir := false) u3.dom hb1 (by rw [if_pos rfl]) (.inl ⟨rfl, rfl⟩) ⟨rfl, rfl⟩ (by simp)
    refine callGI hA (hsy) ?_
    intro rs_ g4 h_
    obtain ⟨q_1, lab4, u4, hN⟩ := h_
    subst q_1
    cbv
    obtain ⟨u, bp4, hap⟩ := mid _ _ g4 lab4 nid u3 u4
    rw [hnn] at hN
    have hvp4 := hvp g4 lab4 u
    refine gldI hA _ (bp4) ?_
    cbv
    refine gappN hA ls [.gp nid 0] hap ?_ (by simp) hzl hroom ?_
    · exact ⟨rfl, by intro q hq; simp at hq; subst hq; rfl⟩
    intro g5 m x hx e1 e2 e3 e4
    have bp5 : g5.get p = some (boxD _ k) := (e3 p (Nat.lt_of_lt_of_le hp u.next) hvp4).trans bp4
    cbv
    refine gstI hA _ bp5 ?_
    intro g6 hg6
    have hg6 : g6 = g5.set p (boxD (.gs x m) k) := hg6
    obtain ⟨hm, lab6, ids', u6, hX, hids⟩ := push u hN hx e1 e2 e3 e4 hg6
    have bp6 := hX.box
    cbv
    refine gldI hA _ (bp6) ?_
    cbv
    refine glenI hA ?_
    cbv
    exact retGI hA rfl [.v (.int .i64 m)] g6 (⟨m, lab6, _, ids', rfl, hm, u6, hX, hids⟩) (by first | exact ⟨rfl, trivial⟩ | exact ⟨rfl, rfl, trivial⟩ | exact ⟨rfl, rfl, rfl, trivial⟩ | trivial)
  · refine FnG.of' T_ok M_ok [8, 24] (fn := Try.f26) (by kernel_rfl) rfl rfl rfl rfl (Nat.le_of_ble_eq_true rfl) fun A hA => ?_
    cbv
    refine gbxN hA ?_
    intro g1 nid hnid hg1
    have hb1 : g1.get nid = some (.box [.bool true, .nils, .nilmap, .nils, .nilmap, .nils]) := by rw [hg1, hnid]; simp; rfl
    cbv
    refine condT hA rfl ?_
    cbv
    refine gmakeN hA ?_
    intro g2 mid1 hmid hg2
    have hne : nid ≠ g1.next := by rw [hnid, hg1, GH.new_next]; omega
    have hb2 : g2.get nid = some (.box [.bool true, .nils, .nilmap, .nils, .nilmap, .nils]) := by rw [hg2]; simp only [GH.new_get]; rw [if_neg hne]; exact hb1
    cbv
    refine gstI hA _ hb2 ?_
    intro g3 hg3
    have hg3 : g3 = g2.set nid (.box [.bool true, .nils, .nilmap, .nils, .gm mid1, .nils]) := hg3
    cbv
    have hn1 : g1.next = gh.next + 1 := by rw [hg1]; rfl
    have u3 : Upd gh g3 lab (labN lab gh.next (n, 0) (n, 4)) (fun _ => False) (fun _ => False) := ⟨by rw [hg3, hg2, hg1]; simp; omega, fun x hx => by unfold labN; rw [if_neg (by omega), if_neg (by omega)], fun x hx => by
      rw [hg3, hg2, hg1] at hx; simp at hx
      unfold labN; rw [if_neg (by omega), if_neg (by omega)]; exact hd x (by omega), fun x hx _ _ => by
      rw [hg3]; simp only [GH.set_get]; rw [if_neg (by omega), hg2]; simp only [GH.new_get]; rw [if_neg (by omega), hg1]; simp only [GH.new_get]; rw [if_neg (by omega)]⟩
    have hb3 : g3.get nid = some (.box [.bool true, .nils, .nilmap, .nils, .gm mid1, .nils]) := by rw [hg3]; simp
    have hsy := gSyncG (i := n) (c := ⟨[], []⟩) (dir := true) u3.dom hb3 (by unfold labN; rw [if_pos hnid]) (.inl ⟨rfl, rfl⟩) ⟨mid1, [], 0, rfl, by unfold labN; rw [if_neg (by omega), if_pos (by omega)], by rw [hg3]; simp only [GH.set_get]; rw [if_neg (by omega), hg2, hmid]; simp; rfl, mp0⟩ (by simp)
    refine callGI hA (hsy) ?_
    intro rs_ g4 h_
    obtain ⟨q_1, lab4, u4, hN⟩ := h_
    subst q_1
    cbv
    obtain ⟨u, bp4, hap⟩ := mid _ _ g4 lab4 nid u3 u4
    rw [hnn] at hN
    have hvp4 := hvp g4 lab4 u
    refine gldI hA _ (bp4) ?_
    cbv
    refine gappN hA ls [.gp nid 0] hap ?_ (by simp) hzl hroom ?_
    · exact ⟨rfl, by intro q hq; simp at hq; subst hq; rfl⟩
    intro g5 m x hx e1 e2 e3 e4
    have bp5 : g5.get p = some (boxD _ k) := (e3 p (Nat.lt_of_lt_of_le hp u.next) hvp4).trans bp4
    cbv
    refine gstI hA _ bp5 ?_
    intro g6 hg6
    have hg6 : g6 = g5.set p (boxD (.gs x m) k) := hg6
    obtain ⟨hm, lab6, ids', u6, hX, hids⟩ := push u hN hx e1 e2 e3 e4 hg6
    have bp6 := hX.box
    cbv
    refine gldI hA _ (bp6) ?_
    cbv
    refine glenI hA ?_
    cbv
    exact retGI hA rfl [.v (.int .i64 m)] g6 (⟨m, lab6, _, ids', rfl, hm, u6, hX, hids⟩) (by first | exact ⟨rfl, trivial⟩ | exact ⟨rfl, rfl, trivial⟩ | exact ⟨rfl, rfl, rfl, trivial⟩ | trivial)
  · refine FnG.of' T_ok M_ok [8, 24] (fn := Try.f26) (by kernel_rfl) rfl rfl rfl rfl (Nat.le_of_ble_eq_true rfl) fun A hA => ?_
    cbv
    refine gbxN hA ?_
    intro g1 nid hnid hg1
    have hb1 : g1.get nid = some (.box [.bool false, .nils, .nilmap, .nils, .nilmap, .nils]) := by rw [hg1, hnid]; simp; rfl
    cbv
    refine condF hA rfl ?_
    cbv
    have u3 : Upd gh g1 lab (fun x => if x = nid then some (n, 0) else lab x) (fun _ => False) (fun _ => False) := ⟨by rw [hg1]; simp, fun x hx => by rw [if_neg (by omega)], fun x hx => by
      rw [hg1] at hx; simp at hx
      rw [if_neg (by omega)]; exact hd x (by omega), fun x hx _ _ => by
      rw [hg1]; simp only [GH.new_get]; rw [if_neg (by omega)]⟩
    have hsy := gSyncG (i := n) (c := ⟨[], []⟩) (dir := false) u3.dom hb1 (by rw [if_pos rfl]) (.inl ⟨rfl, rfl⟩) ⟨rfl, rfl⟩ (by simp)
    refine callGI hA (hsy) ?_
    intro rs_ g4 h_
    obtain ⟨q_1, lab4, u4, hN⟩ := h_
    subst q_1
    cbv
    obtain ⟨u, bp4, hap⟩ := mid _ _ g4 lab4 nid u3 u4
    rw [hnn] at hN
    have hvp4 := hvp g4 lab4 u
    refine gldI hA _ (bp4) ?_
    cbv
    refine gappN hA ls [.gp nid 0] hap ?_ (by simp) hzl hroom ?_
    · exact ⟨rfl, by intro q hq; simp at hq; subst hq; rfl⟩
    intro g5 m x hx e1 e2 e3 e4
    have bp5 : g5.get p = some (boxD _ k) := (e3 p (Nat.lt_of_lt_of_le hp u.next) hvp4).trans bp4
    cbv
    refine gstI hA _ bp5 ?_
    intro g6 hg6
    have hg6 : g6 = g5.set p (boxD (.gs x m) k) := hg6
    obtain ⟨hm, lab6, ids', u6, hX, hids⟩ := push u hN hx e1 e2 e3 e4 hg6
    have bp6 := hX.box
    cbv
    refine gldI hA _ (bp6) ?_
    cbv
    refine glenI hA ?_
    cbv
    exact retGI hA rfl [.v (.int .i64 m)] g6 (⟨m, lab6, _, ids', rfl, hm, u6, hX, hids⟩) (by first | exact ⟨rfl, trivial⟩ | exact ⟨rfl, rfl, trivial⟩ | exact ⟨rfl, rfl, rfl, trivial⟩ | trivial)
  · refine FnG.of' T_ok M_ok [8, 24] (fn := Try.f26) (by kernel_rfl) rfl rfl rfl rfl (Nat.le_of_ble_eq_true rfl) fun A hA => ?_
    cbv
    refine gbxN hA ?_
    intro g1 nid hnid hg1
    have hb1 : g1.get nid = some (.box [.bool true, .nils, .nilmap, .nils, .nilmap, .nils]) := by rw [hg1, hnid]; simp; rfl
    cbv
    refine condT hA rfl ?_
    cbv
    refine gmakeN hA ?_
    intro g2 mid1 hmid hg2
    have hne : nid ≠ g1.next := by rw [hnid, hg1, GH.new_next]; omega
    have hb2 : g2.get nid = some (.box [.bool true, .nils, .nilmap, .nils, .nilmap, .nils]) := by rw [hg2]; simp only [GH.new_get]; rw [if_neg hne]; exact hb1
    cbv
    refine gstI hA _ hb2 ?_
    intro g3 hg3
    have hg3 : g3 = g2.set nid (.box [.bool true, .nils, .nilmap, .nils, .gm mid1, .nils]) := hg3
    cbv
    have hn1 : g1.next = gh.next + 1 := by rw [hg1]; rfl
    have u3 : Upd gh g3 lab (labN lab gh.next (n, 0) (n, 4)) (fun _ => False) (fun _ => False) := ⟨by rw [hg3, hg2, hg1]; simp; omega, fun x hx => by unfold labN; rw [if_neg (by omega), if_neg (by omega)], fun x hx => by
      rw [hg3, hg2, hg1] at hx; simp at hx
      unfold labN; rw [if_neg (by omega), if_neg (by omega)]; exact hd x (by omega), fun x hx _ _ => by
      rw [hg3]; simp only [GH.set_get]; rw [if_neg (by omega), hg2]; simp only [GH.new_get]; rw [if_neg (by omega), hg1]; simp only [GH.new_get]; rw [if_neg (by omega)]⟩
    have hb3 : g3.get nid = some (.box [.bool true, .nils, .nilmap, .nils, .gm mid1, .nils]) := by rw [hg3]; simp
    have hsy := gSyncG (i := n) (c := ⟨[], []⟩) (dir := true) u3.dom hb3 (by unfold labN; rw [if_pos hnid]) (.inl ⟨rfl, rfl⟩) ⟨mid1, [], 0, rfl, by unfold labN; rw [if_neg (by omega), if_pos (by omega)], by rw [hg3]; simp only [GH.set_get]; rw [if_neg (by omega), hg2, hmid]; simp; rfl, mp0⟩ (by simp)
    refine callGI hA (hsy) ?_
    intro rs_ g4 h_
    obtain ⟨q_1, lab4, u4, hN⟩ := h_
    subst q_1
    cbv
    obtain ⟨u, bp4, hap⟩ := mid _ _ g4 lab4 nid u3 u4
    rw [hnn] at hN
    have hvp4 := hvp g4 lab4 u
    refine gldI hA _ (bp4) ?_
    cbv
    refine gappN hA ls [.gp nid 0] hap ?_ (by simp) hzl hroom ?_
    · exact ⟨rfl, by intro q hq; simp at hq; subst hq; rfl⟩
    intro g5 m x hx e1 e2 e3 e4
    have bp5 : g5.get p = some (boxD _ k) := (e3 p (Nat.lt_of_lt_of_le hp u.next) hvp4).trans bp4
    cbv
    refine gstI hA _ bp5 ?_
    intro g6 hg6
    have hg6 : g6 = g5.set p (boxD (.gs x m) k) := hg6
    obtain ⟨hm, lab6, ids', u6, hX, hids⟩ := push u hN hx e1 e2 e3 e4 hg6
    have bp6 := hX.box
    cbv
    refine gldI hA _ (bp6) ?_
    cbv
    refine glenI hA ?_
    cbv
    exact retGI hA rfl [.v (.int .i64 m)] g6 (⟨m, lab6, _, ids', rfl, hm, u6, hX, hids⟩) (by first | exact ⟨rfl, trivial⟩ | exact ⟨rfl, rfl, trivial⟩ | exact ⟨rfl, rfl, rfl, trivial⟩ | trivial)
def lab0 : Lab := fun _ => none
def dk0 (cap : Int) : Dk := ⟨[], cap, 0, 0, false, false, ⟨false, 0⟩, ⟨false, 0⟩⟩
def dkNew (cap : Int) : Dk := { dk0 cap with nodes := [nd0 true] }
theorem gNew (gh : GH) (lab : Lab) (hd : Dom gh lab) (hl : ∀ x, lab x ≠ some (0, 6)) (c : Int) (hc : 0 ≤ c) : FnG Try.prog 9 [.int .i64 c] gh fun rs g => ∃ (p : Nat) (lab' : Lab), rs = [.v (.gp p 0)] ∧ gh.next ≤ p ∧ Upd gh g lab lab' (NewT 0) (fun _ => False) ∧ DkIn g lab' p (dkNew c) := by
  have hX : ∀ (g1 : GH) (p : Nat), p = gh.next → g1 = gh.new (boxD .nils (dk0 c)) → DkX g1 (fun x => if x = p then some (0, 6) else lab x) p (dk0 c) .nils [] ∧ Upd gh g1 lab (fun x => if x = p then some (0, 6) else lab x) (NewT 0) (fun _ => False) := fun g1 p hp hg => by
    have hd1 : Dom g1 (fun x => if x = p then some (0, 6) else lab x) := fun x hx => by
      rw [hg] at hx; simp at hx
      dsimp only
      rw [if_neg (by omega)]; exact hd x (by omega)
    exact ⟨⟨hd1, by simp, by rw [hg, hp]; simp, .inl ⟨rfl, rfl⟩, rfl, fun i id nd h1 h2 => by simp at h1⟩, by rw [hg]; simp, fun x hx => by rw [if_neg (by omega)], hd1, fun x hx _ _ => by rw [hg]; simp only [GH.new_get]; rw [if_neg (by omega)]⟩
  refine FnG.of' T_ok M_ok [7] (fn := Try.f9) (by kernel_rfl) rfl rfl rfl rfl (Nat.le_of_ble_eq_true rfl) fun A hA => ?_
  cbv
  have hmx : A.imax 0 c = c := by
    rw [hA]
    change (if c > 0 then c else 0) = c
    split <;> omega
  refine gbxN hA ?_
  intro g1 p hp hg1
  have hg1 : g1 = gh.new (boxD .nils (dk0 c)) := hg1.trans (congrArg (fun n => gh.new (boxD .nils (dk0 n))) hmx)
  obtain ⟨hX1, u1⟩ := hX g1 p hp hg1
  cbv
  refine callGI hA (gFresh hX1 true (by simp [dk0])) ?_
  intro rs_ g2 h_
  obtain ⟨m, lab2, v2, ids2, q_1, hm, u2, hX2, _⟩ := h_
  subst q_1
  cbv
  exact retGI hA rfl [.v (.gp p 0)] g2 (⟨p, lab2, rfl, by omega, u1.trans u2, hX2.at, by simp [dkNew]⟩) (by first | exact ⟨rfl, trivial⟩ | exact ⟨rfl, rfl, trivial⟩ | exact ⟨rfl, rfl, rfl, trivial⟩ | trivial)
end Go.Proofs.Ythioccbgjkbmdaa.AM
