/-
  Contracts: a journal is opened.
-/
import Derived.Test.YthioccbgjkbmdaaM243f8093a4
set_option linter.unusedVariables false
set_option linter.unusedSimpArgs false
namespace Go.Proofs.Ythioccbgjkbmdaa.AM
open Go Go.RowKit
set_option maxRecDepth 100000
set_option maxHeartbeats 4000000

/-- What Open does: the disk, the file and the records (none: there is no journal), the error. -/
def Dk.openD (k : Dk) : Dk × Option (Int × List RecM) × Int :=
  let f := k.findE 1 jName
  if f.2 = 8 then (k, some (0, []), 0) else if f.2 ≠ 0 then (k, none, f.2) else if k.ofE f.1 true = 0 then (k, none, 10) else
  let b := (k.readM f.1 0 (sizeM k f.1)).1
  let s := scanM 0 b
  if s.2 < b.length then
    let c := k.cutD f.1 s.2
    if c.2 ≠ 0 then (c.1, none, c.2) else
    let y := c.1.syncD f.1
    if y.2 ≠ 0 then (y.1, none, y.2) else (y.1, some (f.1, s.1), 0)
  else (k, some (f.1, s.1), 0)
theorem newBox {gh g : GH} {lab : Lab} {x : Nat} {o : GObj} (hd : Dom gh lab) (hx : x = gh.next) (hg : g = gh.new o) : Upd gh g lab lab (fun _ => False) (fun _ => False) ∧ Side g lab x o :=
  ⟨Upd.mk0 hd (by rw [hg]; simp) (fun y hy _ _ => by rw [hg]; simp only [GH.new_get]; rw [if_neg (by omega)]), by rw [hg, hx]; simp, hd x (by rw [hx]; exact Nat.le_refl _), by rw [hg, hx]; simp⟩
theorem findE_i64 {k : Dk} {B : Nat} (h : PkOk k B) {i : Int} {s : Bs} : I64 (k.findE i s).1 := by
  rcases Decidable.em ((k.findE i s).2 = 0) with q | q
  · obtain ⟨_, j0, j1, n0, n1, r1, r2, r3, r4, r5, r6⟩ := findE_ok h q
    have := h.most
    have := (List.getElem?_eq_some_iff.1 r5).1
    rw [r4]; unfold I64; omega
  · have : (k.findE i s).1 = 0 := by
      unfold Dk.findE at *
      split
      · rfl
      · rename_i q2
        rw [if_neg q2] at q
        split at q
        · split at q
          · exact absurd rfl q
          · rfl
        · rfl
    rw [this]; unfold I64; omega
theorem sizeM_i64 {k : Dk} {B : Nat} (h : PkOk k B) (hB : B ≤ 1000000000) (i : Int) : I64 (sizeM k i) := by
  unfold sizeM
  split
  · split
    · rename_i nd hnd
      unfold Dk.node? at hnd
      split at hnd
      · have h1 := h.sz nd (List.mem_of_getElem? hnd)
        have h2 := seen_len nd
        unfold I64; omega
      · cases hnd
    · unfold I64; omega
  · unfold I64; omega
theorem readM_len {k : Dk} {B : Nat} (h : PkOk k B) (i a n : Int) : (k.readM i a n).1.length ≤ B := by
  unfold Dk.readM
  split
  · simp
  · split
    · rename_i nd hnd
      split
      · simp
      · unfold Dk.node? at hnd
        split at hnd
        · have h1 := h.sz nd (List.mem_of_getElem? hnd)
          have h2 := seen_len nd
          simp only [List.length_take, List.length_drop]; omega
        · cases hnd
    · simp
theorem gOpen1 {gh : GH} {lab : Lab} {p : Nat} {k : Dk} {B : Nat} (h : DI gh lab p k B) (hB : B ≤ 1000000000) (i : Int) (hi : I64 i) (n : Int) : FnG Try.prog 31 [.ref [.gp p 0], .ref [.int .i64 i], .ref [.int .i64 n]] gh fun rs g => ∃ e : Int, rs = [.v (.int .i64 e)] ∧ e = (k.cutD i n).2 ∧ Did gh lab p (k.cutD i n).1 (B + 1) g := by
  have ha := dCut h hB i hi n
  refine FnG.of' T_ok M_ok [] (fn := Try.f31) (by kernel_rfl) rfl rfl rfl rfl (Nat.le_of_ble_eq_true rfl) fun A hA => ?_
  cbv
  refine callGI hA (ha) ?_
  intro rs_ g h_
  obtain ⟨e, q_1, hq⟩ := h_
  subst q_1
  cbv
  exact retGI hA rfl [.v (.int .i64 e)] g (⟨e, rfl, hq⟩) (by first | exact ⟨rfl, trivial⟩ | exact ⟨rfl, rfl, trivial⟩ | exact ⟨rfl, rfl, rfl, trivial⟩ | trivial)
theorem gOpen2 {gh : GH} {lab : Lab} {p : Nat} {k : Dk} {B : Nat} (h : DI gh lab p k B) (hB : B ≤ 1000000000) (i : Int) (hi : I64 i) : FnG Try.prog 33 [.ref [.gp p 0], .ref [.int .i64 i]] gh fun rs g => ∃ e : Int, rs = [.v (.int .i64 e)] ∧ e = (k.syncD i).2 ∧ Did gh lab p (k.syncD i).1 B g := by
  have ha := dSync h hB i hi
  refine FnG.of' T_ok M_ok [] (fn := Try.f33) (by kernel_rfl) rfl rfl rfl rfl (Nat.le_of_ble_eq_true rfl) fun A hA => ?_
  cbv
  refine callGI hA (ha) ?_
  intro rs_ g h_
  obtain ⟨e, q_1, hq⟩ := h_
  subst q_1
  cbv
  exact retGI hA rfl [.v (.int .i64 e)] g (⟨e, rfl, hq⟩) (by first | exact ⟨rfl, trivial⟩ | exact ⟨rfl, rfl, trivial⟩ | exact ⟨rfl, rfl, rfl, trivial⟩ | trivial)
theorem gOpen {gh : GH} {lab : Lab} {p : Nat} {k : Dk} {B : Nat} (h : DI gh lab p k B) (hB : B + 2 ≤ 1000000000) : FnG Try.prog 10 [.gp p 0] gh fun rs g => ∃ (x : V) (l : List V) (e : Int), rs = [.v x, .v (.slice l), .v (.int .i64 e)] ∧ e = k.openD.2.2 ∧ ∃ lab', Upd gh g lab lab' (fun _ => True) (fun _ => False) ∧ DI g lab' p k.openD.1 (B + 2) ∧ match k.openD.2.1 with
    | none => x = .nilp ∧ l = []
    | some (f, rs) => l = recsV rs ∧ ∃ jp, x = .gp jp 0 ∧ gh.next ≤ jp ∧ Side g lab' jp (jBox p f (rs.length : Nat)) := by
  have hfi := dFind h 1 i64_1 jName
  have hB0 : B ≤ 1000000000 := by omega
  have hB1 : B + 1 ≤ 1000000000 := by omega
  have nojr : k.openD.2.1 = none → ∀ (g : GH) (lab' : Lab) (e : Int), e = k.openD.2.2 → Upd gh g lab lab' (fun _ => True) (fun _ => False) → DI g lab' p k.openD.1 (B + 2) → ∃ (x : V) (l : List V) (e' : Int), [Rs.v .nilp, Rs.v (.slice []), Rs.v (.int .i64 e)] = [.v x, .v (.slice l), .v (.int .i64 e')] ∧ e' = k.openD.2.2 ∧ ∃ lab', Upd gh g lab lab' (fun _ => True) (fun _ => False) ∧ DI g lab' p k.openD.1 (B + 2) ∧ match k.openD.2.1 with
    | none => x = .nilp ∧ l = []
    | some (f, rs) => l = recsV rs ∧ ∃ jp, x = .gp jp 0 ∧ gh.next ≤ jp ∧ Side g lab' jp (jBox p f (rs.length : Nat)) := fun h0 g lab' e he u hd => ⟨.nilp, [], e, rfl, he, lab', u, hd, by rw [h0]; exact ⟨rfl, rfl⟩⟩
  have hu0 : Upd gh gh lab lab (fun _ => True) (fun _ => False) := Upd.refl h.i.at_.1 _ _
  refine FnG.of' T_ok M_ok [24, 65] (fn := Try.f10) (by kernel_rfl) rfl rfl rfl rfl (Nat.le_of_ble_eq_true rfl) fun A hA => ?_
  cbv
  refine callGI hA (hfi) ?_
  intro rs_ g_ h_
  obtain ⟨f, e, q_1, hf, he, q_2⟩ := h_
  subst q_1
  subst q_2
  cbv
  refine condI hA (fun h1 => ?_) (fun h1 => ?_)
  · have h1 : (k.findE 1 jName).2 = 8 := he ▸ zeqT hA h1
    have q : k.openD = (k, some (0, []), 0) := by unfold Dk.openD; dsimp only; rw [if_pos h1]
    cbv
    refine gbxN hA ?_
    intro g1 jp hjp hg1
    obtain ⟨u1, hs1⟩ := newBox h.i.at_.1 hjp hg1
    cbv
    exact retGI hA rfl [.v (.gp jp 0), .v (.slice []), .v (.int .i64 0)] g1 ⟨_, _, 0, rfl, by rw [q], lab, u1.weak (fun _ h => h.elim) (fun _ h => h.elim), by rw [q]; exact (h.upd u1 (fun _ h => h.elim)).mono (Nat.le_add_right _ _), by rw [q]; exact ⟨rfl, jp, rfl, Nat.le_of_eq hjp.symm, hs1⟩⟩ (by first | exact ⟨rfl, rfl, rfl, trivial⟩ | trivial)
  · have h1 : (k.findE 1 jName).2 ≠ 8 := he ▸ zeqF hA h1
    cbv
    refine condI hA (fun h2 => ?_) (fun h2 => ?_)
    · have h2 : (k.findE 1 jName).2 ≠ 0 := he ▸ zneT hA h2
      have q : k.openD = (k, none, (k.findE 1 jName).2) := by unfold Dk.openD; dsimp only; rw [if_neg h1, if_pos h2]
      cbv
      exact retGI hA rfl [.v .nilp, .v (.slice []), .v (.int .i64 e)] gh (nojr (by rw [q]) gh lab e (by rw [q]; exact he) hu0 (by rw [q]; exact h.mono (Nat.le_add_right _ _))) (by first | exact ⟨rfl, rfl, rfl, trivial⟩ | trivial)
    · have h2 : (k.findE 1 jName).2 = 0 := he ▸ zneF hA h2
      have hi : I64 f := hf ▸ findE_i64 h.ok
      have hid := gIsDir h.i f hi
      have hsz := gSize h.i f hi
      have hrd : ∀ n, I64 n → FnG _ _ _ _ _ := fun n hn => dRead h (by omega) f 0 n hi (by unfold I64; omega) hn
      cbv
      refine callGI hA (hid) ?_
      intro rs_ g_ h_
      obtain ⟨c, q_1, hc, q_2⟩ := h_
      subst q_1
      subst q_2
      cbv
      refine condI hA (fun h3 => ?_) (fun h3 => ?_)
      · have h3 : k.ofE (k.findE 1 jName).1 true = 0 := by rw [hc, hf] at h3; exact of_decide_eq_true h3
        have q : k.openD = (k, none, 10) := by unfold Dk.openD; dsimp only; rw [if_neg h1, if_neg (fun f => f h2), if_pos h3]
        cbv
        exact retGI hA rfl [.v .nilp, .v (.slice []), .v (.int .i64 10)] gh (nojr (by rw [q]) gh lab 10 (by rw [q]) hu0 (by rw [q]; exact h.mono (Nat.le_add_right _ _))) (by first | exact ⟨rfl, rfl, rfl, trivial⟩ | trivial)
      · have h3 : ¬ k.ofE (k.findE 1 jName).1 true = 0 := fun q => by rw [hc, hf, decide_eq_true q] at h3; cases h3
        obtain ⟨sz, hszz⟩ : ∃ sz, sz = sizeM k f := ⟨_, rfl⟩
        have hszi : I64 sz := hszz ▸ sizeM_i64 h.ok (by omega) f
        obtain ⟨rb, hrb⟩ : ∃ b, b = (k.readM f 0 sz).1 := ⟨_, rfl⟩
        obtain ⟨bl, hbl⟩ : ∃ b, b = bytesV (k.readM f 0 sz).1 := ⟨_, rfl⟩
        obtain ⟨e2, he2⟩ : ∃ e, e = (k.readM f 0 sz).2 := ⟨_, rfl⟩
        have hrl : rb.length ≤ B := hrb ▸ readM_len h.ok f 0 sz
        have hsc := cScan rb bl (hrb ▸ hbl) (by omega)
        cbv
        refine chkI hA (by kernel_rfl) ?_
        cbv
        refine callHI hA [.v (.int .i64 sz)] (hsz.mono fun rs g ⟨x, q1, q2, q3⟩ => ⟨by rw [q1, q2, hszz], q3.symm⟩) ?_
        cbv
        refine callHI hA [.v (.slice bl), .v (.int .i64 e2)] ((hrd sz hszi).mono fun rs g ⟨x, y, q1, q2, q3, q4⟩ => ⟨by rw [q1, q2, q3, hbl, he2], q4.symm⟩) ?_
        cbv
        refine callI hA (hsc) ?_
        intro rs_ h_
        obtain ⟨rl, gd, q_1, hrl2, hgd⟩ := h_
        subst q_1
        cbv
        have hbb : (k.readM (k.findE 1 jName).1 0 (sizeM k (k.findE 1 jName).1)).1 = rb := by rw [hrb, hszz, hf]
        have q0 : k.openD = if (scanM 0 rb).2 < rb.length then (if (k.cutD f (scanM 0 rb).2).2 ≠ 0 then ((k.cutD f (scanM 0 rb).2).1, none, (k.cutD f (scanM 0 rb).2).2) else if ((k.cutD f (scanM 0 rb).2).1.syncD f).2 ≠ 0 then (((k.cutD f (scanM 0 rb).2).1.syncD f).1, none, ((k.cutD f (scanM 0 rb).2).1.syncD f).2) else (((k.cutD f (scanM 0 rb).2).1.syncD f).1, some (f, (scanM 0 rb).1), 0)) else (k, some (f, (scanM 0 rb).1), 0) := by
          unfold Dk.openD; dsimp only; rw [if_neg h1, if_neg (fun f => f h2), if_neg h3, hbb, ← hf]
        have hjl : A.lenL rl = ((scanM 0 rb).1.length : Nat) := lenR hA hrl2
        refine condI hA (fun h4 => ?_) (fun h4 => ?_)
        · have h4 : (scanM 0 rb).2 < rb.length := by
            have h4 : gd < A.lenL bl := zltT hA h4
            rw [hgd, lenI hA (hrb ▸ hbl)] at h4; exact Int.ofNat_lt.1 h4
          rw [if_pos h4, ← natEq hgd] at q0
          have hch := gChain (gh := gh) [(false, 31, [.ref [.gp p 0], .ref [.int .i64 f], .ref [.int .i64 gd]]), (false, 33, [.ref [.gp p 0], .ref [.int .i64 f]])] _ rfl (Nat.le_of_ble_eq_true rfl) (fun e g => (e = (k.cutD f gd).2 ∧ e ≠ 0 ∧ Did gh lab p (k.cutD f gd).1 (B + 1) g) ∨ ((k.cutD f gd).2 = 0 ∧ e = ((k.cutD f gd).1.syncD f).2 ∧ Did gh lab p ((k.cutD f gd).1.syncD f).1 (B + 1) g))
            ⟨.inr (.inr ⟨rfl, _, _, _, rfl⟩), fun e g => e = (k.cutD f gd).2 ∧ Did gh lab p (k.cutD f gd).1 (B + 1) g, gOpen1 h hB0 f hi gd, fun e g q h0 => .inl ⟨q.1, h0, q.2⟩, fun g ⟨q1, lab1, u1, hd1⟩ =>
              ⟨.inr (.inl ⟨rfl, _, _, rfl⟩), fun e g => e = ((k.cutD f gd).1.syncD f).2 ∧ Did gh lab p ((k.cutD f gd).1.syncD f).1 (B + 1) g, (gOpen2 hd1 hB1 f hi).mono fun rs g2 ⟨e, r1, r2, lab2, u2, hd2⟩ => ⟨e, r1, r2, lab2, u1.trans u2, hd2⟩, fun e g q h0 => .inr ⟨q1.symm, q.1, q.2⟩, fun g q => .inr ⟨q1.symm, q.1, q.2⟩⟩⟩
          cbv
          refine callGI hA (hch) ?_
          intro rs_ g2 h_
          obtain ⟨e3, q_1, hq⟩ := h_
          subst q_1
          cbv
          refine condI hA (fun h5 => ?_) (fun h5 => ?_)
          · have h5 := zneT hA h5
            cbv
            rcases hq with ⟨p1, p2, lab2, u2, hd2⟩ | ⟨p1, p2, lab2, u2, hd2⟩
            · have q : k.openD = ((k.cutD f gd).1, none, e3) := by rw [q0, if_pos (p1 ▸ p2), p1]
              exact retGI hA rfl [.v .nilp, .v (.slice []), .v (.int .i64 e3)] g2 (nojr (by rw [q]) g2 lab2 e3 (by rw [q]) u2 (by rw [q]; exact hd2.mono (Nat.le_succ _))) (by first | exact ⟨rfl, rfl, rfl, trivial⟩ | trivial)
            · have q : k.openD = (((k.cutD f gd).1.syncD f).1, none, e3) := by rw [q0, if_neg (fun f => f p1), if_pos (p2 ▸ h5), p2]
              exact retGI hA rfl [.v .nilp, .v (.slice []), .v (.int .i64 e3)] g2 (nojr (by rw [q]) g2 lab2 e3 (by rw [q]) u2 (by rw [q]; exact hd2.mono (Nat.le_succ _))) (by first | exact ⟨rfl, rfl, rfl, trivial⟩ | trivial)
          · have h5 := zneF hA h5
            rcases hq with ⟨p1, p2, _⟩ | ⟨p1, p2, lab2, u2, hd2⟩
            · exact absurd h5 p2
            have q : k.openD = (((k.cutD f gd).1.syncD f).1, some (f, (scanM 0 rb).1), 0) := by rw [q0, if_neg (fun f => f p1), if_neg (by rw [← p2, h5]; simp)]
            cbv
            refine gbxN hA ?_
            intro g3 jp hjp hg3
            obtain ⟨u3, hs3⟩ := newBox hd2.i.at_.1 hjp hg3
            have hs3 : Side g3 lab2 jp (jBox p f ((scanM 0 rb).1.length : Nat)) := by rw [← natEq hjl]; exact hs3
            cbv
            exact retGI hA rfl [.v (.gp jp 0), .v (.slice rl), .v (.int .i64 0)] g3 ⟨_, _, 0, rfl, by rw [q], lab2, u2.trans (u3.weak (fun _ h => h.elim) (fun _ h => h.elim)), by rw [q]; exact (hd2.upd u3 (fun _ h => h.elim)).mono (Nat.le_succ _), by rw [q]; exact ⟨hrl2, jp, rfl, by rw [hjp]; exact u2.next, hs3⟩⟩ (by first | exact ⟨rfl, rfl, rfl, trivial⟩ | trivial)
        · have h4 : ¬ (scanM 0 rb).2 < rb.length := by
            have h4 : ¬ gd < A.lenL bl := zltF hA h4
            rw [hgd, lenI hA (hrb ▸ hbl)] at h4; exact fun q => h4 (Int.ofNat_lt.2 q)
          have q : k.openD = (k, some (f, (scanM 0 rb).1), 0) := by rw [q0, if_neg h4]
          cbv
          refine gbxN hA ?_
          intro g3 jp hjp hg3
          obtain ⟨u3, hs3⟩ := newBox h.i.at_.1 hjp hg3
          have hs3 : Side g3 lab jp (jBox p f ((scanM 0 rb).1.length : Nat)) := by rw [← natEq hjl]; exact hs3
          cbv
          exact retGI hA rfl [.v (.gp jp 0), .v (.slice rl), .v (.int .i64 0)] g3 ⟨_, _, 0, rfl, by rw [q], lab, u3.weak (fun _ h => h.elim) (fun _ h => h.elim), by rw [q]; exact (h.upd u3 (fun _ h => h.elim)).mono (Nat.le_add_right _ _), by rw [q]; exact ⟨hrl2, jp, rfl, Nat.le_of_eq hjp.symm, hs3⟩⟩ (by first | exact ⟨rfl, rfl, rfl, trivial⟩ | trivial)
end Go.Proofs.Ythioccbgjkbmdaa.AM

/-
  Contracts: frames scanned by the reference.
-/
set_option linter.unusedVariables false
set_option linter.unusedSimpArgs false
namespace Go.Proofs.Ythioccbgjkbmdaa.AM
open Go Go.RowKit
set_option maxRecDepth 100000
set_option maxHeartbeats 4000000

section
variable {A : Prim} {P : Program} {R : List (Nat × AObj) → List D → Prop} (hA : A = std P R)
include hA
end
end Go.Proofs.Ythioccbgjkbmdaa.AM

/-
  Plain laws: what is put is read back.
-/
set_option linter.unusedVariables false
set_option linter.unusedSimpArgs false
namespace Go.Proofs.Ythioccbgjkbmdaa.AM
open Go Go.RowKit
set_option maxRecDepth 100000
set_option maxHeartbeats 4000000

theorem u8_back {n : Nat} (h : n < 256) : (UInt8.ofNat n).toNat = n := by
  rw [UInt8.toNat_ofNat']; omega
theorem packL_cons (f : List UInt8) (fs : List (List UInt8)) : packL (f :: fs) = UInt8.ofNat (f.length / 256 % 256) :: UInt8.ofNat (f.length % 256) :: (f ++ packL fs) := by
  simp [packL]
theorem unpack_pack : ∀ (fs : List (List UInt8)), (∀ f ∈ fs, bigM f = false) → unpackM (packL fs) = some fs
  | [], _ => by rw [show packL [] = [] from rfl, unpackM]
  | f :: fs, h => by
    have hf := h f (by simp)
    unfold bigM at hf
    have hf := of_decide_eq_false hf
    have hlen : f.length ≤ 1024 := by omega
    rw [packL_cons, unpackM_cons, u8_back (by omega), u8_back (by omega)]
    have e : f.length / 256 % 256 * 256 + f.length % 256 = f.length := by omega
    rw [e, if_neg (by simp; omega), List.drop_left, List.take_left, unpack_pack fs fun g hg => h g (List.mem_cons_of_mem _ hg)]
theorem unpack_pack_L {fs : List (List UInt8)} (h : ∀ f ∈ fs, bigM f = false) : unpackL (packL fs) = fs ∧ unpackE (packL fs) = 0 := by
  simp [unpackL, unpackE, unpack_pack fs h]
theorem beN_snoc (b : List UInt8) (c : UInt8) : beN (b ++ [c]) = beN b * 256 + c.toNat := by unfold beN; rw [List.foldl_append]; rfl
theorem beN_numB : ∀ n : Nat, beN (numB n) = n := by
  intro n
  induction n using Nat.strongRecOn with
  | _ n ih =>
    rcases Nat.eq_zero_or_pos n with h | h
    · subst h; rw [numB_zero]; rfl
    · rw [numB_pos h, beN_snoc, ih (n / 256) (by omega), u8_back (by omega)]; omega
theorem head_numB : ∀ n : Nat, (numB n).head? ≠ some 0 := by
  intro n
  induction n using Nat.strongRecOn with
  | _ n ih =>
    rcases Nat.eq_zero_or_pos n with h | h
    · subst h; rw [numB_zero]; simp
    · rw [numB_pos h]
      rcases Nat.eq_zero_or_pos (n / 256) with h2 | h2
      · rw [h2, numB_zero]
        intro e
        simp only [List.nil_append, List.head?_cons, Option.some.injEq] at e
        have := congrArg UInt8.toNat e
        rw [u8_back (by omega)] at this
        simp at this; omega
      · have := ih (n / 256) (by omega)
        have hne : numB (n / 256) ≠ [] := by rw [numB_pos h2]; simp
        cases hq : numB (n / 256) with
        | nil => exact absurd hq hne
        | cons c r => rw [hq] at this; simpa using this
theorem number_numB {n : Nat} (h : n < 18446744073709551616) : numberN (numB n) = n ∧ numberE (numB n) = 0 := by
  have q := number_good (b := numB n) fun h' => by
    rcases h' with h' | h'
    · have := numB_len h; omega
    · exact head_numB n h'
  rw [beN_numB] at q
  exact q
theorem putB_small {a : RecM} (hr : RecOk a) : (putB a).length ≤ 1024 := by
  unfold putB
  split
  · rename_i h
    obtain ⟨h1, h2, h3, h4, h5⟩ := check_rng h
    have hp := path_small h5
    have hn := nums_lt hr h1 h2 h3
    have l : ∀ n ∈ numsOf a, (numB n).length ≤ 8 := fun n hn' => numB_len (hn n hn')
    have k := numB_len (n := a.k.toNat) (by have := hr.k1; omega)
    have n1 := l a.sz.toNat (by simp [numsOf])
    have n2 := l a.sm.toNat (by simp [numsOf])
    have n3 := l a.mi.toNat (by simp [numsOf])
    have n4 := l a.mo.toNat (by simp [numsOf])
    have n5 := l a.si.toNat (by simp [numsOf])
    have n6 := l a.so.toNat (by simp [numsOf])
    simp only [fieldsM, numsOf, List.map_cons, List.map_nil, packL_cons, List.length_cons, List.length_append, show packL [] = [] from rfl, List.length_nil]
    omega
  · simp
theorem get_of_put {a : RecM} (hr : RecOk a) (h : checkM a = true) : getR (putB a) = a ∧ getE (putB a) = 0 := by
  obtain ⟨h1, h2, h3, h4, h5⟩ := check_rng h
  have hb : putB a = packL (fieldsM a) := by simp [putB, h]
  have hu := unpack_pack_L (fields_small hr h)
  rw [← hb] at hu
  have hn := nums_lt hr h1 h2 h3
  have hpath := unpack_pack_L (fs := a.path) fun q hq => big_of (Nat.le_trans (h5.2 q hq) (by decide))
  obtain ⟨k0, k1, sm0, sm1, si0, si1, so0, so1, pl, ps⟩ := id hr
  have e0 := number_numB (n := a.k.toNat) (by omega)
  have e2 := number_numB (hn a.sz.toNat (by simp [numsOf]))
  have e3 := number_numB (hn a.sm.toNat (by simp [numsOf]))
  have e4 := number_numB (hn a.mi.toNat (by simp [numsOf]))
  have e5 := number_numB (hn a.mo.toNat (by simp [numsOf]))
  have e6 := number_numB (hn a.si.toNat (by simp [numsOf]))
  have e7 := number_numB (hn a.so.toNat (by simp [numsOf]))
  have hrec : recOf (fieldsM a) = a := by
    obtain ⟨k, p, sz, sm, mi, mo, si, so⟩ := a
    dsimp only at *
    simp only [recOf, fieldsM, numsOf, List.map_cons, List.map_nil, numF, List.getD_cons_zero, List.getD_cons_succ, e0, e2, e3, e4, e5, e6, e7, hpath.1, RecM.mk.injEq, true_and]
    exact ⟨by omega, by omega, by omega, by omega, by omega, by omega, by omega⟩
  have hok : okNums (fieldsM a) := fun m hm h1 => by
    match m, hm, h1 with
    | 0, _, _ => exact okNum_of e0.2 (by rw [show (fieldsM a).getD 0 [] = numB a.k.toNat from rfl, e0.1]; omega)
    | 1, _, h1 => exact absurd rfl h1
    | 2, _, _ => exact okNum_of e2.2 (by rw [show (fieldsM a).getD 2 [] = numB a.sz.toNat from rfl, e2.1]; omega)
    | 3, _, _ => exact okNum_of e3.2 (by rw [show (fieldsM a).getD 3 [] = numB a.sm.toNat from rfl, e3.1]; omega)
    | 4, _, _ => exact okNum_of e4.2 (by rw [show (fieldsM a).getD 4 [] = numB a.mi.toNat from rfl, e4.1]; omega)
    | 5, _, _ => exact okNum_of e5.2 (by rw [show (fieldsM a).getD 5 [] = numB a.mo.toNat from rfl, e5.1]; omega)
    | 6, _, _ => exact okNum_of e6.2 (by rw [show (fieldsM a).getD 6 [] = numB a.si.toNat from rfl, e6.1]; omega)
    | 7, _, _ => exact okNum_of e7.2 (by rw [show (fieldsM a).getD 7 [] = numB a.so.toNat from rfl, e7.1]; omega)
  have good : getOk (putB a) := by
    unfold getOk
    rw [hu.1, hu.2, hrec]
    exact ⟨rfl, rfl, hok, hpath.2, by simp [putE, h], rfl⟩
  have q := get_good good
  rw [hu.1, hrec] at q
  exact q
theorem frameL_len (s : Nat) (b : List UInt8) : (frameL s b).length = 10 + b.length := by
  simp [frameL, lenTwo, fourB_len]; omega
theorem frameL_drop (s : Nat) (b : List UInt8) : (frameL s b).drop 10 = b := rfl
theorem twoM_frame (s : Nat) (b : List UInt8) (hb : b.length ≤ 1024) (t : List UInt8) : twoM (frameL s b ++ t) = b.length := by
  change (UInt8.ofNat (b.length / 256 % 256)).toNat * 256 + (UInt8.ofNat (b.length % 256)).toNat = _
  rw [u8_back (by omega), u8_back (by omega)]; omega
theorem step_frame {a : RecM} (hr : RecOk a) (h : checkM a = true) (s : Nat) (t : List UInt8) : stepM s (frameL s (putB a) ++ t) = some (a, (frameL s (putB a)).length) := by
  have hb := putB_small hr
  have ht := twoM_frame s (putB a) hb t
  have hl := frameL_len s (putB a)
  unfold stepM
  rw [ht, ← hl, if_neg (by simp; omega), if_neg (by simp), List.take_left, frameL_drop]
  have q := get_of_put hr h
  rw [if_pos ⟨by simp [frameE]; omega, by simp [frameB]; omega, q.2⟩, q.1]
theorem scan_frame {a : RecM} (hr : RecOk a) (h : checkM a = true) (s : Nat) (t : List UInt8) : scanM s (frameL s (putB a) ++ t) = (a :: (scanM (s + 1) t).1, (frameL s (putB a)).length + (scanM (s + 1) t).2) := by
  rw [scanM_some (step_frame hr h s t)]; simp
theorem scan_nil (s : Nat) : scanM s [] = ([], 0) := scanM_none (by simp [stepM])
end Go.Proofs.Ythioccbgjkbmdaa.AM

/-
  Contracts: the laws RecordPuts, RecordGets, RecordFrames.
-/
set_option linter.unusedVariables false
set_option linter.unusedSimpArgs false
namespace Go.Proofs.Ythioccbgjkbmdaa.AM
open Go Go.RowKit
set_option maxRecDepth 100000
set_option maxHeartbeats 4000000

def R3 : RecM := ⟨3, [], 0, 0, 0, 0, 0, 0⟩
theorem R3_ok : RecOk R3 := ⟨by decide, by decide, by decide, by decide, by decide, by decide, by decide, by decide, by decide, by simp [R3]⟩
theorem R3_check : checkM R3 = true := by decide
theorem R3_put : putB R3 = [0, 1, 3] ++ List.replicate 14 0 := by
  have h3 : numB 3 = [3] := by rw [numB_pos (by decide), show 3 / 256 = 0 from rfl, numB_zero]; rfl
  simp only [putB, R3_check, if_true, fieldsM, numsOf]
  simp [R3, h3, numB_zero, packL]
end Go.Proofs.Ythioccbgjkbmdaa.AM

/-
  Contracts: the laws RecordPuts, RecordGets, RecordFrames.
-/
set_option linter.unusedVariables false
set_option linter.unusedSimpArgs false
namespace Go.Proofs.Ythioccbgjkbmdaa.AM
open Go Go.RowKit
set_option maxRecDepth 100000
set_option maxHeartbeats 4000000

end Go.Proofs.Ythioccbgjkbmdaa.AM

/-
  What arguments of a type are: records.
-/
set_option linter.unusedVariables false
set_option linter.unusedSimpArgs false
namespace Go.Proofs.Ythioccbgjkbmdaa.AM
open Go Go.RowKit
set_option maxRecDepth 100000
set_option maxHeartbeats 4000000

theorem tv_mark {k : Nat} {x : V} (h : TyV (k + 2) 27 x) : ∃ mi mo si so : Int, x = .agg [.int .i64 mi, .int .i64 mo, .int .u32 si, .int .u32 so] ∧ 0 ≤ si ∧ si ≤ 4294967295 ∧ 0 ≤ so ∧ so ≤ 4294967295 := by
  obtain ⟨ys, rfl, h1, h2⟩ := tv_struct (k := k + 1) rfl h
  match ys, h1, h2 with
  | [a, b, c, d], _, h2 =>
    obtain ⟨mi, rfl, _⟩ := tv_int (k := k) (kd := .i64) rfl (h2 0 (by simp) (by decide))
    obtain ⟨mo, rfl, _⟩ := tv_int (k := k) (kd := .i64) rfl (h2 1 (by simp) (by decide))
    obtain ⟨si, rfl, s0, s1⟩ := tv_int (k := k) (kd := .u32) rfl (h2 2 (by simp) (by decide))
    obtain ⟨so, rfl, o0, o1⟩ := tv_int (k := k) (kd := .u32) rfl (h2 3 (by simp) (by decide))
    exact ⟨mi, mo, si, so, rfl, s0, s1, o0, o1⟩
theorem tv_rec {k : Nat} {x : V} (h : TyV (k + 3) 29 x) : ∃ a : RecM, x = recV a ∧ RecOk a := by
  obtain ⟨ys, rfl, h1, h2⟩ := tv_struct (k := k + 2) rfl h
  match ys, h1, h2 with
  | [a, b, c, d, e], _, h2 =>
    obtain ⟨kd, rfl, k0, k1⟩ := tv_int (k := k + 1) (kd := .u8) rfl (h2 0 (by simp) (by decide))
    obtain ⟨p, rfl, p1, p2⟩ := tv_strs (k := k) rfl rfl rfl (h2 1 (by simp) (by decide))
    obtain ⟨sz, rfl, _⟩ := tv_int (k := k + 1) (kd := .i64) rfl (h2 2 (by simp) (by decide))
    obtain ⟨sm, rfl, m0, m1⟩ := tv_int (k := k + 1) (kd := .u32) rfl (h2 3 (by simp) (by decide))
    obtain ⟨mi, mo, si, so, rfl, s0, s1, o0, o1⟩ := tv_mark (k := k) (h2 4 (by simp) (by decide))
    refine ⟨⟨kd, p, sz, sm, mi, mo, si, so⟩, rfl, ⟨k0, k1, m0, m1, s0, s1, o0, o1, by dsimp only; omega, p2⟩⟩
theorem tv_recs {k : Nat} {x : V} (h : TyV (k + 4) 22 x) : ∃ gs : List RecM, x = .slice (recsV gs) ∧ gs.length ≤ 140737488355328 ∧ ∀ a ∈ gs, RecOk a := by
  obtain ⟨l, rfl, h1, h2⟩ := tv_slice (k := k + 3) rfl h
  have key : ∀ l : List V, (∀ y ∈ l, TyV (k + 3) 29 y) → ∃ gs, l = recsV gs ∧ ∀ a ∈ gs, RecOk a := by
    intro l
    induction l with
    | nil => exact fun _ => ⟨[], rfl, by simp⟩
    | cons y r ih =>
      intro h
      obtain ⟨a, rfl, ha⟩ := tv_rec (k := k) (h y (by simp))
      obtain ⟨gs, rfl, hgs⟩ := ih fun z hz => h z (List.mem_cons_of_mem _ hz)
      exact ⟨a :: gs, rfl, fun c hc => (List.mem_cons.1 hc).elim (fun e => e ▸ ha) (hgs c)⟩
  obtain ⟨gs, rfl, hgs⟩ := key l h2
  rw [recsV_len] at h1
  have hb : 1 ≤ (tyOf 29).bytes := by decide
  exact ⟨gs, rfl, Nat.le_trans (Nat.le_mul_of_pos_right _ hb) h1, hgs⟩
end Go.Proofs.Ythioccbgjkbmdaa.AM

/-
  Contracts: the law RecordScans.
-/
set_option linter.unusedVariables false
set_option linter.unusedSimpArgs false
namespace Go.Proofs.Ythioccbgjkbmdaa.AM
open Go Go.RowKit
set_option maxRecDepth 100000
set_option maxHeartbeats 4000000

section
variable {A : Prim} {P : Program} {R : List (Nat × AObj) → List D → Prop} (hA : A = std P R)
include hA
theorem getRN {gs : List RecM} {l : List V} {i : Int} {j : Nat} {K : List V → Prop} (hl : l = recsV gs) (hi : i = j) (hj : j < gs.length) (hK : ∀ (g : RecM) (lp : List V), g = gs[j]'hj → lp = strsV g.path → K [.int .u8 g.k, .slice lp, .int .i64 g.sz, .int .u32 g.sm, .int .i64 g.mi, .int .i64 g.mo, .int .u32 g.si, .int .u32 g.so]) : A.getA 8 l i K := by
  refine getAI hA _ ⟨by omega, ?_, ?_⟩ (hK _ _ rfl rfl)
  · rw [hl, hi, Int.toNat_natCast]; simp [recsV, recV, hj]
  · rfl
theorem ltRs {i : Int} {j : Nat} {l : List V} {gs : List RecM} (hi : i = (j : Int)) (hl : l = recsV gs) (h : A.ilt i (A.lenL l) = true) : j < gs.length := ltL hA hi (lenRs hl) h
end
end Go.Proofs.Ythioccbgjkbmdaa.AM

/-
  Frames laid one behind the other.
-/
set_option linter.unusedVariables false
set_option linter.unusedSimpArgs false
namespace Go.Proofs.Ythioccbgjkbmdaa.AM
open Go Go.RowKit
set_option maxRecDepth 100000
set_option maxHeartbeats 4000000

def framesB : Nat → List RecM → List UInt8
  | _, [] => []
  | s, a :: r => frameL s (putB a) ++ framesB (s + 1) r
def Good (a : RecM) : Prop := RecOk a ∧ checkM a = true
theorem framesB_snoc : ∀ (gs : List RecM) (s : Nat) (a : RecM), framesB s (gs ++ [a]) = framesB s gs ++ frameL (s + gs.length) (putB a)
  | [], s, a => by simp [framesB]
  | g :: r, s, a => by
    simp only [List.cons_append, framesB, framesB_snoc r (s + 1) a, List.append_assoc, List.length_cons]
    rw [show s + 1 + r.length = s + (r.length + 1) from by omega]
theorem framesB_len (gs : List RecM) : ∀ s, (∀ a ∈ gs, Good a) → (framesB s gs).length ≤ gs.length * 1034 := by
  induction gs with
  | nil => intro s _; simp [framesB]
  | cons g r ih =>
    intro s h
    have h1 := ih (s + 1) fun a ha => h a (List.mem_cons_of_mem _ ha)
    have h2 := putB_small (h g (by simp)).1
    simp only [framesB, List.length_append, frameL_len, List.length_cons]
    omega
/-- All that was laid is read, whatever stands behind. -/
theorem scan_frames : ∀ (gs : List RecM) (s : Nat) (t : List UInt8), (∀ a ∈ gs, Good a) → scanM s (framesB s gs ++ t) = (gs ++ (scanM (s + gs.length) t).1, (framesB s gs).length + (scanM (s + gs.length) t).2)
  | [], s, t, _ => by simp [framesB]
  | g :: r, s, t, h => by
    have hg := h g (by simp)
    simp only [framesB, List.append_assoc]
    rw [scan_frame hg.1 hg.2, scan_frames r (s + 1) t fun a ha => h a (List.mem_cons_of_mem _ ha)]
    simp only [List.cons_append, List.length_append, List.length_cons, Prod.mk.injEq]
    rw [show s + 1 + r.length = s + (r.length + 1) from by omega]
    exact ⟨rfl, by omega⟩
theorem twoM_take {b : List UInt8} {n : Nat} (h : 2 ≤ n) : twoM (b.take n) = twoM b := by
  match b, n, h with
  | [], _, _ => simp
  | [x], n + 2, _ => simp [List.take]
  | x :: y :: r, n + 2, _ => simp [List.take, twoM]
/-- A frame that is not whole is not read. -/
theorem step_part {a : RecM} (hg : Good a) (s : Nat) (t : List UInt8) {n : Nat} (h : n < (frameL s (putB a)).length) : stepM s ((frameL s (putB a) ++ t).take n) = none := by
  have hb := putB_small hg.1
  have ht := twoM_frame s (putB a) hb t
  have hl := frameL_len s (putB a)
  unfold stepM
  split
  · rfl
  · rename_i h10
    have hn : ((frameL s (putB a) ++ t).take n).length = n := by rw [List.length_take, List.length_append]; omega
    rw [hn] at h10
    rw [twoM_take (by omega), ht, hn, if_pos (by omega)]
def kept (gs : List RecM) : List RecM := gs.filter checkM
theorem kept_len (gs : List RecM) : (kept gs).length ≤ gs.length := List.length_filter_le _ _
theorem kept_take {gs : List RecM} {j : Nat} (h : j < gs.length) : kept (gs.take (j + 1)) = kept (gs.take j) ++ (if checkM gs[j] then [gs[j]] else []) := by
  rw [List.take_succ_eq_append_getElem h]
  simp only [kept, List.filter_append, List.filter_cons, List.filter_nil]
end Go.Proofs.Ythioccbgjkbmdaa.AM

/-
  Plain law: a journal on a disk.
-/
set_option linter.unusedVariables false
set_option linter.unusedSimpArgs false
namespace Go.Proofs.Ythioccbgjkbmdaa.AM
open Go Go.RowKit
set_option maxRecDepth 100000
set_option maxHeartbeats 4000000

section
variable {C : Nat}
def rootN (en : List (Bs × Nat)) : Nd := ⟨true, ⟨[], en⟩, []⟩
def fileN (b : Bs) : Nd := ⟨false, ⟨b, []⟩, []⟩
structure JW (C : Nat) (k : Dk) : Prop where
  up : k.down = false
  cap : k.cap = (C : Nat)
  full : k.full.is = false
/-- The journal's file is the node 'j'. -/
structure JR (k : Dk) (j : Nat) (nd : Nd) : Prop where
  root : k.nodes[0]? = some (rootN [(jName, j + 1)])
  pos : 1 ≤ j
  at_ : k.nodes[j]? = some nd
  dir : nd.dir = false
theorem JR.set {k k' : Dk} {j : Nat} {nd nd' : Nd} (h : JR k j nd) (hn : k'.nodes = k.nodes.set j nd') (hd : nd'.dir = false) : JR k' j nd' :=
  ⟨by rw [hn, List.getElem?_set_ne (by have := h.pos; omega)]; exact h.root, h.pos, by rw [hn, List.getElem?_set_self (List.getElem?_eq_some_iff.1 h.at_).1], hd⟩
theorem JR.same {k k' : Dk} {j : Nat} {nd : Nd} (h : JR k j nd) (hn : k'.nodes = k.nodes) : JR k' j nd := ⟨by rw [hn]; exact h.root, h.pos, by rw [hn]; exact h.at_, h.dir⟩
theorem node_one {k : Dk} {nd : Nd} (h : k.nodes[0]? = some nd) : k.node? 1 = some nd := node_at h
theorem ofE_of {k : Dk} (hu : k.down = false) {i : Int} {nd : Nd} (h : k.node? i = some nd) (d : Bool) : k.ofE i d = if nd.dir = d then 0 else 10 := by unfold Dk.ofE; rw [hu, if_neg (by decide), h]
theorem anyE_of {k : Dk} (hu : k.down = false) {i : Int} {nd : Nd} (h : k.node? i = some nd) : k.anyE i = 0 := by unfold Dk.anyE; rw [hu, if_neg (by decide), h]
theorem find0 {k : Dk} (hu : k.down = false) (h : k.nodes[0]? = some (rootN [])) : k.findE 1 jName = (0, 8) := by
  unfold Dk.findE; rw [ofE_of hu (node_one h), if_neg (by simp [rootN]), node_one h]; rfl
theorem findR {k : Dk} (hu : k.down = false) {j : Nat} {nd : Nd} (h : JR k j nd) : k.findE 1 jName = ((j : Int) + 1, 0) := by
  unfold Dk.findE; rw [ofE_of hu (node_one h.root), if_neg (by simp [rootN]), node_one h.root]
  dsimp only
  rw [show enGet (rootN [(jName, j + 1)]).seen.en jName = some (j + 1) from by simp [rootN, Nd.seen, enGet]]
  simp
/-- An op on one node: its power fails, or it is done. -/
theorem op_step {k : Dk} (hu : k.down = false) {i : Nat} {nd : Nd} (hn : k.nodes[i]? = some nd) (f : Nd → Nd) (c : Bool) :
    (k.opE = 12 ∧ k.fail.is = true ∧ (k.op c ((i : Int) + 1) f).down = true ∧ ((k.op c ((i : Int) + 1) f).nodes = k.nodes ∨ (k.op c ((i : Int) + 1) f).nodes = k.nodes.set i (f nd)) ∧ (k.op c ((i : Int) + 1) f).cap = k.cap) ∨
    (k.opE = 0 ∧ (k.op c ((i : Int) + 1) f).down = false ∧ (k.op c ((i : Int) + 1) f).nodes = k.nodes.set i (f nd) ∧ (k.op c ((i : Int) + 1) f).cap = k.cap ∧ (k.op c ((i : Int) + 1) f).full = k.full ∧ (k.fail.is = false → (k.op c ((i : Int) + 1) f).fail.is = false) ∧ (k.op c ((i : Int) + 1) f).ops = w64 (k.ops + 1)) := by
  unfold Dk.op
  rw [node_at hn]
  dsimp only
  rw [set_at_]
  cases hh : k.fail.hit with
  | true =>
    refine .inl ⟨by simp [Dk.opE, hh], ?_, ?_, ?_, ?_⟩
    · unfold Told.hit at hh; cases q : k.fail.is <;> simp [q] at hh ⊢
    · split <;> simp [Dk.tick, hh]
    · split
      · exact .inr rfl
      · exact .inl rfl
    · split <;> rfl
  | false =>
    have hd : k.does = true := by simp [Dk.does, hh]
    rw [if_pos hd]
    refine .inr ⟨by simp [Dk.opE, hh], by simp [Dk.tick, hh, hu], rfl, rfl, rfl, fun q => ?_, rfl⟩
    simp [Dk.tick, Told.next, q]
theorem JW.op {k k' : Dk} (h : JW C k) (h1 : k'.down = false) (h2 : k'.cap = k.cap) (h3 : k'.full = k.full) : JW C k' := ⟨h1, h2.trans h.cap, by rw [h3]; exact h.full⟩
theorem crash_at {k : Dk} (keep : Bs) {i : Nat} {nd : Nd} (h : k.nodes[i]? = some nd) : ∃ m, m ≤ nd.parts ∧ (k.crash keep).nodes[i]? = some (nd.crash m) := by
  have hl : (k.crash keep).nodes.length = k.nodes.length := crashL_len _ _
  obtain ⟨x, hx⟩ : ∃ x, (k.crash keep).nodes[i]? = some x := ⟨_, List.getElem?_eq_getElem (by rw [hl]; exact (List.getElem?_eq_some_iff.1 h).1)⟩
  obtain ⟨n, m, h1, h2, rfl⟩ := crashL_get _ _ i x hx
  rw [h] at h1; cases h1
  exact ⟨m, h2, hx⟩
theorem crash_file (b : Bs) (m : Nat) : (fileN b).crash m = fileN b := rfl
theorem crash_link (i m : Nat) : ((rootN []).add (.link jName i)).crash m = if m = 0 then rootN [] else rootN [(jName, i)] := by
  unfold Nd.crash
  cases m with
  | zero => rfl
  | succ m => simp only [Nd.add, rootN, List.nil_append, runs, Stp.run]; rfl
theorem crash_app (b fr : Bs) (m : Nat) (hm : m ≤ fr.length) : ((fileN b).add (.app fr)).crash m = fileN (b ++ fr.take m) := by
  unfold Nd.crash
  cases m with
  | zero => simp [Nd.add, fileN, runs]
  | succ m => simp only [Nd.add, fileN, List.nil_append, runs, Stp.run, Stp.parts]; rw [if_neg (by omega), Nat.min_eq_left hm]
/-- What stands behind a crash: all records that were answered, and of one more a beginning. -/
def JX (C : Nat) (k : Dk) (recs : List RecM) (late : RecM) : Prop := ∀ keep, JW C (k.crash keep) ∧ (k.crash keep).fail.is = false ∧ ((recs = [] ∧ (k.crash keep).nodes[0]? = some (rootN [])) ∨ ∃ j m, JR (k.crash keep) j (fileN (framesB 0 recs ++ (frameL recs.length (putB late)).take m)))
theorem jw_crash {k : Dk} (hc : k.cap = (C : Nat)) (keep : Bs) : JW C (k.crash keep) ∧ (k.crash keep).fail.is = false := ⟨⟨rfl, hc, rfl⟩, rfl⟩
theorem jx_root {k : Dk} (hc : k.cap = (C : Nat)) (h : k.nodes[0]? = some (rootN [])) (late : RecM) : JX C k [] late := fun keep => by
  obtain ⟨m, _, hm⟩ := crash_at keep h
  exact ⟨(jw_crash hc keep).1, (jw_crash hc keep).2, .inl ⟨rfl, hm⟩⟩
theorem jx_link {k : Dk} (hc : k.cap = (C : Nat)) {j : Nat} (hj : 1 ≤ j) (h : k.nodes[0]? = some ((rootN []).add (.link jName (j + 1)))) (h2 : k.nodes[j]? = some (fileN [])) (late : RecM) : JX C k [] late := fun keep => by
  obtain ⟨m, _, hm⟩ := crash_at keep h
  obtain ⟨m2, _, hm2⟩ := crash_at keep h2
  rw [crash_link] at hm
  refine ⟨(jw_crash hc keep).1, (jw_crash hc keep).2, ?_⟩
  split at hm
  · exact .inl ⟨rfl, hm⟩
  · exact .inr ⟨j, 0, hm, hj, by rw [hm2]; rfl, rfl⟩
theorem jx_file {k : Dk} (hc : k.cap = (C : Nat)) {j : Nat} {nd : Nd} (h : JR k j nd) (recs : List RecM) (late : RecM) (hn : nd = fileN (framesB 0 recs) ∨ nd = (fileN (framesB 0 recs)).add (.app (frameL recs.length (putB late))) ∨ nd = fileN (framesB 0 recs ++ frameL recs.length (putB late))) : JX C k recs late := fun keep => by
  obtain ⟨m, _, hm⟩ := crash_at keep h.root
  obtain ⟨m2, hl, hm2⟩ := crash_at keep h.at_
  refine ⟨(jw_crash hc keep).1, (jw_crash hc keep).2, .inr ?_⟩
  rcases hn with rfl | rfl | rfl
  · exact ⟨j, 0, hm, h.pos, by rw [hm2]; simp [crash_file], rfl⟩
  · exact ⟨j, m2, hm, h.pos, by rw [hm2, crash_app _ _ _ (by simpa [Nd.parts, Nd.add, fileN, Stp.parts] using hl)], rfl⟩
  · exact ⟨j, (frameL recs.length (putB late)).length, hm, h.pos, by rw [hm2, crash_file, List.take_length], rfl⟩
end
end Go.Proofs.Ythioccbgjkbmdaa.AM

/-
  Plain law: Add, Open and Clear of a journal.
-/
set_option linter.unusedVariables false
set_option linter.unusedSimpArgs false
namespace Go.Proofs.Ythioccbgjkbmdaa.AM
open Go Go.RowKit
set_option maxRecDepth 100000
set_option maxHeartbeats 4000000

section
variable {C : Nat}
theorem w64_add1 (a : Int) : w64 (w64 a + 1) = w64 (a + 1) := by
  rw [w64_def (w64 a + 1), w64_def (a + 1), w64_def a]
  split <;> omega
theorem w64_addg (a b : Int) : w64 (w64 a + b) = w64 (a + b) := by
  rw [w64_def (w64 a + b), w64_def (a + b), w64_def a]
  split <;> omega
theorem full_off {k : Dk} (h : k.full.is = false) : k.full.hit = false ∧ ({ k with full := k.full.next } : Dk) = k := by
  have : k.full.next = k.full := by unfold Told.next; rw [h]; rfl
  exact ⟨by unfold Told.hit; rw [h]; rfl, by rw [this]⟩
theorem reach_JR {k : Dk} {j : Nat} {nd : Nd} (h : JR k j nd) (w : Nat → Nat) : k.reach w k.nodes.length 0 = w (j + 1) := by
  obtain ⟨n, hn⟩ : ∃ n, k.nodes.length = n + 1 := ⟨k.nodes.length - 1, by have := (List.getElem?_eq_some_iff.1 h.root).1; omega⟩
  rw [hn]
  unfold Dk.reach
  rw [h.root]
  have : k.isD (j + 1) = false := by unfold Dk.isD; rw [show j + 1 - 1 = j from rfl, h.at_]; exact h.dir
  simp [rootN, Nd.seen, this]
theorem room_JR (hC : C ≤ 1000000000) {k : Dk} (hW : JW C k) {j : Nat} {nd : Nd} (h : JR k j nd) (m : Nat) (hm : nd.seen.b.length + m ≤ C) : ¬ k.room ((j : Int) + 1) m < 0 := by
  unfold Dk.room
  rw [reach_JR h, hW.cap]
  have : appW k ((j : Int) + 1) m (j + 1) = nd.seen.b.length + m := by
    unfold appW Dk.wt; rw [show j + 1 - 1 = j from rfl, h.at_, if_pos (by omega)]
  rw [this, w64_id (by omega)]
  omega
theorem app_eq (hC : C ≤ 1000000000) {k : Dk} (hW : JW C k) {j : Nat} {nd : Nd} (h : JR k j nd) (fr : Bs) (hne : fr ≠ []) (hm : nd.seen.b.length + fr.length ≤ C) : k.appD ((j : Int) + 1) fr = (k.op true ((j : Int) + 1) (·.add (.app fr)), k.opE) := by
  obtain ⟨q1, q2⟩ := full_off hW.full
  unfold Dk.appD
  rw [ofE_of hW.up (node_at h.at_), if_pos h.dir, if_neg (by simp), if_neg (room_JR hC hW h fr.length hm)]
  dsimp only
  rw [q1, if_neg (by simp), q2]
  simp only [hne, if_false]
theorem sync_eq {k : Dk} (hu : k.down = false) {i : Nat} {nd : Nd} (h : k.nodes[i]? = some nd) : k.syncD ((i : Int) + 1) = (k.op false ((i : Int) + 1) Nd.sync, k.opE) := by
  unfold Dk.syncD; rw [anyE_of hu (node_at h), if_neg (by simp)]
theorem make_eq {k : Dk} (hW : JW C k) (h : k.nodes[0]? = some (rootN [])) (hl : k.nodes.length < 4096) : k.makeD 1 jName false = (if k.does then (k.tick true).mk1 0 (rootN []) jName false else k.tick true, if k.opE = 0 then ((k.nodes.length + 1 : Nat) : Int) else 0, k.opE) := by
  obtain ⟨q1, q2⟩ := full_off hW.full
  unfold Dk.makeD
  rw [ofE_of hW.up (node_one h), if_neg (by simp [rootN]), if_neg (by decide), node_one h]
  dsimp only
  rw [show enGet (rootN []).seen.en jName = none from rfl, if_neg (by simp), if_neg (by omega), q1, if_neg (by simp), q2]
  rfl
/-- A journal's disk: at most so many nodes, the file, its records. -/
def JSt (C c : Nat) (k : Dk) (file : Int) (recs : List RecM) : Prop :=
  JW C k ∧ ((file = 0 ∧ recs = [] ∧ k.nodes[0]? = some (rootN []) ∧ k.nodes.length ≤ c) ∨ ∃ j : Nat, file = (j : Int) + 1 ∧ JR k j (fileN (framesB 0 recs)) ∧ k.nodes.length ≤ c + 1)
theorem op_len (k : Dk) (c : Bool) (i : Int) (f : Nd → Nd) : (k.op c i f).nodes.length = k.nodes.length := by
  unfold Dk.op; split
  · split
    · simp [Dk.set, Dk.tick]
    · rfl
  · rfl
theorem begin_step {c : Nat} {k : Dk} {file : Int} {recs : List RecM} (h : JSt C c k file recs) (hc : c ≤ 4000) (ho : w64 k.ops = k.ops) (late : RecM) :
    ((k.beginD file).2.2 = 12 ∧ k.fail.is = true ∧ (k.beginD file).1.down = true ∧ JX C (k.beginD file).1 recs late) ∨
    ((k.beginD file).2.2 = 0 ∧ JW C (k.beginD file).1 ∧ (k.fail.is = false → (k.beginD file).1.fail.is = false) ∧ ∃ j : Nat, (k.beginD file).2.1 = (j : Int) + 1 ∧ JR (k.beginD file).1 j (fileN (framesB 0 recs)) ∧ (k.beginD file).1.nodes.length ≤ c + 1 ∧ (k.beginD file).1.ops = w64 (k.ops + if file = 0 then 2 else 0)) := by
  obtain ⟨hW, ⟨rfl, rfl, hr, hl⟩ | ⟨j, rfl, hR, hl⟩⟩ := h
  · have hm := make_eq hW hr (by omega)
    have hlen1 : 1 ≤ k.nodes.length := (List.getElem?_eq_some_iff.1 hr).1
    have hmk : ∀ q : Dk, q.nodes = k.nodes → (q.mk1 0 (rootN []) jName false).nodes = (k.nodes ++ [fileN []]).set 0 ((rootN []).add (.link jName (k.nodes.length + 1))) := fun q hq => by unfold Dk.mk1; rw [hq]; rfl
    have g0 : ∀ n : Nd, ((k.nodes ++ [fileN []]).set 0 n)[0]? = some n := fun n => by rw [List.getElem?_set_self (by simp)]
    have g1 : ∀ n : Nd, ((k.nodes ++ [fileN []]).set 0 n)[k.nodes.length]? = some (fileN []) := fun n => by rw [List.getElem?_set_ne (by omega), List.getElem?_append_right (Nat.le_refl _)]; simp
    cases hh : k.fail.hit with
    | true =>
      have hE : k.opE = 12 := by simp [Dk.opE, hh]
      have hf : k.fail.is = true := by unfold Told.hit at hh; cases q : k.fail.is <;> simp [q] at hh ⊢
      have q : k.beginD 0 = ((k.makeD 1 jName false).1, 0, (k.makeD 1 jName false).2.2) := by unfold Dk.beginD; rw [if_neg (by simp)]; dsimp only; rw [if_pos (by rw [hm]; dsimp only; rw [hE]; decide)]
      rw [q, hm]
      dsimp only
      refine .inl ⟨hE, hf, ?_, ?_⟩
      · split <;> simp [Dk.mk1, Dk.tick, hh]
      · split
        · exact jx_link (by simp [Dk.mk1, Dk.tick, hW.cap]) hlen1 (by rw [hmk (k.tick true) rfl]; exact g0 _) (by rw [hmk (k.tick true) rfl]; exact g1 _) late
        · exact jx_root (by simp [Dk.tick, hW.cap]) (by exact hr) late
    | false =>
      have hE : k.opE = 0 := by simp [Dk.opE, hh]
      have hd : k.does = true := by simp [Dk.does, hh]
      rw [if_pos hd, if_pos hE, hE] at hm
      obtain ⟨k1, hk1⟩ : ∃ q, q = (k.tick true).mk1 0 (rootN []) jName false := ⟨_, rfl⟩
      rw [← hk1] at hm
      have n1 : k1.nodes = (k.nodes ++ [fileN []]).set 0 ((rootN []).add (.link jName (k.nodes.length + 1))) := by rw [hk1]; exact hmk _ rfl
      have hW1 : JW C k1 := by rw [hk1]; exact ⟨by simp [Dk.mk1, Dk.tick, hh, hW.up], by simp [Dk.mk1, Dk.tick, hW.cap], by simp [Dk.mk1, Dk.tick, hW.full]⟩
      have hf1 : k.fail.is = false → k1.fail.is = false := fun q => by rw [hk1]; simp [Dk.mk1, Dk.tick, Told.next, q]
      have hf1' : k1.fail.is = true → k.fail.is = true := fun q => by
        cases q2 : k.fail.is with
        | true => rfl
        | false => rw [hf1 q2] at q; cases q
      have r0 : k1.nodes[0]? = some ((rootN []).add (.link jName (k.nodes.length + 1))) := by rw [n1]; exact g0 _
      have r1 : k1.nodes[k.nodes.length]? = some (fileN []) := by rw [n1]; exact g1 _
      have q : k.beginD 0 = ((k1.syncD 1).1, ((k.nodes.length + 1 : Nat) : Int), (k1.syncD 1).2) := by unfold Dk.beginD; rw [if_neg (by simp)]; dsimp only; rw [hm]; dsimp only; rw [if_neg (by simp)]
      have o1 : k1.ops = w64 (k.ops + 1) := by rw [hk1]; rfl
      have hs := sync_eq hW1.up r0
      have st := op_step hW1.up r0 Nd.sync false
      have hle := op_len k1 false (((0 : Nat) : Int) + 1) Nd.sync
      rw [q, show (1 : Int) = ((0 : Nat) : Int) + 1 from rfl, hs]
      dsimp only
      have hsy : ((rootN []).add (.link jName (k.nodes.length + 1))).sync = rootN [(jName, k.nodes.length + 1)] := rfl
      rcases st with ⟨s1, s2, s3, s4, s5⟩ | ⟨s1, s2, s3, s4, s5, s6, s7⟩
      · refine .inl ⟨s1, hf1' s2, s3, ?_⟩
        rcases s4 with s4 | s4
        · exact jx_link (s5.trans hW1.cap) hlen1 (by rw [s4]; exact r0) (by rw [s4]; exact r1) late
        · refine jx_file (nd := fileN []) (s5.trans hW1.cap) ⟨by rw [s4, List.getElem?_set_self (List.getElem?_eq_some_iff.1 r0).1]; rfl, hlen1, by rw [s4, List.getElem?_set_ne (by omega)]; exact r1, rfl⟩ [] late (.inl rfl)
      · refine .inr ⟨s1, hW1.op s2 s4 s5, fun q => s6 (hf1 q), k.nodes.length, by omega, ⟨by rw [s3, List.getElem?_set_self (List.getElem?_eq_some_iff.1 r0).1]; rfl, hlen1, by rw [s3, List.getElem?_set_ne (by omega)]; exact r1, rfl⟩, by rw [hle, n1]; simp; omega, by rw [s7, o1, w64_add1, if_pos rfl]; congr 1; omega⟩
  · have q : k.beginD ((j : Int) + 1) = (k, (j : Int) + 1, 0) := by unfold Dk.beginD; rw [if_pos (by omega)]
    rw [q]
    exact .inr ⟨rfl, hW, fun h => h, j, rfl, hR, hl, by rw [if_neg (by omega), Int.add_zero]; exact ho.symm⟩
/-- Add of a record that may be. -/
theorem add_step (hC : C ≤ 1000000000) {c : Nat} {k : Dk} {file : Int} {recs : List RecM} (h : JSt C c k file recs) (hc : c ≤ 4000) {a : RecM} (hr : RecOk a) (ha : checkM a = true) (hsz : (framesB 0 recs).length + (10 + (putB a).length) ≤ C) (ho : w64 k.ops = k.ops) :
    ((k.addD file recs.length a).2.2.2 = 12 ∧ k.fail.is = true ∧ (k.addD file recs.length a).1.down = true ∧ JX C (k.addD file recs.length a).1 recs a) ∨
    ((k.addD file recs.length a).2.2.2 = 0 ∧ (k.fail.is = false → (k.addD file recs.length a).1.fail.is = false) ∧ JSt C c (k.addD file recs.length a).1 (k.addD file recs.length a).2.1 (recs ++ [a]) ∧ (k.addD file recs.length a).2.2.1 = ((recs ++ [a]).length : Nat) ∧ (k.addD file recs.length a).1.ops = w64 (k.ops + if file = 0 then 4 else 2)) := by
  have hpb := putB_small hr
  have hfl := frameL_len recs.length (putB a)
  obtain ⟨fr, hfr⟩ : ∃ fr, fr = frameL recs.length (putB a) := ⟨_, rfl⟩
  have hadd : k.addD file recs.length a = (if (k.beginD file).2.2 ≠ 0 then ((k.beginD file).1, (k.beginD file).2.1, (recs.length : Int), (k.beginD file).2.2) else if ((k.beginD file).1.appD (k.beginD file).2.1 fr).2 ≠ 0 then (((k.beginD file).1.appD (k.beginD file).2.1 fr).1, (k.beginD file).2.1, (recs.length : Int), ((k.beginD file).1.appD (k.beginD file).2.1 fr).2) else ((((k.beginD file).1.appD (k.beginD file).2.1 fr).1.syncD (k.beginD file).2.1).1, (k.beginD file).2.1, if (((k.beginD file).1.appD (k.beginD file).2.1 fr).1.syncD (k.beginD file).2.1).2 = 0 then (recs.length : Int) + 1 else recs.length, (((k.beginD file).1.appD (k.beginD file).2.1 fr).1.syncD (k.beginD file).2.1).2)) := by
    unfold Dk.addD; rw [if_neg (by rw [ha]; decide), if_neg (by omega), hfr]; rfl
  rw [hadd]
  have hb := begin_step h hc ho a
  generalize k.beginD file = r at hb ⊢
  rcases hb with ⟨b1, b2, b3, b4⟩ | ⟨b1, hW, bf, j, b2, hR, hl, bo⟩
  · rw [if_pos (by rw [b1]; decide)]
    exact .inl ⟨b1, b2, b3, b4⟩
  · rw [if_neg (by rw [b1]; simp), b2]
    have hne : fr ≠ [] := fun q => by rw [q] at hfr; rw [← hfr] at hfl; simp only [List.length_nil] at hfl; omega
    have e1 := app_eq hC hW hR fr hne (by show (framesB 0 recs).length + fr.length ≤ _; rw [hfr, hfl]; exact hsz)
    have st := op_step hW.up hR.at_ (·.add (.app fr)) true
    have ol := op_len r.1 true ((j : Int) + 1) (·.add (.app fr))
    rw [e1]
    dsimp only
    have bft : r.1.fail.is = true → k.fail.is = true := fun q => by
      cases q2 : k.fail.is with
      | true => rfl
      | false => rw [bf q2] at q; cases q
    rcases st with ⟨s1, s2, s3, s4, s5⟩ | ⟨s1, s2, s3, s4, s5, s6, s7⟩
    · rw [if_pos (by rw [s1]; decide)]
      refine .inl ⟨s1, bft s2, s3, ?_⟩
      rcases s4 with s4 | s4
      · exact jx_file (s5.trans hW.cap) (hR.same s4) recs a (.inl rfl)
      · exact jx_file (s5.trans hW.cap) (hR.set s4 rfl) recs a (.inr (.inl (by rw [hfr])))
    · rw [if_neg (by rw [s1]; simp)]
      generalize r.1.op true ((j : Int) + 1) (·.add (.app fr)) = k2 at s2 s3 s4 s5 s6 s7 ol ⊢
      have hW2 : JW C k2 := hW.op s2 s4 s5
      have hR2 := hR.set s3 (nd' := (fileN (framesB 0 recs)).add (.app fr)) rfl
      have e2 := sync_eq hW2.up hR2.at_
      have st := op_step hW2.up hR2.at_ Nd.sync false
      have ol2 := op_len k2 false ((j : Int) + 1) Nd.sync
      have hsy : ((fileN (framesB 0 recs)).add (.app fr)).sync = fileN (framesB 0 recs ++ fr) := by simp [Nd.sync, Nd.add, Nd.seen, fileN, Stp.run, Stp.parts]
      rw [e2]
      dsimp only
      rcases st with ⟨t1, t2, t3, t4, t5⟩ | ⟨t1, t2, t3, t4, t5, t6, t7⟩
      · have hf2 : k.fail.is = true := by
          cases q2 : k.fail.is with
          | true => rfl
          | false => rw [s6 (bf q2)] at t2; cases t2
        refine .inl ⟨t1, hf2, t3, ?_⟩
        rcases t4 with t4 | t4
        · exact jx_file (t5.trans hW2.cap) (hR2.same t4) recs a (.inr (.inl (by rw [hfr])))
        · exact jx_file (t5.trans hW2.cap) (hR2.set t4 rfl) recs a (.inr (.inr (by rw [hsy, hfr])))
      · refine .inr ⟨t1, fun q => t6 (s6 (bf q)), ⟨hW2.op t2 t4 t5, .inr ⟨j, rfl, ?_, by rw [ol2, ol]; exact hl⟩⟩, ?_, ?_⟩
        · rw [framesB_snoc, Nat.zero_add, ← hfr, ← hsy]
          exact hR2.set t3 rfl
        · rw [if_pos t1]; simp
        · rw [t7, s7, bo, w64_add1, Int.add_assoc, w64_addg]; congr 1; split <;> omega
end
end Go.Proofs.Ythioccbgjkbmdaa.AM

/-
  Plain law: Open and Clear of a journal.
-/
set_option linter.unusedVariables false
set_option linter.unusedSimpArgs false
namespace Go.Proofs.Ythioccbgjkbmdaa.AM
open Go Go.RowKit
set_option maxRecDepth 100000
set_option maxHeartbeats 4000000

section
variable {C : Nat}
theorem no_hit {k : Dk} (h : k.fail.is = false) : k.opE = 0 := by unfold Dk.opE Told.hit; rw [h]; rfl
/-- An op where nothing is told to fail. -/
theorem op_calm {k : Dk} (hW : JW C k) (hf : k.fail.is = false) {i : Nat} {nd : Nd} (hn : k.nodes[i]? = some nd) (f : Nd → Nd) (c : Bool) : JW C (k.op c ((i : Int) + 1) f) ∧ (k.op c ((i : Int) + 1) f).fail.is = false ∧ (k.op c ((i : Int) + 1) f).nodes = k.nodes.set i (f nd) := by
  rcases op_step hW.up hn f c with ⟨_, q, _⟩ | ⟨_, s2, s3, s4, s5, s6, _⟩
  · rw [hf] at q; cases q
  · exact ⟨hW.op s2 s4 s5, s6 hf, s3⟩
theorem open0 {k : Dk} (hu : k.down = false) (h : k.nodes[0]? = some (rootN [])) : k.openD = (k, some (0, []), 0) := by
  unfold Dk.openD; rw [find0 hu h]; rfl
theorem openR {k : Dk} (hW : JW C k) (hf : k.fail.is = false) {j : Nat} {nd : Nd} (hR : JR k j nd) {b : Bs} (hs : nd.seen = ⟨b, []⟩) : ∃ k', k.openD = (k', some ((j : Int) + 1, (scanM 0 b).1), 0) ∧ JW C k' ∧ k'.fail.is = false ∧ k'.nodes.length = k.nodes.length ∧ (((scanM 0 b).2 < b.length ∧ JR k' j (fileN (b.take (scanM 0 b).2))) ∨ (¬ (scanM 0 b).2 < b.length ∧ k' = k)) := by
  have hn := node_at hR.at_
  have hof : k.ofE ((j : Int) + 1) false = 0 := by rw [ofE_of hW.up hn, if_pos hR.dir]
  have hsz : sizeM k ((j : Int) + 1) = (b.length : Nat) := by unfold sizeM; rw [if_pos hof, hn]; simp [hs]
  have hrd : (k.readM ((j : Int) + 1) 0 (sizeM k ((j : Int) + 1))).1 = b := by
    unfold Dk.readM; rw [if_neg (by rw [hof]; simp), hn, hsz]
    dsimp only
    rw [hs, if_neg (by simp), Int.toNat_natCast]
    simp
  obtain ⟨s, hss⟩ : ∃ s, s = scanM 0 b := ⟨_, rfl⟩
  have hop : k.openD = if s.2 < b.length then (if (k.cutD ((j : Int) + 1) (s.2 : Nat)).2 ≠ 0 then ((k.cutD ((j : Int) + 1) (s.2 : Nat)).1, none, (k.cutD ((j : Int) + 1) (s.2 : Nat)).2) else if ((k.cutD ((j : Int) + 1) (s.2 : Nat)).1.syncD ((j : Int) + 1)).2 ≠ 0 then (((k.cutD ((j : Int) + 1) (s.2 : Nat)).1.syncD ((j : Int) + 1)).1, none, ((k.cutD ((j : Int) + 1) (s.2 : Nat)).1.syncD ((j : Int) + 1)).2) else (((k.cutD ((j : Int) + 1) (s.2 : Nat)).1.syncD ((j : Int) + 1)).1, some ((j : Int) + 1, s.1), 0)) else (k, some ((j : Int) + 1, s.1), 0) := by
    unfold Dk.openD
    rw [findR hW.up hR]
    dsimp only
    rw [if_neg (by decide), if_neg (by simp), if_neg (by rw [ofE_of hW.up hn, if_neg (by rw [hR.dir]; decide)]; decide), hrd, ← hss]
  rw [hop, ← hss]
  split
  · rename_i hlt
    have hcut : k.cutD ((j : Int) + 1) (s.2 : Nat) = (k.op true ((j : Int) + 1) (·.add (.cut s.2)), k.opE) := by
      unfold Dk.cutD; rw [if_neg (by rw [hof]; simp), hn]
      dsimp only
      rw [hs, if_neg (by dsimp only; omega), Int.toNat_natCast]
    obtain ⟨oc1, oc2, oc3⟩ := op_calm hW hf hR.at_ (·.add (.cut s.2)) true
    have ol := op_len k true ((j : Int) + 1) (·.add (.cut s.2))
    rw [hcut, if_neg (by rw [no_hit hf]; simp)]
    dsimp only
    generalize k.op true ((j : Int) + 1) (·.add (.cut s.2)) = k2 at oc1 oc2 oc3 ol ⊢
    have hR2 := hR.set oc3 (nd' := nd.add (.cut s.2)) hR.dir
    obtain ⟨d1, d2, d3⟩ := op_calm oc1 oc2 hR2.at_ Nd.sync false
    have ol2 := op_len k2 false ((j : Int) + 1) Nd.sync
    have hsy : (nd.add (.cut s.2)).sync = fileN (b.take s.2) := by
      unfold Nd.sync; rw [Nd.seen_add, hs]
      have := hR.dir
      unfold Nd.add fileN; simp [Stp.run, this]
    rw [sync_eq oc1.up hR2.at_, if_neg (by rw [no_hit oc2]; simp)]
    exact ⟨_, rfl, d1, d2, by rw [ol2, ol], .inl ⟨hlt, hsy ▸ hR2.set d3 (hsy ▸ rfl)⟩⟩
  · rename_i hlt
    exact ⟨k, rfl, hW, hf, rfl, .inr ⟨hlt, rfl⟩⟩
theorem clear_step {c : Nat} {k : Dk} {file : Int} {recs : List RecM} (h : JSt C c k file recs) (hf : k.fail.is = false) : (k.clearD file recs.length).2.2.2 = 0 ∧ (k.clearD file recs.length).1.fail.is = false ∧ (k.clearD file recs.length).2.1 = 0 ∧ (k.clearD file recs.length).2.2.1 = 0 ∧ JSt C (c + 1) (k.clearD file recs.length).1 0 [] := by
  obtain ⟨hW, ⟨rfl, rfl, hr, hl⟩ | ⟨j, rfl, hR, hl⟩⟩ := h
  · have q : k.clearD 0 ([] : List RecM).length = (k, 0, ((([] : List RecM).length : Nat) : Int), 0) := by unfold Dk.clearD; rw [if_pos rfl]
    rw [q]
    exact ⟨rfl, hf, rfl, rfl, hW, .inl ⟨rfl, rfl, hr, Nat.le_succ_of_le hl⟩⟩
  · have hun : k.unlD 1 jName = (k.op true (((0 : Nat) : Int) + 1) (·.add (.unl jName)), k.opE) := by
      unfold Dk.unlD; rw [findR hW.up hR]; dsimp only
      rw [if_neg (by simp), node_at hR.at_]; dsimp only
      rw [hR.dir]; rfl
    obtain ⟨oc1, oc2, oc3⟩ := op_calm hW hf hR.root (·.add (.unl jName)) true
    have ol := op_len k true (((0 : Nat) : Int) + 1) (·.add (.unl jName))
    have hcl : k.clearD ((j : Int) + 1) recs.length = (if (k.unlD 1 jName).2 ≠ 0 then ((k.unlD 1 jName).1, (j : Int) + 1, (recs.length : Int), (k.unlD 1 jName).2) else (((k.unlD 1 jName).1.syncD 1).1, if ((k.unlD 1 jName).1.syncD 1).2 = 0 then 0 else (j : Int) + 1, if ((k.unlD 1 jName).1.syncD 1).2 = 0 then 0 else (recs.length : Int), ((k.unlD 1 jName).1.syncD 1).2)) := by
      unfold Dk.clearD; rw [if_neg (by omega)]
    rw [hcl, hun]
    dsimp only
    rw [if_neg (by rw [no_hit hf]; simp)]
    generalize k.op true (((0 : Nat) : Int) + 1) (·.add (.unl jName)) = k2 at oc1 oc2 oc3 ol ⊢
    have hr2 : k2.nodes[0]? = some ((rootN [(jName, j + 1)]).add (.unl jName)) := by rw [oc3, List.getElem?_set_self (List.getElem?_eq_some_iff.1 hR.root).1]
    obtain ⟨d1, d2, d3⟩ := op_calm oc1 oc2 hr2 Nd.sync false
    have ol2 := op_len k2 false (((0 : Nat) : Int) + 1) Nd.sync
    have hs := sync_eq oc1.up hr2
    rw [show (1 : Int) = ((0 : Nat) : Int) + 1 from rfl, hs]
    dsimp only
    rw [no_hit oc2, if_pos rfl, if_pos rfl]
    refine ⟨rfl, d2, rfl, rfl, d1, .inl ⟨rfl, rfl, ?_, by rw [ol2, ol]; exact hl⟩⟩
    rw [d3, List.getElem?_set_self (List.getElem?_eq_some_iff.1 hr2).1]
    simp [Nd.sync, Nd.add, Nd.seen, rootN, Stp.run, enWithout]
theorem crash_none {k : Dk} (hW : JW C k) (h : k.nodes[0]? = some (rootN [])) (keep : Bs) : JW C (k.crash keep) ∧ (k.crash keep).fail.is = false ∧ (k.crash keep).nodes[0]? = some (rootN []) ∧ (k.crash keep).nodes.length = k.nodes.length := by
  obtain ⟨m, _, hm⟩ := crash_at keep h
  exact ⟨(jw_crash hW.cap keep).1, rfl, hm, crashL_len _ _⟩
theorem add_calm (hC : C ≤ 1000000000) {c : Nat} {k : Dk} {file : Int} {recs : List RecM} (h : JSt C c k file recs) (hf : k.fail.is = false) (hc : c ≤ 4000) {a : RecM} (hr : RecOk a) (ha : checkM a = true) (hsz : (framesB 0 recs).length + (10 + (putB a).length) ≤ C) (ho : w64 k.ops = k.ops) :
    (k.addD file recs.length a).2.2.2 = 0 ∧ (k.addD file recs.length a).1.fail.is = false ∧ JSt C c (k.addD file recs.length a).1 (k.addD file recs.length a).2.1 (recs ++ [a]) ∧ (k.addD file recs.length a).2.2.1 = ((recs ++ [a]).length : Nat) ∧ (k.addD file recs.length a).1.ops = w64 (k.ops + if file = 0 then 4 else 2) := by
  rcases add_step hC h hc hr ha hsz ho with ⟨_, q, _⟩ | ⟨q1, q2, q3⟩
  · rw [hf] at q; cases q
  · exact ⟨q1, q2 hf, q3⟩
/-- All whole records are told. -/
theorem open_st {c : Nat} {k : Dk} {file : Int} {recs : List RecM} (h : JSt C c k file recs) (hf : k.fail.is = false) (hg : ∀ a ∈ recs, Good a) : k.openD = (k, some (file, recs), 0) := by
  obtain ⟨hW, ⟨rfl, rfl, hr, hl⟩ | ⟨j, rfl, hR, hl⟩⟩ := h
  · exact open0 hW.up hr
  · obtain ⟨k', h1, _, _, _, h2⟩ := openR hW hf hR (b := framesB 0 recs) rfl
    have hsc := scan_frames recs 0 [] hg
    rw [List.append_nil, scan_nil] at hsc
    rw [hsc] at h1 h2
    rcases h2 with ⟨q, _⟩ | ⟨_, rfl⟩
    · exact absurd q (by simp)
    · rw [h1]; simp
/-- What Open tells behind a crash. -/
theorem open_jx {k : Dk} {recs : List RecM} {late : RecM} (h : JX C k recs late) (hg : ∀ a ∈ recs, Good a) (hl : recs = recs ∧ (RecOk late ∧ checkM late = true)) (keep : Bs) : ∃ k' f, (k.crash keep).openD = (k', some (f, recs), 0) ∨ (k.crash keep).openD = (k', some (f, recs ++ [late]), 0) := by
  obtain ⟨hW, hf, ⟨rfl, h0⟩ | ⟨j, m, hR⟩⟩ := h keep
  · exact ⟨_, 0, .inl (open0 hW.up h0)⟩
  · obtain ⟨k', h1, _⟩ := openR hW hf hR (b := framesB 0 recs ++ (frameL recs.length (putB late)).take m) rfl
    rw [h1]
    have hsc := scan_frames recs 0 ((frameL recs.length (putB late)).take m) hg
    rw [hsc, Nat.zero_add]
    dsimp only
    rcases Nat.lt_or_ge m (frameL recs.length (putB late)).length with q | q
    · have := step_part (a := late) hl.2 recs.length [] q
      rw [List.append_nil] at this
      rw [scanM_none this]
      exact ⟨k', (j : Int) + 1, .inl (by simp)⟩
    · rw [List.take_of_length_le q]
      have := scan_frame hl.2.1 hl.2.2 recs.length []
      rw [List.append_nil, scan_nil] at this
      rw [this]
      exact ⟨k', (j : Int) + 1, .inr rfl⟩
end
end Go.Proofs.Ythioccbgjkbmdaa.AM
