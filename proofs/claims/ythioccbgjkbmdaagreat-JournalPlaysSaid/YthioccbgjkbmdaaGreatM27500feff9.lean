/-
 Contracts: a journal's Add.
-/
import Derived.Test.YthioccbgjkbmdaaGreatM26b835a054
import Derived.Test.YthioccbgjkbmdaaGreatM18319a4844
set_option linter.unusedVariables false
set_option linter.unusedSimpArgs false
set_option maxRecDepth 100000
set_option maxHeartbeats 4000000
namespace Go.Proofs.YthioccbgjkbmdaaGreat.AM
open Go Go.RowKit
def Dk.addD (k : Dk) (file n : Int) (a : RecM) : Dk × Int × Int × Int := if checkM a = false then (k, file, n, 2) else if 1024 < (putB a).length then (k, file, n, 5) else
 let r := k.beginD file
 if r.2.2 ≠ 0 then (r.1, r.2.1, n, r.2.2) else
 let s := r.1.appD r.2.1 (frameL n.toNat (putB a))
 if s.2 ≠ 0 then (s.1, r.2.1, n, s.2) else
 let t := s.1.syncD r.2.1
 (t.1, r.2.1, if t.2 = 0 then n + 1 else n, t.2)
theorem wu32 {A : Prim} {P : Program} {R : List (Nat × AObj) → List D → Prop} (hA : A = std P R) {n : Int} (hn : 0 ≤ n ∧ n ≤ 1000000) : A.wrap .u32 n = n := by
 subst hA
 show IntKind.u32.wrap n = n
 unfold IntKind.wrap
 show (if (false && decide (n % (2 ^ 32 : Int) ≥ (2 ^ 31 : Int))) = true then n % (2 ^ 32 : Int) - (2 ^ 32 : Int) else n % (2 ^ 32 : Int)) = n
 rw [Bool.false_and, if_neg (by decide)]
 omega
theorem frameL_lenJ (s : Nat) (b : Bs) : (frameL s b).length = b.length + 10 := by simp [frameL, lenTwo, fourB]
theorem makeD_i64 {k : Dk} {B : Nat} (h : PkOk k B) (i : Int) (s : Bs) (d : Bool) : I64 (k.makeD i s d).2.1 := by
 have := h.most
 have i0 : I64 0 := by unfold I64; omega
 unfold Dk.makeD; dsimp only
 split
 ·exact i0
 ·split
  ·exact i0
  ·split
   ·exact i0
   ·split
    ·exact i0
    ·split
     ·exact i0
     ·split
      ·exact i0
      ·dsimp only; split
       ·unfold I64; omega
       ·exact i0
theorem beginD_i64 {k : Dk} {B : Nat} (h : PkOk k B) {file : Int} (hf : I64 file) : I64 (k.beginD file).2.1 := by
 unfold Dk.beginD; dsimp only
 split
 ·exact hf
 ·split
  ·exact hf
  ·exact makeD_i64 h _ _ _
def AddQ (gh : GH) (lab : Lab) (p : Nat) (k : Dk) (B jp : Nat) (file n : Int) (b : Bs) (e : Int) (g : GH) : Prop :=
 let r := k.beginD file
 let s := r.1.appD r.2.1 b
 let t := s.1.syncD r.2.1
 (e = r.2.2 ∧ e ≠ 0 ∧ JDid gh lab p r.1 B jp r.2.1 n g) ∨ (r.2.2 = 0 ∧ e = s.2 ∧ e ≠ 0 ∧ JDid gh lab p s.1 B jp r.2.1 n g) ∨ (r.2.2 = 0 ∧ s.2 = 0 ∧ e = t.2 ∧ JDid gh lab p t.1 B jp r.2.1 n g)
theorem addChain {gh : GH} {lab : Lab} {p : Nat} {k : Dk} {B jp : Nat} {file n : Int} (h : JD gh lab p k B jp file n) (hB : B + 2000 ≤ 1000000000) (hi : I64 file) {b : Bs} (hb : ¬ 1024 < b.length) (fr : List V) {m : Nat} (hfr : fr = bytesV (frameL m b)) : FnG Tryz.prog 45 [.slice [.mth 48 [.gp jp 0], .clo 49 [.ref [.gp jp 0], .ref [.slice fr]], .clo 50 [.ref [.gp jp 0]]]] gh fun rs g => ∃ e : Int, rs = [.v (.int .i64 e)] ∧ AddQ gh lab p k (B + 2000) jp file n (frameL m b) e g := by
 have hfl := frameL_lenJ m b
 have hi2 : I64 (k.beginD file).2.1 := beginD_i64 h.d.ok hi
 refine gChain [(true, 48, [.gp jp 0]), (false, 49, [.ref [.gp jp 0], .ref [.slice fr]]), (false, 50, [.ref [.gp jp 0]])] _ rfl (Nat.le_of_ble_eq_true rfl) _ ?_
 refine ⟨.inl ⟨_, rfl⟩, fun e g => e = (k.beginD file).2.2 ∧ JDid gh lab p (k.beginD file).1 (B + 1) jp (k.beginD file).2.1 n g, gBegin h (by omega), fun e g q h0 => .inl ⟨q.1, h0, q.2.mono (by omega)⟩, fun g ⟨q1, lab1, u1, hj1⟩ => ?_⟩
 refine ⟨.inr (.inl ⟨rfl, _, _, rfl⟩), fun e g => e = ((k.beginD file).1.appD (k.beginD file).2.1 (frameL m b)).2 ∧ JDid gh lab p ((k.beginD file).1.appD (k.beginD file).2.1 (frameL m b)).1 (B + 1 + (frameL m b).length) jp (k.beginD file).2.1 n g, (gAdd1 hj1 _ fr hfr (by omega) hi2).mono fun rs g2 ⟨e, r1, r2, lab2, u2, hj2⟩ => ⟨e, r1, r2, lab2, u1.trans u2, hj2⟩, fun e g q h0 => .inr (.inl ⟨q1.symm, q.1, h0, q.2.mono (by omega)⟩), fun g ⟨q2, lab2, u2, hj2⟩ => ?_⟩
 refine ⟨.inl ⟨_, rfl⟩, fun e g => e = (((k.beginD file).1.appD (k.beginD file).2.1 (frameL m b)).1.syncD (k.beginD file).2.1).2 ∧ JDid gh lab p (((k.beginD file).1.appD (k.beginD file).2.1 (frameL m b)).1.syncD (k.beginD file).2.1).1 (B + 1 + (frameL m b).length) jp (k.beginD file).2.1 n g, (gAdd2 hj2 (by omega) hi2).mono fun rs g2 ⟨e, r1, r2, lab3, u3, hj3⟩ => ⟨e, r1, r2, lab3, u2.trans u3, hj3⟩, fun e g q h0 => .inr (.inr ⟨q1.symm, q2.symm, q.1, q.2.mono (by omega)⟩), fun g q => .inr (.inr ⟨q1.symm, q2.symm, q.1, q.2.mono (by omega)⟩)⟩
theorem gAdd {gh : GH} {lab : Lab} {p : Nat} {k : Dk} {B jp : Nat} {file n : Int} (h : JD gh lab p k B jp file n) (hB : B + 2000 ≤ 1000000000) (hn : 0 ≤ n ∧ n ≤ 1000000) (hi : I64 file) (a : RecM) (l : List V) (ha : l = strsV a.path) (hr : RecOk a) : FnG Tryz.prog 12 [.gp jp 0, .agg [.int .u8 a.k, .slice l, .int .i64 a.sz, .int .u32 a.sm, .int .i64 a.mi, .int .i64 a.mo, .int .u32 a.si, .int .u32 a.so]] gh fun rs g => ∃ e : Int, rs = [.v (.int .i64 e)] ∧ e = (k.addD file n a).2.2.2 ∧ JDid gh lab p (k.addD file n a).1 (B + 2000) jp (k.addD file n a).2.1 (k.addD file n a).2.2.1 g := by
 have hj := h.j.at_
 unfold jBox at hj
 have hput := cPut a l ha hr
 have hpe : putE a = if checkM a then 0 else 2 := rfl
 obtain ⟨pb, hpb⟩ : ∃ b, b = putB a := ⟨_, rfl⟩
 have hfr : ∀ (fl : List V) (v : Int), v = n → fl = bytesV pb → _ := fun fl v hv hfl => cFrame v n.toNat pb fl (by omega) (by omega) hfl
 refine FnG.of' T_ok M_ok [] (fn := Tryz.f12) (by kernel_rfl) rfl rfl rfl rfl (Nat.le_of_ble_eq_true rfl) fun A hA => ?_
 cbv
 refine callI hA (hput) ?_
 intro rs_ h_
 obtain ⟨r, e, q_1, hrr, he⟩ := h_
 subst q_1
 cbv
 refine condI hA (fun h1 => ?_) (fun h1 => ?_)
 ·have h1 := zneT hA h1
  have hc : checkM a = false := by
   cases q : checkM a with
   | false => rfl
   | true => rw [hpe, q] at he; exact absurd he h1
  have he : e = 2 := by rw [hpe, hc] at he; exact he
  have q : k.addD file n a = (k, file, n, 2) := by unfold Dk.addD; rw [if_pos hc]
  cbv
  exact retGI hA rfl [.v (.int .i64 e)] gh (⟨e, rfl, by rw [q]; exact he, by rw [q]; exact h.self (Nat.le_add_right _ _)⟩)
 ·have h1 := zneF hA h1
  have hc : ¬ checkM a = false := fun q => by rw [hpe, q] at he; rw [he] at h1; cases h1
  cbv
  refine gldI hA _ (hj) ?_
  cbv
  refine callI hA ((hfr r _ (wu32 hA hn) (hrr.trans (by rw [hpb])))) ?_
  intro rs_ h_
  obtain ⟨fr, e2, q_1, hfl, he2⟩ := h_
  subst q_1
  cbv
  refine condI hA (fun h2 => ?_) (fun h2 => ?_)
  ·have h2 := zneT hA h2
   have hb : 1024 < (putB a).length := Classical.byContradiction fun q => h2 (he2.trans (by unfold frameE; rw [hpb, if_neg q]))
   have q : k.addD file n a = (k, file, n, 5) := by unfold Dk.addD; rw [if_neg hc, if_pos hb]
   have he2 : e2 = 5 := he2.trans (by unfold frameE; rw [hpb, if_pos hb])
   cbv
   exact retGI hA rfl [.v (.int .i64 e2)] gh (⟨e2, rfl, by rw [q]; exact he2, by rw [q]; exact h.self (Nat.le_add_right _ _)⟩)
  ·have h2 := zneF hA h2
   have hb : ¬ 1024 < (putB a).length := fun q => by rw [h2] at he2; unfold frameE at he2; rw [hpb, if_pos q] at he2; cases he2
   have hfl : fr = bytesV (frameL n.toNat (putB a)) := hfl.trans (by unfold frameB; rw [hpb, if_neg hb])
   have hch := addChain h hB hi hb fr hfl
   cbv
   refine callGI hA (hch) ?_
   intro rs_ g2 h_
   obtain ⟨e, q_1, hq⟩ := h_
   subst q_1
   cbv
   refine condI hA (fun h3 => ?_) (fun h3 => ?_)
   ·have h3 : e = 0 := zeqT hA h3
    rcases hq with ⟨_, q, _⟩ | ⟨_, _, q, _⟩ | ⟨q1, q2, q3, lab2, u2, hj2⟩
    ·exact absurd h3 q
    ·exact absurd h3 q
    have q : k.addD file n a = ((((k.beginD file).1.appD (k.beginD file).2.1 (frameL n.toNat (putB a))).1.syncD (k.beginD file).2.1).1, (k.beginD file).2.1, n + 1, e) := by unfold Dk.addD; rw [if_neg hc, if_neg hb]; dsimp only; rw [if_neg (fun f => f q1), if_neg (fun f => f q2), ← q3, if_pos h3]
    have b2 := hj2.j.at_
    unfold jBox at b2
    have hw : w64 (n + 1) = n + 1 := w64_id (by omega)
    cbv
    refine gldI hA _ (b2) ?_
    cbv
    refine gstI hA _ b2 ?_
    intro g3 hg3
    obtain ⟨lab3, u3, hj3⟩ := hj2.put (n' := n + 1) (g := g3) (hg3.trans (congrArg (fun q => g2.set jp (jBox p _ q)) ((zadd hA n 1).trans hw)))
    cbv
    exact retGI hA rfl [.v (.int .i64 e)] g3 (⟨e, rfl, by rw [q], by rw [q]; exact ⟨lab3, u2.trans u3, hj3⟩⟩)
   ·have h3 : e ≠ 0 := zeqF hA h3
    cbv
    rcases hq with ⟨q1, q2, q3⟩ | ⟨q1, q2, q3, q4⟩ | ⟨q1, q2, q3, q4⟩
    ·have q : k.addD file n a = ((k.beginD file).1, (k.beginD file).2.1, n, e) := by unfold Dk.addD; rw [if_neg hc, if_neg hb]; dsimp only; rw [if_pos (q1 ▸ h3), q1]
     exact retGI hA rfl [.v (.int .i64 e)] g2 (⟨e, rfl, by rw [q], by rw [q]; exact q3⟩)
    ·have q : k.addD file n a = (((k.beginD file).1.appD (k.beginD file).2.1 (frameL n.toNat (putB a))).1, (k.beginD file).2.1, n, e) := by unfold Dk.addD; rw [if_neg hc, if_neg hb]; dsimp only; rw [if_neg (fun f => f q1), if_pos (q2 ▸ h3), q2]
     exact retGI hA rfl [.v (.int .i64 e)] g2 (⟨e, rfl, by rw [q], by rw [q]; exact q4⟩)
    ·have q : k.addD file n a = ((((k.beginD file).1.appD (k.beginD file).2.1 (frameL n.toNat (putB a))).1.syncD (k.beginD file).2.1).1, (k.beginD file).2.1, n, e) := by unfold Dk.addD; rw [if_neg hc, if_neg hb]; dsimp only; rw [if_neg (fun f => f q1), if_neg (fun f => f q2), ← q3, if_neg h3]
     exact retGI hA rfl [.v (.int .i64 e)] g2 (⟨e, rfl, by rw [q], by rw [q]; exact q4⟩)
def Dk.clearD (k : Dk) (file n : Int) : Dk × Int × Int × Int := if file = 0 then (k, file, n, 0) else
 let r := k.unlD 1 jName
 if r.2 ≠ 0 then (r.1, file, n, r.2) else
 let s := r.1.syncD 1
 (s.1, if s.2 = 0 then 0 else file, if s.2 = 0 then 0 else n, s.2)
theorem gClear {gh : GH} {lab : Lab} {p : Nat} {k : Dk} {B jp : Nat} {file n : Int} (h : JD gh lab p k B jp file n) (hB : B + 2 ≤ 1000000000) : FnG Tryz.prog 16 [.gp jp 0] gh fun rs g => ∃ e : Int, rs = [.v (.int .i64 e)] ∧ e = (k.clearD file n).2.2.2 ∧ JDid gh lab p (k.clearD file n).1 (B + 2) jp (k.clearD file n).2.1 (k.clearD file n).2.2.1 g := by
 have hj := h.j.at_
 unfold jBox at hj
 have hch := gChain [(false, 51, [.ref [.gp jp 0]]), (false, 53, [.ref [.gp jp 0]])] _ rfl (Nat.le_of_ble_eq_true rfl) (fun e g => (e = (k.unlD 1 jName).2 ∧ e ≠ 0 ∧ JDid gh lab p (k.unlD 1 jName).1 (B + 1) jp file n g) ∨ ((k.unlD 1 jName).2 = 0 ∧ e = ((k.unlD 1 jName).1.syncD 1).2 ∧ JDid gh lab p ((k.unlD 1 jName).1.syncD 1).1 (B + 1) jp file n g))
  ⟨.inl ⟨_, rfl⟩, fun e g => e = (k.unlD 1 jName).2 ∧ JDid gh lab p (k.unlD 1 jName).1 (B + 1) jp file n g, gClear1 h (by omega), fun e g q h0 => .inl ⟨q.1, h0, q.2⟩, fun g ⟨q1, lab1, u1, hj1⟩ =>
   ⟨.inl ⟨_, rfl⟩, fun e g => e = ((k.unlD 1 jName).1.syncD 1).2 ∧ JDid gh lab p ((k.unlD 1 jName).1.syncD 1).1 (B + 1) jp file n g, (gClear2 hj1 (by omega)).mono fun rs g2 ⟨e, r1, r2, r3⟩ => ⟨e, r1, r2, let ⟨lab2, u2, hj2⟩ := r3; ⟨lab2, u1.trans u2, hj2⟩⟩, fun e g q h0 => .inr ⟨q1.symm, q.1, q.2⟩, fun g q => .inr ⟨q1.symm, q.1, q.2⟩⟩⟩
 refine FnG.of' T_ok M_ok [] (fn := Tryz.f16) (by kernel_rfl) rfl rfl rfl rfl (Nat.le_of_ble_eq_true rfl) fun A hA => ?_
 cbv
 refine gldI hA _ (hj) ?_
 cbv
 refine condI hA (fun h1 => ?_) (fun h1 => ?_)
 ·have h1 := zeqT hA h1
  have q : k.clearD file n = (k, file, n, 0) := by unfold Dk.clearD; rw [if_pos h1]
  cbv
  exact retGI hA rfl [.v (.int .i64 0)] gh (⟨0, rfl, by rw [q], by rw [q]; exact h.self (Nat.le_add_right _ _)⟩)
 ·have h1 := zeqF hA h1
  cbv
  refine callGI hA (hch) ?_
  intro rs_ g2 h_
  obtain ⟨e, q_1, hq⟩ := h_
  subst q_1
  cbv
  refine condI hA (fun h2 => ?_) (fun h2 => ?_)
  ·have h2 : e = 0 := zeqT hA h2
   rcases hq with ⟨_, q, _⟩ | ⟨q1, q2, lab2, u2, hj2⟩
   ·exact absurd h2 q
   have q : k.clearD file n = (((k.unlD 1 jName).1.syncD 1).1, 0, 0, 0) := by unfold Dk.clearD; rw [if_neg h1]; dsimp only; rw [if_neg (fun f => f q1), ← q2, h2]; rfl
   have b2 := hj2.j.at_
   unfold jBox at b2
   cbv
   refine chkI hA (by kernel_rfl) ?_
   cbv
   refine gstI hA _ b2 ?_
   intro g3 hg3
   have b3 : g3.get jp = some (.box [.gp p 0, .int .i64 0, .int .i64 n]) := by rw [hg3]; simp; rfl
   cbv
   refine gstI hA _ b3 ?_
   intro g4 hg4
   obtain ⟨lab4, u4, hj4⟩ := hj2.put (file' := 0) (n' := 0) (g := g4) (by rw [hg4, hg3, set_set]; rfl)
   cbv
   exact retGI hA rfl [.v (.int .i64 e)] g4 (⟨e, rfl, by rw [q]; exact h2, by rw [q]; exact JDid.mono ⟨lab4, u2.trans u4, hj4⟩ (Nat.le_succ _)⟩)
  ·have h2 : e ≠ 0 := zeqF hA h2
   cbv
   rcases hq with ⟨q1, q2, q3⟩ | ⟨q1, q2, q3⟩
   ·have q : k.clearD file n = ((k.unlD 1 jName).1, file, n, e) := by unfold Dk.clearD; rw [if_neg h1]; dsimp only; rw [if_pos (q1 ▸ h2), q1]
    exact retGI hA rfl [.v (.int .i64 e)] g2 (⟨e, rfl, by rw [q], by rw [q]; exact q3.mono (Nat.le_succ _)⟩)
   ·have q : k.clearD file n = (((k.unlD 1 jName).1.syncD 1).1, file, n, e) := by unfold Dk.clearD; rw [if_neg h1]; dsimp only; rw [if_neg (fun f => f q1), ← q2, if_neg h2, if_neg h2]
    exact retGI hA rfl [.v (.int .i64 e)] g2 (⟨e, rfl, by rw [q], by rw [q]; exact q3.mono (Nat.le_succ _)⟩)
open Go Go.RowKit
def Dk.openD (k : Dk) : Dk × Option (Int × List RecM) × Int :=
 let f := k.findE 1 jName
 if f.2 = 8 then (k, some (0, []), 0) else if f.2 ≠ 0 then (k, none, f.2) else if k.ofE f.1 true = 0 then (k, none, 10) else
 let b := (k.readM f.1 0 (sizeM k f.1)).1
 let s := scanM 0 b
 if s.2 < b.length then
  let c := k.cutD f.1 s.2
  if c.2 ≠ 0 then (c.1, none, c.2) else
  let y := c.1.syncD f.1
  if y.2 ≠ 0 then (y.1, none, y.2) else (y.1, some (f.1, s.1), 0)
 else (k, some (f.1, s.1), 0)
theorem newBox {gh g : GH} {lab : Lab} {x : Nat} {o : GObj} (hd : Dom gh lab) (hx : x = gh.next) (hg : g = gh.new o) : Upd gh g lab lab (fun _ => False) (fun _ => False) ∧ Side g lab x o :=
 ⟨Upd.mk0 hd (by rw [hg]; simp) (fun y hy _ _ => by rw [hg]; simp only [GH.new_get]; rw [if_neg (by omega)]), by rw [hg, hx]; simp, hd x (by rw [hx]; exact Nat.le_refl _), by rw [hg, hx]; simp⟩
theorem findE_i64 {k : Dk} {B : Nat} (h : PkOk k B) {i : Int} {s : Bs} : I64 (k.findE i s).1 := by
 rcases Decidable.em ((k.findE i s).2 = 0) with q | q
 ·obtain ⟨_, j0, j1, n0, n1, r1, r2, r3, r4, r5, r6⟩ := findE_ok h q
  have := h.most
  have := (List.getElem?_eq_some_iff.1 r5).1
  rw [r4]; unfold I64; omega
 ·have : (k.findE i s).1 = 0 := by
   unfold Dk.findE at *
   split
   ·rfl
   ·rename_i q2
    rw [if_neg q2] at q
    split at q
    ·split at q
     ·exact absurd rfl q
     ·rfl
    ·rfl
  rw [this]; unfold I64; omega
theorem sizeM_i64 {k : Dk} {B : Nat} (h : PkOk k B) (hB : B ≤ 1000000000) (i : Int) : I64 (sizeM k i) := by
 unfold sizeM
 split
 ·split
  ·rename_i nd hnd
   unfold Dk.node? at hnd
   split at hnd
   ·have h1 := h.sz nd (List.mem_of_getElem? hnd)
    have h2 := seen_len nd
    unfold I64; omega
   ·cases hnd
  ·unfold I64; omega
 ·unfold I64; omega
theorem readM_len {k : Dk} {B : Nat} (h : PkOk k B) (i a n : Int) : (k.readM i a n).1.length ≤ B := by
 unfold Dk.readM
 split
 ·simp
 ·split
  ·rename_i nd hnd
   split
   ·simp
   ·unfold Dk.node? at hnd
    split at hnd
    ·have h1 := h.sz nd (List.mem_of_getElem? hnd)
     have h2 := seen_len nd
     simp only [List.length_take, List.length_drop]; omega
    ·cases hnd
  ·simp
theorem gOpen1 {gh : GH} {lab : Lab} {p : Nat} {k : Dk} {B : Nat} (h : DI gh lab p k B) (hB : B ≤ 1000000000) (i : Int) (hi : I64 i) (n : Int) : FnG Tryz.prog 41 [.ref [.gp p 0], .ref [.int .i64 i], .ref [.int .i64 n]] gh fun rs g => ∃ e : Int, rs = [.v (.int .i64 e)] ∧ e = (k.cutD i n).2 ∧ Did gh lab p (k.cutD i n).1 (B + 1) g := by
 have ha := dCut h hB i hi n
 refine FnG.of' T_ok M_ok [] (fn := Tryz.f41) (by kernel_rfl) rfl rfl rfl rfl (Nat.le_of_ble_eq_true rfl) fun A hA => ?_
 cbv
 refine callGI hA (ha) ?_
 intro rs_ g h_
 obtain ⟨e, q_1, hq⟩ := h_
 subst q_1
 cbv
 exact retGI hA rfl [.v (.int .i64 e)] g (⟨e, rfl, hq⟩)
theorem gOpen2 {gh : GH} {lab : Lab} {p : Nat} {k : Dk} {B : Nat} (h : DI gh lab p k B) (hB : B ≤ 1000000000) (i : Int) (hi : I64 i) : FnG Tryz.prog 43 [.ref [.gp p 0], .ref [.int .i64 i]] gh fun rs g => ∃ e : Int, rs = [.v (.int .i64 e)] ∧ e = (k.syncD i).2 ∧ Did gh lab p (k.syncD i).1 B g := by
 have ha := dSync h hB i hi
 refine FnG.of' T_ok M_ok [] (fn := Tryz.f43) (by kernel_rfl) rfl rfl rfl rfl (Nat.le_of_ble_eq_true rfl) fun A hA => ?_
 cbv
 refine callGI hA (ha) ?_
 intro rs_ g h_
 obtain ⟨e, q_1, hq⟩ := h_
 subst q_1
 cbv
 exact retGI hA rfl [.v (.int .i64 e)] g (⟨e, rfl, hq⟩)
theorem gOpen {gh : GH} {lab : Lab} {p : Nat} {k : Dk} {B : Nat} (h : DI gh lab p k B) (hB : B + 2 ≤ 1000000000) : FnG Tryz.prog 11 [.gp p 0] gh fun rs g => ∃ (x : V) (l : List V) (e : Int), rs = [.v x, .v (.slice l), .v (.int .i64 e)] ∧ e = k.openD.2.2 ∧ ∃ lab', Upd gh g lab lab' (fun _ => True) (fun _ => False) ∧ DI g lab' p k.openD.1 (B + 2) ∧ match k.openD.2.1 with
  | none => x = .nilp ∧ l = []
  | some (f, rs) => l = recsV rs ∧ ∃ jp, x = .gp jp 0 ∧ gh.next ≤ jp ∧ Side g lab' jp (jBox p f (rs.length : Nat)) := by
 have hfi := dFind h 1 i64_1 jName
 have hB0 : B ≤ 1000000000 := by omega
 have hB1 : B + 1 ≤ 1000000000 := by omega
 have nojr : k.openD.2.1 = none → ∀ (g : GH) (lab' : Lab) (e : Int), e = k.openD.2.2 → Upd gh g lab lab' (fun _ => True) (fun _ => False) → DI g lab' p k.openD.1 (B + 2) → ∃ (x : V) (l : List V) (e' : Int), [Rs.v .nilp, Rs.v (.slice []), Rs.v (.int .i64 e)] = [.v x, .v (.slice l), .v (.int .i64 e')] ∧ e' = k.openD.2.2 ∧ ∃ lab', Upd gh g lab lab' (fun _ => True) (fun _ => False) ∧ DI g lab' p k.openD.1 (B + 2) ∧ match k.openD.2.1 with
  | none => x = .nilp ∧ l = []
  | some (f, rs) => l = recsV rs ∧ ∃ jp, x = .gp jp 0 ∧ gh.next ≤ jp ∧ Side g lab' jp (jBox p f (rs.length : Nat)) := fun h0 g lab' e he u hd => ⟨.nilp, [], e, rfl, he, lab', u, hd, by rw [h0]; exact ⟨rfl, rfl⟩⟩
 have hu0 : Upd gh gh lab lab (fun _ => True) (fun _ => False) := Upd.refl h.i.at_.1 _ _
 refine FnG.of' T_ok M_ok [24, 65] (fn := Tryz.f11) (by kernel_rfl) rfl rfl rfl rfl (Nat.le_of_ble_eq_true rfl) fun A hA => ?_
 cbv
 refine callGI hA (hfi) ?_
 intro rs_ g_ h_
 obtain ⟨f, e, q_1, hf, he, q_2⟩ := h_
 subst q_1
 subst q_2
 cbv
 refine condI hA (fun h1 => ?_) (fun h1 => ?_)
 ·have h1 : (k.findE 1 jName).2 = 8 := he ▸ zeqT hA h1
  have q : k.openD = (k, some (0, []), 0) := by unfold Dk.openD; dsimp only; rw [if_pos h1]
  cbv
  refine gbxN hA ?_
  intro g1 jp hjp hg1
  obtain ⟨u1, hs1⟩ := newBox h.i.at_.1 hjp hg1
  cbv
  exact retGI hA rfl [.v (.gp jp 0), .v (.slice []), .v (.int .i64 0)] g1 ⟨_, _, 0, rfl, by rw [q], lab, u1.weak (fun _ h => h.elim) (fun _ h => h.elim), by rw [q]; exact (h.upd u1 (fun _ h => h.elim)).mono (Nat.le_add_right _ _), by rw [q]; exact ⟨rfl, jp, rfl, Nat.le_of_eq hjp.symm, hs1⟩⟩
 ·have h1 : (k.findE 1 jName).2 ≠ 8 := he ▸ zeqF hA h1
  cbv
  refine condI hA (fun h2 => ?_) (fun h2 => ?_)
  ·have h2 : (k.findE 1 jName).2 ≠ 0 := he ▸ zneT hA h2
   have q : k.openD = (k, none, (k.findE 1 jName).2) := by unfold Dk.openD; dsimp only; rw [if_neg h1, if_pos h2]
   cbv
   exact retGI hA rfl [.v .nilp, .v (.slice []), .v (.int .i64 e)] gh (nojr (by rw [q]) gh lab e (by rw [q]; exact he) hu0 (by rw [q]; exact h.mono (Nat.le_add_right _ _)))
  ·have h2 : (k.findE 1 jName).2 = 0 := he ▸ zneF hA h2
   have hi : I64 f := hf ▸ findE_i64 h.ok
   have hid := gIsDir h.i f hi
   have hsz := gSize h.i f hi
   have hrd : ∀ n, I64 n → FnG _ _ _ _ _ := fun n hn => dRead h (by omega) f 0 n hi (by unfold I64; omega) hn
   cbv
   refine callGI hA (hid) ?_
   intro rs_ g_ h_
   obtain ⟨c, q_1, hc, q_2⟩ := h_
   subst q_1
   subst q_2
   cbv
   refine condI hA (fun h3 => ?_) (fun h3 => ?_)
   ·have h3 : k.ofE (k.findE 1 jName).1 true = 0 := by rw [hc, hf] at h3; exact of_decide_eq_true h3
    have q : k.openD = (k, none, 10) := by unfold Dk.openD; dsimp only; rw [if_neg h1, if_neg (fun f => f h2), if_pos h3]
    cbv
    exact retGI hA rfl [.v .nilp, .v (.slice []), .v (.int .i64 10)] gh (nojr (by rw [q]) gh lab 10 (by rw [q]) hu0 (by rw [q]; exact h.mono (Nat.le_add_right _ _)))
   ·have h3 : ¬ k.ofE (k.findE 1 jName).1 true = 0 := fun q => by rw [hc, hf, decide_eq_true q] at h3; cases h3
    obtain ⟨sz, hszz⟩ : ∃ sz, sz = sizeM k f := ⟨_, rfl⟩
    have hszi : I64 sz := hszz ▸ sizeM_i64 h.ok (by omega) f
    obtain ⟨rb, hrb⟩ : ∃ b, b = (k.readM f 0 sz).1 := ⟨_, rfl⟩
    obtain ⟨bl, hbl⟩ : ∃ b, b = bytesV (k.readM f 0 sz).1 := ⟨_, rfl⟩
    obtain ⟨e2, he2⟩ : ∃ e, e = (k.readM f 0 sz).2 := ⟨_, rfl⟩
    have hrl : rb.length ≤ B := hrb ▸ readM_len h.ok f 0 sz
    have hsc := cScan rb bl (hrb ▸ hbl) (by omega)
    cbv
    refine chkI hA (by kernel_rfl) ?_
    cbv
    refine callHI hA [.v (.int .i64 sz)] (hsz.mono fun rs g ⟨x, q1, q2, q3⟩ => ⟨by rw [q1, q2, hszz], q3.symm⟩) ?_
    cbv
    refine callHI hA [.v (.slice bl), .v (.int .i64 e2)] ((hrd sz hszi).mono fun rs g ⟨x, y, q1, q2, q3, q4⟩ => ⟨by rw [q1, q2, q3, hbl, he2], q4.symm⟩) ?_
    cbv
    refine callI hA (hsc) ?_
    intro rs_ h_
    obtain ⟨rl, gd, q_1, hrl2, hgd⟩ := h_
    subst q_1
    cbv
    have hbb : (k.readM (k.findE 1 jName).1 0 (sizeM k (k.findE 1 jName).1)).1 = rb := by rw [hrb, hszz, hf]
    have q0 : k.openD = if (scanM 0 rb).2 < rb.length then (if (k.cutD f (scanM 0 rb).2).2 ≠ 0 then ((k.cutD f (scanM 0 rb).2).1, none, (k.cutD f (scanM 0 rb).2).2) else if ((k.cutD f (scanM 0 rb).2).1.syncD f).2 ≠ 0 then (((k.cutD f (scanM 0 rb).2).1.syncD f).1, none, ((k.cutD f (scanM 0 rb).2).1.syncD f).2) else (((k.cutD f (scanM 0 rb).2).1.syncD f).1, some (f, (scanM 0 rb).1), 0)) else (k, some (f, (scanM 0 rb).1), 0) := by
     unfold Dk.openD; dsimp only; rw [if_neg h1, if_neg (fun f => f h2), if_neg h3, hbb, ← hf]
    have hjl : A.lenL rl = ((scanM 0 rb).1.length : Nat) := lenR hA hrl2
    refine condI hA (fun h4 => ?_) (fun h4 => ?_)
    ·have h4 : (scanM 0 rb).2 < rb.length := by
      have h4 : gd < A.lenL bl := zltT hA h4
      rw [hgd, lenI hA (hrb ▸ hbl)] at h4; exact Int.ofNat_lt.1 h4
     rw [if_pos h4, ← natEq hgd] at q0
     have hch := gChain (gh := gh) [(false, 41, [.ref [.gp p 0], .ref [.int .i64 f], .ref [.int .i64 gd]]), (false, 43, [.ref [.gp p 0], .ref [.int .i64 f]])] _ rfl (Nat.le_of_ble_eq_true rfl) (fun e g => (e = (k.cutD f gd).2 ∧ e ≠ 0 ∧ Did gh lab p (k.cutD f gd).1 (B + 1) g) ∨ ((k.cutD f gd).2 = 0 ∧ e = ((k.cutD f gd).1.syncD f).2 ∧ Did gh lab p ((k.cutD f gd).1.syncD f).1 (B + 1) g))
      ⟨.inr (.inr ⟨rfl, _, _, _, rfl⟩), fun e g => e = (k.cutD f gd).2 ∧ Did gh lab p (k.cutD f gd).1 (B + 1) g, gOpen1 h hB0 f hi gd, fun e g q h0 => .inl ⟨q.1, h0, q.2⟩, fun g ⟨q1, lab1, u1, hd1⟩ =>
       ⟨.inr (.inl ⟨rfl, _, _, rfl⟩), fun e g => e = ((k.cutD f gd).1.syncD f).2 ∧ Did gh lab p ((k.cutD f gd).1.syncD f).1 (B + 1) g, (gOpen2 hd1 hB1 f hi).mono fun rs g2 ⟨e, r1, r2, lab2, u2, hd2⟩ => ⟨e, r1, r2, lab2, u1.trans u2, hd2⟩, fun e g q h0 => .inr ⟨q1.symm, q.1, q.2⟩, fun g q => .inr ⟨q1.symm, q.1, q.2⟩⟩⟩
     cbv
     refine callGI hA (hch) ?_
     intro rs_ g2 h_
     obtain ⟨e3, q_1, hq⟩ := h_
     subst q_1
     cbv
     refine condI hA (fun h5 => ?_) (fun h5 => ?_)
     ·have h5 := zneT hA h5
      cbv
      rcases hq with ⟨p1, p2, lab2, u2, hd2⟩ | ⟨p1, p2, lab2, u2, hd2⟩
      ·have q : k.openD = ((k.cutD f gd).1, none, e3) := by rw [q0, if_pos (p1 ▸ p2), p1]
       exact retGI hA rfl [.v .nilp, .v (.slice []), .v (.int .i64 e3)] g2 (nojr (by rw [q]) g2 lab2 e3 (by rw [q]) u2 (by rw [q]; exact hd2.mono (Nat.le_succ _)))
      ·have q : k.openD = (((k.cutD f gd).1.syncD f).1, none, e3) := by rw [q0, if_neg (fun f => f p1), if_pos (p2 ▸ h5), p2]
       exact retGI hA rfl [.v .nilp, .v (.slice []), .v (.int .i64 e3)] g2 (nojr (by rw [q]) g2 lab2 e3 (by rw [q]) u2 (by rw [q]; exact hd2.mono (Nat.le_succ _)))
     ·have h5 := zneF hA h5
      rcases hq with ⟨p1, p2, _⟩ | ⟨p1, p2, lab2, u2, hd2⟩
      ·exact absurd h5 p2
      have q : k.openD = (((k.cutD f gd).1.syncD f).1, some (f, (scanM 0 rb).1), 0) := by rw [q0, if_neg (fun f => f p1), if_neg (by rw [← p2, h5]; simp)]
      cbv
      refine gbxN hA ?_
      intro g3 jp hjp hg3
      obtain ⟨u3, hs3⟩ := newBox hd2.i.at_.1 hjp hg3
      have hs3 : Side g3 lab2 jp (jBox p f ((scanM 0 rb).1.length : Nat)) := by rw [← natEq hjl]; exact hs3
      cbv
      exact retGI hA rfl [.v (.gp jp 0), .v (.slice rl), .v (.int .i64 0)] g3 ⟨_, _, 0, rfl, by rw [q], lab2, u2.trans (u3.weak (fun _ h => h.elim) (fun _ h => h.elim)), by rw [q]; exact (hd2.upd u3 (fun _ h => h.elim)).mono (Nat.le_succ _), by rw [q]; exact ⟨hrl2, jp, rfl, by rw [hjp]; exact u2.next, hs3⟩⟩
    ·have h4 : ¬ (scanM 0 rb).2 < rb.length := by
      have h4 : ¬ gd < A.lenL bl := zltF hA h4
      rw [hgd, lenI hA (hrb ▸ hbl)] at h4; exact fun q => h4 (Int.ofNat_lt.2 q)
     have q : k.openD = (k, some (f, (scanM 0 rb).1), 0) := by rw [q0, if_neg h4]
     cbv
     refine gbxN hA ?_
     intro g3 jp hjp hg3
     obtain ⟨u3, hs3⟩ := newBox h.i.at_.1 hjp hg3
     have hs3 : Side g3 lab jp (jBox p f ((scanM 0 rb).1.length : Nat)) := by rw [← natEq hjl]; exact hs3
     cbv
     exact retGI hA rfl [.v (.gp jp 0), .v (.slice rl), .v (.int .i64 0)] g3 ⟨_, _, 0, rfl, by rw [q], lab, u3.weak (fun _ h => h.elim) (fun _ h => h.elim), by rw [q]; exact (h.upd u3 (fun _ h => h.elim)).mono (Nat.le_add_right _ _), by rw [q]; exact ⟨hrl2, jp, rfl, Nat.le_of_eq hjp.symm, hs3⟩⟩
open Go Go.RowKit
section
variable {A : Prim} {P : Program} {R : List (Nat × AObj) → List D → Prop} (hA : A = std P R)
include hA
theorem to12 {n m : Int} {x y : Nat} (hn : n = x) (hm : m = y) (hx : x < 256) (hy : y < 256) : A.wrap .i64 (A.add (A.wrap .i64 (A.add 10 (A.wrap .i64 (A.mul 256 (A.wrap .i64 n))))) (A.wrap .i64 m)) = ((10 + (x * 256 + y) : Nat) : Int) := by
 have e1 : A.wrap .i64 (A.mul 256 (A.wrap .i64 n)) = ((x * 256 : Nat) : Int) := by
  rw [wSmall hA hn hx, hA]; simp only [std]
  rw [show 256 * (x : Int) = ((x * 256 : Nat) : Int) from by simp; omega]; exact wrap_i64 (by omega) (by omega)
 have e2 := addI hA (a := 10) (m := 10) rfl e1 (by omega)
 have e3 := addI hA e2 (wSmall hA hm hy) (by omega)
 rw [e3]; omega
theorem up32 {n : Int} {m : Nat} (hn : n = m) (hm : m < 4294967295) : A.wrap .u32 (A.add n 1) = ((m + 1 : Nat) : Int) := by
 have : A.add n 1 = ((m + 1 : Nat) : Int) := by rw [hA, hn]; rfl
 exact wU hA this (by omega)
end
theorem cScan12 (b : List UInt8) (l : List V) (hl : l = bytesV b) (hb : b.length ≤ 4000000000) : CallR Tryz.prog 56 [.slice l] fun rs => ∃ (r : List V) (e : Int), rs = [.v (.slice r), .v (.int .i64 e)] ∧ r = recsV (scanM 0 b).1 ∧ e = ((scanM 0 b).2 : Nat) := by
 obtain ⟨r, hr⟩ : ∃ r, r = recsV (scanM 0 b).1 := ⟨_, rfl⟩
 obtain ⟨e, he⟩ : ∃ e : Int, e = ((scanM 0 b).2 : Nat) := ⟨_, rfl⟩
 refine .of [.v (.slice r), .v (.int .i64 e)] ⟨r, e, rfl, hr, he⟩ ?_
 refine FnR.of' T_ok M_ok (fn := Tryz.f56) (by kernel_rfl) rfl rfl rfl rfl (Nat.le_of_ble_eq_true rfl) fun A hA => ?_
 cbv
 refine loopF hA (ι := Int × Int × List V) (fun p => { n := 79, sl := [(0, .v (.slice l)), (4, .own 75), (5, .v (.int .i64 p.1)), (6, .v (.int .u32 p.2.1))], ob := [(75, .row 8 p.2.2 true)] })
  (fun p => ∃ (n : Nat) (gs : List RecM), p.1 = n ∧ p.2.1 = (gs.length : Nat) ∧ p.2.2 = recsV gs ∧ From b n gs) (fun p => b.length - p.1.toNat) (_, _, _) ((weak_nils _ 4 75 8 true rfl).trans (weakI rfl ⟨rfl, rfl, rfl, rfl, trivial⟩ ⟨rfl, trivial⟩)) ⟨0, [], rfl, rfl, rfl, From.zero b⟩ ?_
 rintro ⟨i, sq, x⟩ ⟨n, gs, hi, hsq, hx, hF⟩
 dsimp only at hi hx hsq
 obtain ⟨hnb, hgn, _⟩ := id hF
 have stop : stepM gs.length (b.drop n) = none → x = r ∧ i = e := fun k => by
  have q := hF.stop k
  rw [hr, he, q, hx, hi]; exact ⟨rfl, rfl⟩
 have hlen : (b.drop n).length = b.length - n := List.length_drop
 cbv
 refine sizedI hA (bytesV_flat hl) ?_
 cbv
 refine subLN hA (sub_of (natEq hi) (lenI hA hl) hl (by omega) (Nat.le_refl _)) ?_
 rintro u hu
 have hu := cutFrom (natEq hi) hl (lenI hA hl) hu
 cbv
 refine condI hA (fun hc => ?_) (fun hc => ?_)
 ·have h10 := bLtT hA (m := 10) hu rfl hc
  have q := stop (by unfold stepM; rw [if_pos h10])
  cbv
  refine retI hA ?_
  exact ⟨congrArg (fun q => some (V.slice q)) q.1, congrArg (fun q => some (V.int .i64 q)) q.2, trivial⟩
 ·have h10 := bLtF hA (m := 10) hu rfl hc
  obtain ⟨c, hcd⟩ : ∃ c, c = b.drop n := ⟨_, rfl⟩
  rw [← hcd] at stop hlen hu h10
  have t2 : twoM c = (c[0]'(by omega)).toNat * 256 + (c[1]'(by omega)).toNat := by
   match c, h10 with
   | x :: y :: r, _ => rfl
   | [_], h => simp at h
   | [], h => simp at h
  obtain ⟨t, ht⟩ : ∃ t, t = twoM c := ⟨_, rfl⟩
  have c8 := (c[0]'(by omega)).toNat_lt
  have d8 := (c[1]'(by omega)).toNat_lt
  cbv
  refine chkI hA (by kernel_rfl) ?_
  cbv
  refine getBN hA hu (j := 0) rfl (by omega) ?_
  rintro v0 hv0
  cbv
  refine getBN hA hu (j := 1) rfl (by omega) ?_
  rintro v1 hv1
  cbv
  have hto := to12 hA hv0 hv1 c8 d8
  rw [← t2, ← ht] at hto
  refine condI hA (fun h1 => ?_) (fun h1 => ?_)
  ·have h1 := bLtT hA hu hto h1
   have q := stop (by unfold stepM; rw [if_neg h10, if_pos (by omega)])
   cbv
   refine retI hA ?_
   exact ⟨congrArg (fun q => some (V.slice q)) q.1, congrArg (fun q => some (V.int .i64 q)) q.2, trivial⟩
  ·have h1 := bLtF hA hu hto h1
   cbv
   refine sizedI hA (bytesV_flat hu) ?_
   cbv
   refine subLN hA (sub_of (a := 10) rfl hto hu (by omega) (by omega)) ?_
   rintro bd hbd
   have hbd := cutMid (k := 10) rfl hto hu hbd
   cbv
   have hbl : ((c.take (10 + t)).drop 10).length ≤ b.length := by simp; omega
   refine callI hA (cFrame12 _ _ _ _ (natEq hsq) (by omega) hbd) ?_
   intro rs_ h_
   obtain ⟨fr, e1, q_1, hfr, he1⟩ := h_
   subst q_1
   cbv
   refine sizedI hA (bytesV_flat hu) ?_
   cbv
   refine subLN hA (sub_of (a := 10) rfl hto hu (by omega) (by omega)) ?_
   rintro bd2 hbd2
   have hbd2 := cutMid (k := 10) rfl hto hu hbd2
   cbv
   refine callI hA (cGet12 _ bd2 hbd2 (by omega)) ?_
   intro rs_ h_
   obtain ⟨g, lp, e2, q_1, hg, hlp, he2⟩ := h_
   subst q_1
   cbv
   have hstep : stepM gs.length c = if frameE ((c.take (10 + t)).drop 10) = 0 ∧ frameB gs.length ((c.take (10 + t)).drop 10) = c.take (10 + t) ∧ getE ((c.take (10 + t)).drop 10) = 0 then some (getR ((c.take (10 + t)).drop 10), 10 + t) else none := by
    unfold stepM; rw [if_neg h10, if_neg (by omega), ht]
   refine chkI hA (by kernel_rfl) ?_
   cbv
   refine condI hA (fun h2 => ?_) (fun h2 => ?_)
   ·have h2 := ine_err hA h2
    have q := stop (by rw [hstep, if_neg fun h => h2 (he1.trans h.1)])
    cbv
    refine retI hA ?_
    exact ⟨congrArg (fun q => some (V.slice q)) q.1, congrArg (fun q => some (V.int .i64 q)) q.2, trivial⟩
   ·have h2 := ine_ok hA h2
    cbv
    refine condI hA (fun h4 => ?_) (fun h4 => ?_)
    ·have h4 := ine_err hA h4
     have q := stop (by rw [hstep, if_neg fun h => h4 (he2.trans h.2.2)])
     cbv
     refine retI hA ?_
     exact ⟨congrArg (fun q => some (V.slice q)) q.1, congrArg (fun q => some (V.int .i64 q)) q.2, trivial⟩
    ·have h4 := ine_ok hA h4
     cbv
     refine b2sN hA hfr ?_
     rintro s1 hs1
     cbv
     refine sizedI hA (bytesV_flat hu) ?_
     cbv
     refine subLN hA (sub_of (a := 0) rfl hto hu (by omega) (by omega)) ?_
     rintro w hw
     have hw := cutTo hto hu hw
     cbv
     refine b2sN hA hw ?_
     rintro s2 hs2
     cbv
     refine condI hA (fun h3 => ?_) (fun h3 => ?_)
     ·have h3 := sneT hA hs1 hs2 h3
      have q := stop (by rw [hstep, if_neg fun h => h3 h.2.1])
      cbv
      refine retI hA ?_
      exact ⟨congrArg (fun q => some (V.slice q)) q.1, congrArg (fun q => some (V.int .i64 q)) q.2, trivial⟩
     ·have h3 := sneF hA hs1 hs2 h3
      have k := hF.next (r := (getR ((c.take (10 + t)).drop 10), 10 + t)) (by rw [← hcd, hstep, if_pos ⟨he1.symm.trans h2, h3, he2.symm.trans h4⟩])
      dsimp only at k
      have hg1 : [V.agg [.int .u8 g.k, .slice lp, .int .i64 g.sz, .int .u32 g.sm, .int .i64 g.mi, .int .i64 g.mo, .int .u32 g.si, .int .u32 g.so]] = recsV [getR ((c.take (10 + t)).drop 10)] := by
       rw [hlp, hg]; rfl
      cbv
      refine roomI hA (by rw [hx, recsV_len]; simp; omega) ?_
      cbv
      have hup := addI hA (natEq hi) hto (by omega)
      exact ⟨(_, _, _), weakI rfl ⟨rfl, rfl, rfl, rfl, trivial⟩ ⟨rfl, trivial⟩, ⟨_, _, hup, (up32 hA (natEq hsq) (by omega)).trans (by simp), app_rs hA hx hg1, k⟩, by
       change b.length - (A.wrap .i64 _).toNat < b.length - i.toNat
       rw [hup, natEq hi]; simp; omega⟩
open Go Go.RowKit
theorem u8_back {n : Nat} (h : n < 256) : (UInt8.ofNat n).toNat = n := by
 rw [UInt8.toNat_ofNat']; omega
theorem packL_cons (f : List UInt8) (fs : List (List UInt8)) : packL (f :: fs) = UInt8.ofNat (f.length / 256 % 256) :: UInt8.ofNat (f.length % 256) :: (f ++ packL fs) := by
 simp [packL]
theorem unpack_pack : ∀ (fs : List (List UInt8)), (∀ f ∈ fs, bigM f = false) → unpackM (packL fs) = some fs
 | [], _ => by rw [show packL [] = [] from rfl, unpackM]
 | f :: fs, h => by
  have hf := h f (by simp)
  unfold bigM at hf
  have hf := of_decide_eq_false hf
  have hlen : f.length ≤ 1024 := by omega
  rw [packL_cons, unpackM_cons, u8_back (by omega), u8_back (by omega)]
  have e : f.length / 256 % 256 * 256 + f.length % 256 = f.length := by omega
  rw [e, if_neg (by simp; omega), List.drop_left, List.take_left, unpack_pack fs fun g hg => h g (List.mem_cons_of_mem _ hg)]
theorem unpack_pack_L {fs : List (List UInt8)} (h : ∀ f ∈ fs, bigM f = false) : unpackL (packL fs) = fs ∧ unpackE (packL fs) = 0 := by
 simp [unpackL, unpackE, unpack_pack fs h]
theorem beN_snoc (b : List UInt8) (c : UInt8) : beN (b ++ [c]) = beN b * 256 + c.toNat := by unfold beN; rw [List.foldl_append]; rfl
theorem beN_numB : ∀ n : Nat, beN (numB n) = n := by
 intro n
 induction n using Nat.strongRecOn with
 | _ n ih =>
  rcases Nat.eq_zero_or_pos n with h | h
  ·subst h; rw [numB_zero]; rfl
  ·rw [numB_pos h, beN_snoc, ih (n / 256) (by omega), u8_back (by omega)]; omega
theorem head_numB : ∀ n : Nat, (numB n).head? ≠ some 0 := by
 intro n
 induction n using Nat.strongRecOn with
 | _ n ih =>
  rcases Nat.eq_zero_or_pos n with h | h
  ·subst h; rw [numB_zero]; simp
  ·rw [numB_pos h]
   rcases Nat.eq_zero_or_pos (n / 256) with h2 | h2
   ·rw [h2, numB_zero]
    intro e
    simp only [List.nil_append, List.head?_cons, Option.some.injEq] at e
    have := congrArg UInt8.toNat e
    rw [u8_back (by omega)] at this
    simp at this; omega
   ·have := ih (n / 256) (by omega)
    have hne : numB (n / 256) ≠ [] := by rw [numB_pos h2]; simp
    cases hq : numB (n / 256) with
    | nil => exact absurd hq hne
    | cons c r => rw [hq] at this; simpa using this
theorem number_numB {n : Nat} (h : n < 18446744073709551616) : numberN (numB n) = n ∧ numberE (numB n) = 0 := by
 have q := number_good (b := numB n) fun h' => by
  rcases h' with h' | h'
  ·have := numB_len h; omega
  ·exact head_numB n h'
 rw [beN_numB] at q
 exact q
theorem putB_small {a : RecM} (hr : RecOk a) : (putB a).length ≤ 1024 := by
 unfold putB
 split
 ·rename_i h
  obtain ⟨h1, h2, h3, h4, h5⟩ := check_rng h
  have hp := path_small h5
  have hn := nums_lt hr h1 h2 h3
  have l : ∀ n ∈ numsOf a, (numB n).length ≤ 8 := fun n hn' => numB_len (hn n hn')
  have k := numB_len (n := a.k.toNat) (by have := hr.k1; omega)
  have n1 := l a.sz.toNat (by simp [numsOf])
  have n2 := l a.sm.toNat (by simp [numsOf])
  have n3 := l a.mi.toNat (by simp [numsOf])
  have n4 := l a.mo.toNat (by simp [numsOf])
  have n5 := l a.si.toNat (by simp [numsOf])
  have n6 := l a.so.toNat (by simp [numsOf])
  simp only [fieldsM, numsOf, List.map_cons, List.map_nil, packL_cons, List.length_cons, List.length_append, show packL [] = [] from rfl, List.length_nil]
  omega
 ·simp
theorem get_of_put {a : RecM} (hr : RecOk a) (h : checkM a = true) : getR (putB a) = a ∧ getE (putB a) = 0 := by
 obtain ⟨h1, h2, h3, h4, h5⟩ := check_rng h
 have hb : putB a = packL (fieldsM a) := by simp [putB, h]
 have hu := unpack_pack_L (fields_small hr h)
 rw [← hb] at hu
 have hn := nums_lt hr h1 h2 h3
 have hpath := unpack_pack_L (fs := a.path) fun q hq => big_of (Nat.le_trans (h5.2 q hq) (by decide))
 obtain ⟨k0, k1, sm0, sm1, si0, si1, so0, so1, pl, ps⟩ := id hr
 have e0 := number_numB (n := a.k.toNat) (by omega)
 have e2 := number_numB (hn a.sz.toNat (by simp [numsOf]))
 have e3 := number_numB (hn a.sm.toNat (by simp [numsOf]))
 have e4 := number_numB (hn a.mi.toNat (by simp [numsOf]))
 have e5 := number_numB (hn a.mo.toNat (by simp [numsOf]))
 have e6 := number_numB (hn a.si.toNat (by simp [numsOf]))
 have e7 := number_numB (hn a.so.toNat (by simp [numsOf]))
 have hrec : recOf (fieldsM a) = a := by
  obtain ⟨k, p, sz, sm, mi, mo, si, so⟩ := a
  dsimp only at *
  simp only [recOf, fieldsM, numsOf, List.map_cons, List.map_nil, numF, List.getD_cons_zero, List.getD_cons_succ, e0, e2, e3, e4, e5, e6, e7, hpath.1, RecM.mk.injEq, true_and]
  exact ⟨by omega, by omega, by omega, by omega, by omega, by omega, by omega⟩
 have hok : okNums (fieldsM a) := fun m hm h1 => by
  match m, hm, h1 with
  | 0, _, _ => exact okNum_of e0.2 (by rw [show (fieldsM a).getD 0 [] = numB a.k.toNat from rfl, e0.1]; omega)
  | 1, _, h1 => exact absurd rfl h1
  | 2, _, _ => exact okNum_of e2.2 (by rw [show (fieldsM a).getD 2 [] = numB a.sz.toNat from rfl, e2.1]; omega)
  | 3, _, _ => exact okNum_of e3.2 (by rw [show (fieldsM a).getD 3 [] = numB a.sm.toNat from rfl, e3.1]; omega)
  | 4, _, _ => exact okNum_of e4.2 (by rw [show (fieldsM a).getD 4 [] = numB a.mi.toNat from rfl, e4.1]; omega)
  | 5, _, _ => exact okNum_of e5.2 (by rw [show (fieldsM a).getD 5 [] = numB a.mo.toNat from rfl, e5.1]; omega)
  | 6, _, _ => exact okNum_of e6.2 (by rw [show (fieldsM a).getD 6 [] = numB a.si.toNat from rfl, e6.1]; omega)
  | 7, _, _ => exact okNum_of e7.2 (by rw [show (fieldsM a).getD 7 [] = numB a.so.toNat from rfl, e7.1]; omega)
 have good : getOk (putB a) := by
  unfold getOk
  rw [hu.1, hu.2, hrec]
  exact ⟨rfl, rfl, hok, hpath.2, by simp [putE, h], rfl⟩
 have q := get_good good
 rw [hu.1, hrec] at q
 exact q
theorem frameL_len (s : Nat) (b : List UInt8) : (frameL s b).length = 10 + b.length := by
 simp [frameL, lenTwo, fourB_len]; omega
theorem frameL_drop (s : Nat) (b : List UInt8) : (frameL s b).drop 10 = b := rfl
theorem twoM_frame (s : Nat) (b : List UInt8) (hb : b.length ≤ 1024) (t : List UInt8) : twoM (frameL s b ++ t) = b.length := by
 change (UInt8.ofNat (b.length / 256 % 256)).toNat * 256 + (UInt8.ofNat (b.length % 256)).toNat = _
 rw [u8_back (by omega), u8_back (by omega)]; omega
theorem step_frame {a : RecM} (hr : RecOk a) (h : checkM a = true) (s : Nat) (t : List UInt8) : stepM s (frameL s (putB a) ++ t) = some (a, (frameL s (putB a)).length) := by
 have hb := putB_small hr
 have ht := twoM_frame s (putB a) hb t
 have hl := frameL_len s (putB a)
 unfold stepM
 rw [ht, ← hl, if_neg (by simp; omega), if_neg (by simp), List.take_left, frameL_drop]
 have q := get_of_put hr h
 rw [if_pos ⟨by simp [frameE]; omega, by simp [frameB]; omega, q.2⟩, q.1]
theorem scan_frame {a : RecM} (hr : RecOk a) (h : checkM a = true) (s : Nat) (t : List UInt8) : scanM s (frameL s (putB a) ++ t) = (a :: (scanM (s + 1) t).1, (frameL s (putB a)).length + (scanM (s + 1) t).2) := by
 rw [scanM_some (step_frame hr h s t)]; simp
theorem scan_nil (s : Nat) : scanM s [] = ([], 0) := scanM_none (by simp [stepM])
open Go Go.RowKit
def R3 : RecM := ⟨3, [], 0, 0, 0, 0, 0, 0⟩
theorem R3_ok : RecOk R3 := ⟨by decide, by decide, by decide, by decide, by decide, by decide, by decide, by decide, by decide, by simp [R3]⟩
theorem R3_check : checkM R3 = true := by decide
theorem R3_put : putB R3 = [0, 1, 3] ++ List.replicate 14 0 := by
 have h3 : numB 3 = [3] := by rw [numB_pos (by decide), show 3 / 256 = 0 from rfl, numB_zero]; rfl
 simp only [putB, R3_check, if_true, fieldsM, numsOf]
 simp [R3, h3, numB_zero, packL]
open Go Go.RowKit
theorem getR_path (b : List UInt8) : (getR b).path.length ≤ b.length := by
 unfold getR
 split
 ·have p1 := unpackL_len ((unpackL b).getD 1 [])
  have p2 := getD_small b 1
  simp only [recOf]; omega
 ·simp [zeroR]
open Go Go.RowKit
theorem tv_mark {k : Nat} {x : V} (h : TyV (k + 2) 42 x) : ∃ mi mo si so : Int, x = .agg [.int .i64 mi, .int .i64 mo, .int .u32 si, .int .u32 so] ∧ 0 ≤ si ∧ si ≤ 4294967295 ∧ 0 ≤ so ∧ so ≤ 4294967295 := by
 obtain ⟨ys, rfl, h1, h2⟩ := tv_struct (k := k + 1) rfl h
 match ys, h1, h2 with
 | [a, b, c, d], _, h2 =>
  obtain ⟨mi, rfl, _⟩ := tv_int (k := k) (kd := .i64) rfl (h2 0 (by simp) (by decide))
  obtain ⟨mo, rfl, _⟩ := tv_int (k := k) (kd := .i64) rfl (h2 1 (by simp) (by decide))
  obtain ⟨si, rfl, s0, s1⟩ := tv_int (k := k) (kd := .u32) rfl (h2 2 (by simp) (by decide))
  obtain ⟨so, rfl, o0, o1⟩ := tv_int (k := k) (kd := .u32) rfl (h2 3 (by simp) (by decide))
  exact ⟨mi, mo, si, so, rfl, s0, s1, o0, o1⟩
theorem tv_rec {k : Nat} {x : V} (h : TyV (k + 3) 44 x) : ∃ a : RecM, x = recV a ∧ RecOk a := by
 obtain ⟨ys, rfl, h1, h2⟩ := tv_struct (k := k + 2) rfl h
 match ys, h1, h2 with
 | [a, b, c, d, e], _, h2 =>
  obtain ⟨kd, rfl, k0, k1⟩ := tv_int (k := k + 1) (kd := .u8) rfl (h2 0 (by simp) (by decide))
  obtain ⟨p, rfl, p1, p2⟩ := tv_strs (k := k) rfl rfl rfl (h2 1 (by simp) (by decide))
  obtain ⟨sz, rfl, _⟩ := tv_int (k := k + 1) (kd := .i64) rfl (h2 2 (by simp) (by decide))
  obtain ⟨sm, rfl, m0, m1⟩ := tv_int (k := k + 1) (kd := .u32) rfl (h2 3 (by simp) (by decide))
  obtain ⟨mi, mo, si, so, rfl, s0, s1, o0, o1⟩ := tv_mark (k := k) (h2 4 (by simp) (by decide))
  refine ⟨⟨kd, p, sz, sm, mi, mo, si, so⟩, rfl, ⟨k0, k1, m0, m1, s0, s1, o0, o1, by dsimp only; omega, p2⟩⟩
open Go Go.RowKit
theorem scan_paths (n : Nat) : ∀ (b : List UInt8) (s : Nat), b.length ≤ n → ∀ g ∈ (scanM s b).1, g.path.length ≤ b.length := by
 induction n with
 | zero =>
  intro b s hb g hg
  rw [scanM_none (by unfold stepM; rw [if_pos (by omega)])] at hg
  simp at hg
 | succ n ih =>
  intro b s hb g hg
  cases h : stepM s b with
  | none => rw [scanM_none h] at hg; simp at hg
  | some r =>
   have q := stepM_some h
   rw [scanM_some h] at hg
   rcases List.mem_cons.1 hg with rfl | hg
   ·unfold stepM at h
    split at h
    ·cases h
    ·split at h
     ·cases h
     ·split at h
      ·cases h
       have := getR_path ((b.take (10 + twoM b)).drop 10)
       simp at this ⊢; omega
      ·cases h
   ·have := ih (b.drop r.2) (s + 1) (by simp; omega) g hg
    simp at this; omega
section
variable {A : Prim} {P : Program} {R : List (Nat × AObj) → List D → Prop} (hA : A = std P R)
include hA
theorem getRN {gs : List RecM} {l : List V} {i : Int} {j : Nat} {K : List V → Prop} (hl : l = recsV gs) (hi : i = j) (hj : j < gs.length) (hK : ∀ (g : RecM) (lp : List V), g = gs[j]'hj → lp = strsV g.path → K [.int .u8 g.k, .slice lp, .int .i64 g.sz, .int .u32 g.sm, .int .i64 g.mi, .int .i64 g.mo, .int .u32 g.si, .int .u32 g.so]) : A.getA 8 l i K := by
 refine getAI hA _ ⟨by omega, ?_, ?_⟩ (hK _ _ rfl rfl)
 ·rw [hl, hi, Int.toNat_natCast]; simp [recsV, recV, hj]
 ·rfl
theorem notI {c : Bool} (h : c = true) : A.not c = false := by subst hA h; rfl
end
open Go Go.RowKit
def framesB : Nat → List RecM → List UInt8
 | _, [] => []
 | s, a :: r => frameL s (putB a) ++ framesB (s + 1) r
def Good (a : RecM) : Prop := RecOk a ∧ checkM a = true
theorem framesB_snoc : ∀ (gs : List RecM) (s : Nat) (a : RecM), framesB s (gs ++ [a]) = framesB s gs ++ frameL (s + gs.length) (putB a)
 | [], s, a => by simp [framesB]
 | g :: r, s, a => by
  simp only [List.cons_append, framesB, framesB_snoc r (s + 1) a, List.append_assoc, List.length_cons]
  rw [show s + 1 + r.length = s + (r.length + 1) from by omega]
theorem scan_frames : ∀ (gs : List RecM) (s : Nat) (t : List UInt8), (∀ a ∈ gs, Good a) → scanM s (framesB s gs ++ t) = (gs ++ (scanM (s + gs.length) t).1, (framesB s gs).length + (scanM (s + gs.length) t).2)
 | [], s, t, _ => by simp [framesB]
 | g :: r, s, t, h => by
  have hg := h g (by simp)
  simp only [framesB, List.append_assoc]
  rw [scan_frame hg.1 hg.2, scan_frames r (s + 1) t fun a ha => h a (List.mem_cons_of_mem _ ha)]
  simp only [List.cons_append, List.length_append, List.length_cons, Prod.mk.injEq]
  rw [show s + 1 + r.length = s + (r.length + 1) from by omega]
  exact ⟨rfl, by omega⟩
def kept (gs : List RecM) : List RecM := gs.filter checkM
end Go.Proofs.YthioccbgjkbmdaaGreat.AM
