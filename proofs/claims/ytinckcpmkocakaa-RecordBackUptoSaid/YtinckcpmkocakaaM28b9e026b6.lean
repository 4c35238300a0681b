/-
  Contracts: a frame.
-/
import Derived.Test.YtinckcpmkocakaaM27058d695a
set_option linter.unusedVariables false
set_option linter.unusedSimpArgs false
namespace Go.Proofs.Ytinckcpmkocakaa.AM
open Go Go.RowKit
set_option maxRecDepth 100000
set_option maxHeartbeats 4000000

def lenTwo (n : Nat) : List UInt8 := [UInt8.ofNat (n / 256 % 256), UInt8.ofNat (n % 256)]
def crcM (s : Nat) (b : List UInt8) : Nat := sumN 0 (fourB s ++ b)
def frameL (s : Nat) (b : List UInt8) : List UInt8 := lenTwo b.length ++ (fourB s ++ (fourB (crcM s b) ++ b))
def frameB (s : Nat) (b : List UInt8) : List UInt8 := if 1024 < b.length then [] else frameL s b
def frameE (b : List UInt8) : Int := if 1024 < b.length then 5 else 0
theorem fourB_len (n : Nat) : (fourB n).length = 4 := rfl
theorem shr_i64_8 (a : Nat) : Int.fdiv (a : Int) (2 ^ (min (Int.toNat 8) IntKind.i64.bits)) = ((a / 256 : Nat) : Int) := by
  have : (2 : Int) ^ (min (Int.toNat 8) IntKind.i64.bits) = ((256 : Nat) : Int) := by decide
  rw [this, Int.fdiv_eq_ediv_of_nonneg _ (by omega)]
  rfl
theorem two_shr {A : Prim} {P : Program} {R : List (Nat × AObj) → List D → Prop} (hA : A = std P R) {a : Int} {n : Nat} (ha : a = n) : [V.int .u8 (A.wrap .u8 (A.shr .i64 a 8)), .int .u8 (A.wrap .u8 a)] = bytesV (lenTwo n) := by
  rw [hA, ha]; simp only [std]
  rw [shr_i64_8, wrap_u8, wrap_u8, byteV (n := n / 256) rfl, byteV (n := n) rfl]; rfl
theorem two_div {A : Prim} {P : Program} {R : List (Nat × AObj) → List D → Prop} (hA : A = std P R) {a : Int} {n : Nat} (ha : a = n) (hn : n ≤ 1000000) : [V.int .u8 (A.wrap .u8 (A.wrap .i64 (A.tdiv a 256))), .int .u8 (A.wrap .u8 (A.tmod a 256))] = bytesV (lenTwo n) := by
  rw [hA, ha]; simp only [std]
  rw [show (256 : Int) = ((256 : Nat) : Int) from rfl, tdiv_nat, tmod_nat, wrap_i64 (by omega) (by omega), wrap_u8, wrap_u8, Nat.mod_mod, byteV (n := n / 256) rfl, byteV (n := n) rfl]; rfl
theorem crc_eq (s : Nat) (b : List UInt8) : addN (addN 4294967295 (fourB s)) b ^^^ 4294967295 = crcM s b := by
  rw [← addN_append]; rfl
theorem frame_flat (s : Nat) (b : List UInt8) : [lenTwo b.length, fourB s, fourB (crcM s b), b].flatten = frameL s b := by
  simp [frameL]
theorem cFrame (v : Int) (s : Nat) (b : List UInt8) (l : List V) (hv : v = s) (hs : s < 4294967296) (hl : l = bytesV b) : CallR Try.prog 33 [.int .u32 v, .slice l] fun rs => ∃ (r : List V) (e : Int), rs = [.v (.slice r), .v (.int .i64 e)] ∧ r = bytesV (frameB s b) ∧ e = frameE b := by
  obtain ⟨r, hr⟩ : ∃ r, r = bytesV (frameB s b) := ⟨_, rfl⟩
  obtain ⟨e, he⟩ : ∃ e, e = frameE b := ⟨_, rfl⟩
  refine .of [.v (.slice r), .v (.int .i64 e)] ⟨r, e, rfl, hr, he⟩ ?_
  refine FnR.of' T_ok M_ok (fn := Try.f33) (by kernel_rfl) rfl rfl rfl rfl (Nat.le_of_ble_eq_true rfl) fun A hA => ?_
  cbv
  refine condI hA (fun h1 => ?_) (fun h1 => ?_)
  · have h1 := bGtT hA (m := 1024) hl rfl h1
    cbv
    refine retI hA ?_
    refine ⟨congrArg (fun q => some (V.slice q)) ?_, congrArg (fun q => some (V.int .i64 q)) ?_, trivial⟩
    · rw [hr]; unfold frameB; rw [if_pos h1]; rfl
    · rw [he]; unfold frameE; rw [if_pos h1]
  · have h1 := bGtF hA (m := 1024) hl rfl h1
    cbv
    refine callI hA (c21) ?_
    intro rs_ h_
    obtain ⟨s0, q_1, hs0⟩ := h_
    subst q_1
    cbv
    refine callI hA (cFour v s hv) ?_
    intro rs_ h_
    obtain ⟨f1, q_1, hf1⟩ := h_
    subst q_1
    cbv
    refine callI hA (c22 s0 _ _ _ hs0 (by decide) hf1 (by simp [fourB_len])) ?_
    intro rs_ h_
    obtain ⟨s1, q_1, hs1⟩ := h_
    subst q_1
    cbv
    refine callI hA (c22 s1 _ _ _ hs1 (addN_lt (by decide) _) hl (by omega)) ?_
    intro rs_ h_
    obtain ⟨s2, q_1, hs2⟩ := h_
    subst q_1
    cbv
    refine callI hA (c20 s2 _ hs2 (addN_lt (addN_lt (by decide) _) _)) ?_
    intro rs_ h_
    obtain ⟨s3, q_1, hs3⟩ := h_
    subst q_1
    cbv
    rw [crc_eq] at hs3
    refine nnegI hA (by decide) ?_
    cbv
    have k1 := two_shr hA (lenI hA hl)
    refine callI hA (cFour v s hv) ?_
    intro rs_ h_
    obtain ⟨f2, q_1, hf2⟩ := h_
    subst q_1
    cbv
    refine callI hA (cFour s3 _ hs3) ?_
    intro rs_ h_
    obtain ⟨f3, q_1, hf3⟩ := h_
    subst q_1
    cbv
    have hx : [V.slice [V.int .u8 (A.wrap .u8 (A.shr .i64 (A.lenL l) 8)), .int .u8 (A.wrap .u8 (A.lenL l))], .slice f2, .slice f3, .slice l] = listsV [lenTwo b.length, fourB s, fourB (crcM s b), b] := by
      rw [k1, hf2, hf3, hl]; rfl
    refine callI hA (cConcat _ _ hx (by simp) (by simp [lenTwo, fourB_len]; omega)) ?_
    intro rs_ h_
    obtain ⟨r2, q_1, hr2⟩ := h_
    subst q_1
    cbv
    rw [frame_flat] at hr2
    refine retI hA ?_
    refine ⟨congrArg (fun q => some (V.slice q)) ?_, congrArg (fun q => some (V.int .i64 q)) ?_, trivial⟩
    · rw [hr, hr2]; unfold frameB; rw [if_neg h1]
    · rw [he]; unfold frameE; rw [if_neg h1]
theorem cFrame12 (v : Int) (s : Nat) (b : List UInt8) (l : List V) (hv : v = s) (hs : s < 4294967296) (hl : l = bytesV b) : CallR Try.prog 34 [.int .u32 v, .slice l] fun rs => ∃ (r : List V) (e : Int), rs = [.v (.slice r), .v (.int .i64 e)] ∧ r = bytesV (frameB s b) ∧ e = frameE b := by
  obtain ⟨r, hr⟩ : ∃ r, r = bytesV (frameB s b) := ⟨_, rfl⟩
  obtain ⟨e, he⟩ : ∃ e, e = frameE b := ⟨_, rfl⟩
  refine .of [.v (.slice r), .v (.int .i64 e)] ⟨r, e, rfl, hr, he⟩ ?_
  refine FnR.of' T_ok M_ok (fn := Try.f34) (by kernel_rfl) rfl rfl rfl rfl (Nat.le_of_ble_eq_true rfl) fun A hA => ?_
  cbv
  refine condI hA (fun h1 => ?_) (fun h1 => ?_)
  · have h1 := bGtT hA (m := 1024) hl rfl h1
    cbv
    refine retI hA ?_
    refine ⟨congrArg (fun q => some (V.slice q)) ?_, congrArg (fun q => some (V.int .i64 q)) ?_, trivial⟩
    · rw [hr]; unfold frameB; rw [if_pos h1]; rfl
    · rw [he]; unfold frameE; rw [if_pos h1]
  · have h1 := bGtF hA (m := 1024) hl rfl h1
    cbv
    refine callI hA (cFour12 v s hv) ?_
    intro rs_ h_
    obtain ⟨f1, q_1, hf1⟩ := h_
    subst q_1
    cbv
    refine sizedI hA (bytesV_flat hl) ?_
    cbv
    refine roomI hA (room_of hf1 hl (by simp [fourB_len]; omega)) ?_
    cbv
    have k0 := app_of hA hf1 hl
    refine nzI hA (by decide) ?_
    cbv
    refine nzI hA (by decide) ?_
    cbv
    have k1 := two_div hA (lenI hA hl) (by omega)
    refine callI hA (cFour12 v s hv) ?_
    intro rs_ h_
    obtain ⟨f2, q_1, hf2⟩ := h_
    subst q_1
    cbv
    refine roomI hA (room_of k1 hf2 (by simp [fourB_len, lenTwo])) ?_
    cbv
    have k2 := app_of hA k1 hf2
    refine callI hA (c17 _ _ k0 (by simp [fourB_len]; omega)) ?_
    intro rs_ h_
    obtain ⟨s3, q_1, hs3⟩ := h_
    subst q_1
    cbv
    refine callI hA (cFour12 s3 _ hs3) ?_
    intro rs_ h_
    obtain ⟨f3, q_1, hf3⟩ := h_
    subst q_1
    cbv
    refine roomI hA (room_of k2 hf3 (by simp [fourB_len, lenTwo])) ?_
    cbv
    have k3 := app_of hA k2 hf3
    refine sizedI hA (bytesV_flat hl) ?_
    cbv
    refine roomI hA (room_of k3 hl (by simp [fourB_len, lenTwo]; omega)) ?_
    cbv
    have k4 := app_of hA k3 hl
    refine retI hA ?_
    refine ⟨congrArg (fun q => some (V.slice q)) ?_, congrArg (fun q => some (V.int .i64 q)) ?_, trivial⟩
    · refine k4.trans ?_
      rw [hr]; unfold frameB frameL crcM; rw [if_neg h1]; simp
    · rw [he]; unfold frameE; rw [if_neg h1]
end Go.Proofs.Ytinckcpmkocakaa.AM

/-
  Contracts: frames scanned.
-/
set_option linter.unusedVariables false
set_option linter.unusedSimpArgs false
namespace Go.Proofs.Ytinckcpmkocakaa.AM
open Go Go.RowKit
set_option maxRecDepth 100000
set_option maxHeartbeats 4000000

def recV (g : RecM) : V := .agg [.int .u8 g.k, .slice (strsV g.path), .int .i64 g.sz, .int .u32 g.sm, .int .i64 g.mi, .int .i64 g.mo, .int .u32 g.si, .int .u32 g.so]
def recsV (gs : List RecM) : List V := gs.map recV
theorem recsV_len (gs : List RecM) : (recsV gs).length = gs.length := by simp [recsV]
theorem lenRs {l : List V} {gs : List RecM} (h : l = recsV gs) : l.length = gs.length := by rw [h, recsV_len]
def twoM : List UInt8 → Nat
  | x :: y :: _ => x.toNat * 256 + y.toNat
  | _ => 0
/-- One frame: its record, and its length. -/
def stepM (s : Nat) (b : List UInt8) : Option (RecM × Nat) :=
  if b.length < 10 then none else if b.length < 10 + twoM b then none else
  if frameE ((b.take (10 + twoM b)).drop 10) = 0 ∧ frameB s ((b.take (10 + twoM b)).drop 10) = b.take (10 + twoM b) ∧ getE ((b.take (10 + twoM b)).drop 10) = 0 then some (getR ((b.take (10 + twoM b)).drop 10), 10 + twoM b) else none
theorem stepM_some {s : Nat} {b : List UInt8} {r : RecM × Nat} (h : stepM s b = some r) : 10 ≤ r.2 ∧ r.2 ≤ b.length := by
  unfold stepM at h
  split at h
  · cases h
  · split at h
    · cases h
    · split at h
      · cases h; exact ⟨by simp, by simp; omega⟩
      · cases h
def scanM (s : Nat) (b : List UInt8) : List RecM × Nat :=
  match h : stepM s b with
  | some r => (r.1 :: (scanM (s + 1) (b.drop r.2)).1, r.2 + (scanM (s + 1) (b.drop r.2)).2)
  | none => ([], 0)
termination_by b.length
decreasing_by all_goals (have := stepM_some h; simp only [List.length_drop]; omega)
theorem scanM_some {s : Nat} {b : List UInt8} {r : RecM × Nat} (h : stepM s b = some r) : scanM s b = (r.1 :: (scanM (s + 1) (b.drop r.2)).1, r.2 + (scanM (s + 1) (b.drop r.2)).2) := by
  rw [scanM]; split
  · rename_i r' h'; rw [h] at h'; cases h'; rfl
  · rename_i h'; rw [h] at h'; cases h'
theorem scanM_none {s : Nat} {b : List UInt8} (h : stepM s b = none) : scanM s b = ([], 0) := by
  rw [scanM]; split
  · rename_i r' h'; rw [h] at h'; cases h'
  · rfl
/-- What is read, from a place on. -/
def From (b : List UInt8) (n : Nat) (gs : List RecM) : Prop := n ≤ b.length ∧ gs.length * 10 ≤ n ∧ scanM 0 b = (gs ++ (scanM gs.length (b.drop n)).1, n + (scanM gs.length (b.drop n)).2)
theorem From.zero (b : List UInt8) : From b 0 [] := ⟨by simp, by simp, by simp⟩
theorem From.next {b : List UInt8} {n : Nat} {gs : List RecM} (h : From b n gs) {r : RecM × Nat} (k : stepM gs.length (b.drop n) = some r) : From b (n + r.2) (gs ++ [r.1]) := by
  obtain ⟨h1, h2, h3⟩ := h
  have q := stepM_some k
  rw [List.length_drop] at q
  refine ⟨by omega, by simp; omega, ?_⟩
  rw [h3, scanM_some k, List.drop_drop]
  simp only [List.length_append, List.length_singleton, List.append_assoc, List.singleton_append, Nat.add_assoc]
theorem From.stop {b : List UInt8} {n : Nat} {gs : List RecM} (h : From b n gs) (k : stepM gs.length (b.drop n) = none) : scanM 0 b = (gs, n) := by
  rw [h.2.2, scanM_none k]; simp
theorem twoM_at {b : List UInt8} {n : Nat} (h0 : n < b.length) (h1 : n + 1 < b.length) : twoM (b.drop n) = b[n].toNat * 256 + b[n + 1].toNat := by
  rw [List.drop_eq_getElem_cons h0, List.drop_eq_getElem_cons h1]; rfl
theorem cut_at (b : List UInt8) (n t k : Nat) : (b.take (n + t)).drop (n + k) = ((b.drop n).take t).drop k := by
  rw [← List.drop_drop, List.drop_take, Nat.add_sub_cancel_left]
theorem take_at (b : List UInt8) (n t : Nat) : (b.take (n + t)).drop n = (b.drop n).take t := by
  rw [List.drop_take, Nat.add_sub_cancel_left]
section
variable {A : Prim} {P : Program} {R : List (Nat × AObj) → List D → Prop} (hA : A = std P R)
include hA
theorem subI {a b : Int} {m n : Nat} (ha : a = m) (hb : b = n) (h : n ≤ m) (hm : m ≤ 4000000000000000000) : A.wrap .i64 (A.sub a b) = ((m - n : Nat) : Int) := by
  rw [hA, ha, hb]; simp only [std]
  rw [show (m : Int) - (n : Int) = ((m - n : Nat) : Int) from by omega]; exact wrap_i64 (by omega) (by omega)
theorem nLeT {k n : Int} {c m : Nat} (hk : k = c) (hn : n = m) (h : A.ile k n = true) : c ≤ m := by
  have := leT hA h; rw [hk, hn] at this; omega
theorem nLeF {k n : Int} {c m : Nat} (hk : k = c) (hn : n = m) (h : A.ile k n = false) : ¬ c ≤ m := by
  have := leF hA h; rw [hk, hn] at this; omega
theorem wSmall {n : Int} {m : Nat} (hn : n = m) (hm : m < 256) : A.wrap .i64 n = ((m : Nat) : Int) := wI hA hn (by omega)
theorem app_rs {x y : List V} {a b : List RecM} (hx : x = recsV a) (hy : y = recsV b) : A.app x y = recsV (a ++ b) := by
  rw [hA]; simp only [std]; rw [hx, hy]; simp [recsV]
theorem lenR {x : List V} {a : List RecM} (hx : x = recsV a) : A.lenL x = (a.length : Nat) := by rw [hA]; simp only [std]; rw [lenRs hx]
theorem wU' {n : Int} {m : Nat} (hn : n = m) (hm : m < 4294967296) : A.wrap .u32 n = ((m : Nat) : Int) := wU hA hn hm
end
theorem cScan (b : List UInt8) (l : List V) (hl : l = bytesV b) (hb : b.length ≤ 4000000000) : CallR Try.prog 35 [.slice l] fun rs => ∃ (r : List V) (e : Int), rs = [.v (.slice r), .v (.int .i64 e)] ∧ r = recsV (scanM 0 b).1 ∧ e = ((scanM 0 b).2 : Nat) := by
  obtain ⟨r, hr⟩ : ∃ r, r = recsV (scanM 0 b).1 := ⟨_, rfl⟩
  obtain ⟨e, he⟩ : ∃ e : Int, e = ((scanM 0 b).2 : Nat) := ⟨_, rfl⟩
  refine .of [.v (.slice r), .v (.int .i64 e)] ⟨r, e, rfl, hr, he⟩ ?_
  refine FnR.of' T_ok M_ok (fn := Try.f35) (by kernel_rfl) rfl rfl rfl rfl (Nat.le_of_ble_eq_true rfl) fun A hA => ?_
  cbv
  refine loopF hA (ι := Int × List V) (fun p => { n := 74, sl := [(0, .v (.slice l)), (4, .own 70), (5, .v (.int .i64 p.1))], ob := [(70, .row 8 p.2 true)] })
    (fun p => ∃ (n : Nat) (gs : List RecM), p.1 = n ∧ p.2 = recsV gs ∧ From b n gs) (fun p => b.length - p.1.toNat) (_, _) ((weak_nils _ 4 70 8 true rfl).trans (weakI rfl ⟨rfl, rfl, rfl, trivial⟩ ⟨rfl, trivial⟩)) ⟨0, [], rfl, rfl, From.zero b⟩ ?_
  rintro ⟨i, x⟩ ⟨n, gs, hi, hx, hF⟩
  dsimp only at hi hx
  obtain ⟨hnb, hgn, _⟩ := id hF
  have stop : stepM gs.length (b.drop n) = none → x = r ∧ i = e := fun k => by
    have q := hF.stop k
    rw [hr, he, q, hx, hi]; exact ⟨rfl, rfl⟩
  have hlen : (b.drop n).length = b.length - n := List.length_drop
  cbv
  refine condI hA (fun hc => ?_) (fun hc => ?_)
  · have h10 := nLeT hA (c := 10) rfl (subI hA (lenI hA hl) (natEq hi) hnb (by omega)) hc
    have t2 := twoM_at (b := b) (n := n) (by omega) (by omega)
    obtain ⟨t, ht⟩ : ∃ t, t = twoM (b.drop n) := ⟨_, rfl⟩
    have c8 := (b[n]'(by omega)).toNat_lt
    have d8 := (b[n + 1]'(by omega)).toNat_lt
    have hn1 := addI hA (natEq hi) (b := 1) (n := 1) rfl (by omega)
    have hn10 := addI hA (natEq hi) (b := 10) (n := 10) rfl (by omega)
    cbv
    refine chkI hA (by kernel_rfl) ?_
    cbv
    refine getBN hA hl (natEq hi) (by omega) ?_
    rintro v0 hv0
    cbv
    refine nnegI hA (by decide) ?_
    cbv
    refine getBN hA hl hn1 (by omega) ?_
    rintro v1 hv1
    cbv
    have hto := addI hA (addI hA hn10 (shl8 hA hv0 c8) (by omega)) (wSmall hA hv1 d8) (by omega)
    rw [show n + 10 + (b[n]'(by omega)).toNat * 256 + (b[n + 1]'(by omega)).toNat = n + (10 + t) from by omega] at hto
    refine condI hA (fun h1 => ?_) (fun h1 => ?_)
    · have h1 := bLtT hA hl hto h1
      have q := stop (by unfold stepM; rw [if_neg (by omega), if_pos (by omega)])
      cbv
      refine retI hA ?_
      exact ⟨congrArg (fun q => some (V.slice q)) q.1, congrArg (fun q => some (V.int .i64 q)) q.2, trivial⟩
    · have h1 := bLtF hA hl hto h1
      have ht2 : n + (10 + t) ≤ b.length := by omega
      cbv
      refine sizedI hA (bytesV_flat hl) ?_
      cbv
      refine subLN hA (sub_of hn10 hto hl (by omega) ht2) ?_
      rintro bd hbd
      have hbd := cutMid hn10 hto hl hbd
      rw [cut_at] at hbd
      cbv
      have hbl : (((b.drop n).take (10 + t)).drop 10).length ≤ b.length := by simp; omega
      have hseq := wU' hA (lenR hA hx) (by omega)
      refine callI hA (cFrame _ _ _ _ hseq (by omega) hbd) ?_
      intro rs_ h_
      obtain ⟨fr, e1, q_1, hfr, he1⟩ := h_
      subst q_1
      cbv
      have hstep : stepM gs.length (b.drop n) = if frameE (((b.drop n).take (10 + t)).drop 10) = 0 ∧ frameB gs.length (((b.drop n).take (10 + t)).drop 10) = (b.drop n).take (10 + t) ∧ getE (((b.drop n).take (10 + t)).drop 10) = 0 then some (getR (((b.drop n).take (10 + t)).drop 10), 10 + t) else none := by
        unfold stepM; rw [if_neg (by omega), if_neg (by omega), ht]
      refine condI hA (fun h2 => ?_) (fun h2 => ?_)
      · have h2 := ine_err hA h2
        have q := stop (by rw [hstep, if_neg fun h => h2 (he1.trans h.1)])
        cbv
        refine retI hA ?_
        exact ⟨congrArg (fun q => some (V.slice q)) q.1, congrArg (fun q => some (V.int .i64 q)) q.2, trivial⟩
      · have h2 := ine_ok hA h2
        cbv
        refine sizedI hA (bytesV_flat hl) ?_
        cbv
        refine subLN hA (sub_of (natEq hi) hto hl (by omega) ht2) ?_
        rintro w hw
        have hw := cutMid (natEq hi) hto hl hw
        rw [take_at] at hw
        cbv
        refine callI hA (cEqualB _ _ fr w hfr hw (by unfold frameB frameL; split <;> simp [lenTwo, fourB_len]; omega)) ?_
        intro rs_ h_
        obtain ⟨c1, q_1, hc1⟩ := h_
        subst q_1
        cbv
        refine condI hA (fun h3 => ?_) (fun h3 => ?_)
        · have h3 : ¬ frameB gs.length (((b.drop n).take (10 + t)).drop 10) = (b.drop n).take (10 + t) := fun h => by have := notT hA h3; rw [hc1, h] at this; simp at this
          have q := stop (by rw [hstep, if_neg fun h => h3 h.2.1])
          cbv
          refine retI hA ?_
          exact ⟨congrArg (fun q => some (V.slice q)) q.1, congrArg (fun q => some (V.int .i64 q)) q.2, trivial⟩
        · have h3 : frameB gs.length (((b.drop n).take (10 + t)).drop 10) = (b.drop n).take (10 + t) := by have := notF hA h3; rw [hc1] at this; simpa using this
          cbv
          refine callI hA (cGet _ bd hbd (by omega)) ?_
          intro rs_ h_
          obtain ⟨g, lp, e2, q_1, hg, hlp, he2⟩ := h_
          subst q_1
          cbv
          refine condI hA (fun h4 => ?_) (fun h4 => ?_)
          · have h4 := ine_err hA h4
            have q := stop (by rw [hstep, if_neg fun h => h4 (he2.trans h.2.2)])
            cbv
            refine retI hA ?_
            exact ⟨congrArg (fun q => some (V.slice q)) q.1, congrArg (fun q => some (V.int .i64 q)) q.2, trivial⟩
          · have h4 := ine_ok hA h4
            have k := hF.next (r := (getR (((b.drop n).take (10 + t)).drop 10), 10 + t)) (by rw [hstep, if_pos ⟨he1.symm.trans h2, h3, he2.symm.trans h4⟩])
            dsimp only at k
            have hg1 : [V.agg [.int .u8 g.k, .slice lp, .int .i64 g.sz, .int .u32 g.sm, .int .i64 g.mi, .int .i64 g.mo, .int .u32 g.si, .int .u32 g.so]] = recsV [getR (((b.drop n).take (10 + t)).drop 10)] := by
              rw [hlp, hg]; rfl
            cbv
            refine roomI hA (by rw [hx, recsV_len]; simp; omega) ?_
            cbv
            exact ⟨(_, _), weakI rfl ⟨rfl, rfl, rfl, trivial⟩ ⟨rfl, trivial⟩, ⟨_, _, hto, app_rs hA hx hg1, k⟩, by
              change b.length - (A.wrap .i64 _).toNat < b.length - i.toNat
              rw [hto, natEq hi]; simp; omega⟩
  · have h10 := nLeF hA (c := 10) rfl (subI hA (lenI hA hl) (natEq hi) hnb (by omega)) hc
    have q := stop (by unfold stepM; rw [if_pos (by omega)])
    cbv
    refine retI hA ?_
    exact ⟨congrArg (fun q => some (V.slice q)) q.1, congrArg (fun q => some (V.int .i64 q)) q.2, trivial⟩
end Go.Proofs.Ytinckcpmkocakaa.AM

/-
  Contracts: frames scanned by the reference.
-/
set_option linter.unusedVariables false
set_option linter.unusedSimpArgs false
namespace Go.Proofs.Ytinckcpmkocakaa.AM
open Go Go.RowKit
set_option maxRecDepth 100000
set_option maxHeartbeats 4000000

section
variable {A : Prim} {P : Program} {R : List (Nat × AObj) → List D → Prop} (hA : A = std P R)
include hA
theorem to12 {n m : Int} {x y : Nat} (hn : n = x) (hm : m = y) (hx : x < 256) (hy : y < 256) : A.wrap .i64 (A.add (A.wrap .i64 (A.add 10 (A.wrap .i64 (A.mul 256 (A.wrap .i64 n))))) (A.wrap .i64 m)) = ((10 + (x * 256 + y) : Nat) : Int) := by
  have e1 : A.wrap .i64 (A.mul 256 (A.wrap .i64 n)) = ((x * 256 : Nat) : Int) := by
    rw [wSmall hA hn hx, hA]; simp only [std]
    rw [show 256 * (x : Int) = ((x * 256 : Nat) : Int) from by simp; omega]; exact wrap_i64 (by omega) (by omega)
  have e2 := addI hA (a := 10) (m := 10) rfl e1 (by omega)
  have e3 := addI hA e2 (wSmall hA hm hy) (by omega)
  rw [e3]; omega
theorem up32 {n : Int} {m : Nat} (hn : n = m) (hm : m < 4294967295) : A.wrap .u32 (A.add n 1) = ((m + 1 : Nat) : Int) := by
  have : A.add n 1 = ((m + 1 : Nat) : Int) := by rw [hA, hn]; rfl
  exact wU hA this (by omega)
end
theorem cScan12 (b : List UInt8) (l : List V) (hl : l = bytesV b) (hb : b.length ≤ 4000000000) : CallR Try.prog 36 [.slice l] fun rs => ∃ (r : List V) (e : Int), rs = [.v (.slice r), .v (.int .i64 e)] ∧ r = recsV (scanM 0 b).1 ∧ e = ((scanM 0 b).2 : Nat) := by
  obtain ⟨r, hr⟩ : ∃ r, r = recsV (scanM 0 b).1 := ⟨_, rfl⟩
  obtain ⟨e, he⟩ : ∃ e : Int, e = ((scanM 0 b).2 : Nat) := ⟨_, rfl⟩
  refine .of [.v (.slice r), .v (.int .i64 e)] ⟨r, e, rfl, hr, he⟩ ?_
  refine FnR.of' T_ok M_ok (fn := Try.f36) (by kernel_rfl) rfl rfl rfl rfl (Nat.le_of_ble_eq_true rfl) fun A hA => ?_
  cbv
  refine loopF hA (ι := Int × Int × List V) (fun p => { n := 79, sl := [(0, .v (.slice l)), (4, .own 75), (5, .v (.int .i64 p.1)), (6, .v (.int .u32 p.2.1))], ob := [(75, .row 8 p.2.2 true)] })
    (fun p => ∃ (n : Nat) (gs : List RecM), p.1 = n ∧ p.2.1 = (gs.length : Nat) ∧ p.2.2 = recsV gs ∧ From b n gs) (fun p => b.length - p.1.toNat) (_, _, _) ((weak_nils _ 4 75 8 true rfl).trans (weakI rfl ⟨rfl, rfl, rfl, rfl, trivial⟩ ⟨rfl, trivial⟩)) ⟨0, [], rfl, rfl, rfl, From.zero b⟩ ?_
  rintro ⟨i, sq, x⟩ ⟨n, gs, hi, hsq, hx, hF⟩
  dsimp only at hi hx hsq
  obtain ⟨hnb, hgn, _⟩ := id hF
  have stop : stepM gs.length (b.drop n) = none → x = r ∧ i = e := fun k => by
    have q := hF.stop k
    rw [hr, he, q, hx, hi]; exact ⟨rfl, rfl⟩
  have hlen : (b.drop n).length = b.length - n := List.length_drop
  cbv
  refine sizedI hA (bytesV_flat hl) ?_
  cbv
  refine subLN hA (sub_of (natEq hi) (lenI hA hl) hl (by omega) (Nat.le_refl _)) ?_
  rintro u hu
  have hu := cutFrom (natEq hi) hl (lenI hA hl) hu
  cbv
  refine condI hA (fun hc => ?_) (fun hc => ?_)
  · have h10 := bLtT hA (m := 10) hu rfl hc
    have q := stop (by unfold stepM; rw [if_pos h10])
    cbv
    refine retI hA ?_
    exact ⟨congrArg (fun q => some (V.slice q)) q.1, congrArg (fun q => some (V.int .i64 q)) q.2, trivial⟩
  · have h10 := bLtF hA (m := 10) hu rfl hc
    obtain ⟨c, hcd⟩ : ∃ c, c = b.drop n := ⟨_, rfl⟩
    rw [← hcd] at stop hlen hu h10
    have t2 : twoM c = (c[0]'(by omega)).toNat * 256 + (c[1]'(by omega)).toNat := by
      match c, h10 with
      | x :: y :: r, _ => rfl
      | [_], h => simp at h
      | [], h => simp at h
    obtain ⟨t, ht⟩ : ∃ t, t = twoM c := ⟨_, rfl⟩
    have c8 := (c[0]'(by omega)).toNat_lt
    have d8 := (c[1]'(by omega)).toNat_lt
    cbv
    refine chkI hA (by kernel_rfl) ?_
    cbv
    refine getBN hA hu (j := 0) rfl (by omega) ?_
    rintro v0 hv0
    cbv
    refine getBN hA hu (j := 1) rfl (by omega) ?_
    rintro v1 hv1
    cbv
    have hto := to12 hA hv0 hv1 c8 d8
    rw [← t2, ← ht] at hto
    refine condI hA (fun h1 => ?_) (fun h1 => ?_)
    · have h1 := bLtT hA hu hto h1
      have q := stop (by unfold stepM; rw [if_neg h10, if_pos (by omega)])
      cbv
      refine retI hA ?_
      exact ⟨congrArg (fun q => some (V.slice q)) q.1, congrArg (fun q => some (V.int .i64 q)) q.2, trivial⟩
    · have h1 := bLtF hA hu hto h1
      cbv
      refine sizedI hA (bytesV_flat hu) ?_
      cbv
      refine subLN hA (sub_of (a := 10) rfl hto hu (by omega) (by omega)) ?_
      rintro bd hbd
      have hbd := cutMid (k := 10) rfl hto hu hbd
      cbv
      have hbl : ((c.take (10 + t)).drop 10).length ≤ b.length := by simp; omega
      refine callI hA (cFrame12 _ _ _ _ (natEq hsq) (by omega) hbd) ?_
      intro rs_ h_
      obtain ⟨fr, e1, q_1, hfr, he1⟩ := h_
      subst q_1
      cbv
      refine sizedI hA (bytesV_flat hu) ?_
      cbv
      refine subLN hA (sub_of (a := 10) rfl hto hu (by omega) (by omega)) ?_
      rintro bd2 hbd2
      have hbd2 := cutMid (k := 10) rfl hto hu hbd2
      cbv
      refine callI hA (cGet12 _ bd2 hbd2 (by omega)) ?_
      intro rs_ h_
      obtain ⟨g, lp, e2, q_1, hg, hlp, he2⟩ := h_
      subst q_1
      cbv
      have hstep : stepM gs.length c = if frameE ((c.take (10 + t)).drop 10) = 0 ∧ frameB gs.length ((c.take (10 + t)).drop 10) = c.take (10 + t) ∧ getE ((c.take (10 + t)).drop 10) = 0 then some (getR ((c.take (10 + t)).drop 10), 10 + t) else none := by
        unfold stepM; rw [if_neg h10, if_neg (by omega), ht]
      refine chkI hA (by kernel_rfl) ?_
      cbv
      refine condI hA (fun h2 => ?_) (fun h2 => ?_)
      · have h2 := ine_err hA h2
        have q := stop (by rw [hstep, if_neg fun h => h2 (he1.trans h.1)])
        cbv
        refine retI hA ?_
        exact ⟨congrArg (fun q => some (V.slice q)) q.1, congrArg (fun q => some (V.int .i64 q)) q.2, trivial⟩
      · have h2 := ine_ok hA h2
        cbv
        refine condI hA (fun h4 => ?_) (fun h4 => ?_)
        · have h4 := ine_err hA h4
          have q := stop (by rw [hstep, if_neg fun h => h4 (he2.trans h.2.2)])
          cbv
          refine retI hA ?_
          exact ⟨congrArg (fun q => some (V.slice q)) q.1, congrArg (fun q => some (V.int .i64 q)) q.2, trivial⟩
        · have h4 := ine_ok hA h4
          cbv
          refine b2sN hA hfr ?_
          rintro s1 hs1
          cbv
          refine sizedI hA (bytesV_flat hu) ?_
          cbv
          refine subLN hA (sub_of (a := 0) rfl hto hu (by omega) (by omega)) ?_
          rintro w hw
          have hw := cutTo hto hu hw
          cbv
          refine b2sN hA hw ?_
          rintro s2 hs2
          cbv
          refine condI hA (fun h3 => ?_) (fun h3 => ?_)
          · have h3 := sneT hA hs1 hs2 h3
            have q := stop (by rw [hstep, if_neg fun h => h3 h.2.1])
            cbv
            refine retI hA ?_
            exact ⟨congrArg (fun q => some (V.slice q)) q.1, congrArg (fun q => some (V.int .i64 q)) q.2, trivial⟩
          · have h3 := sneF hA hs1 hs2 h3
            have k := hF.next (r := (getR ((c.take (10 + t)).drop 10), 10 + t)) (by rw [← hcd, hstep, if_pos ⟨he1.symm.trans h2, h3, he2.symm.trans h4⟩])
            dsimp only at k
            have hg1 : [V.agg [.int .u8 g.k, .slice lp, .int .i64 g.sz, .int .u32 g.sm, .int .i64 g.mi, .int .i64 g.mo, .int .u32 g.si, .int .u32 g.so]] = recsV [getR ((c.take (10 + t)).drop 10)] := by
              rw [hlp, hg]; rfl
            cbv
            refine roomI hA (by rw [hx, recsV_len]; simp; omega) ?_
            cbv
            have hup := addI hA (natEq hi) hto (by omega)
            exact ⟨(_, _, _), weakI rfl ⟨rfl, rfl, rfl, rfl, trivial⟩ ⟨rfl, trivial⟩, ⟨_, _, hup, (up32 hA (natEq hsq) (by omega)).trans (by simp), app_rs hA hx hg1, k⟩, by
              change b.length - (A.wrap .i64 _).toNat < b.length - i.toNat
              rw [hup, natEq hi]; simp; omega⟩
end Go.Proofs.Ytinckcpmkocakaa.AM

/-
  Plain laws: what is put is read back.
-/
set_option linter.unusedVariables false
set_option linter.unusedSimpArgs false
namespace Go.Proofs.Ytinckcpmkocakaa.AM
open Go Go.RowKit
set_option maxRecDepth 100000
set_option maxHeartbeats 4000000

theorem u8_back {n : Nat} (h : n < 256) : (UInt8.ofNat n).toNat = n := by
  rw [UInt8.toNat_ofNat']; omega
theorem packL_cons (f : List UInt8) (fs : List (List UInt8)) : packL (f :: fs) = UInt8.ofNat (f.length / 256 % 256) :: UInt8.ofNat (f.length % 256) :: (f ++ packL fs) := by
  simp [packL]
theorem unpack_pack : ∀ (fs : List (List UInt8)), (∀ f ∈ fs, bigM f = false) → unpackM (packL fs) = some fs
  | [], _ => by rw [show packL [] = [] from rfl, unpackM]
  | f :: fs, h => by
    have hf := h f (by simp)
    unfold bigM at hf
    have hf := of_decide_eq_false hf
    have hlen : f.length ≤ 1024 := by omega
    rw [packL_cons, unpackM_cons, u8_back (by omega), u8_back (by omega)]
    have e : f.length / 256 % 256 * 256 + f.length % 256 = f.length := by omega
    rw [e, if_neg (by simp; omega), List.drop_left, List.take_left, unpack_pack fs fun g hg => h g (List.mem_cons_of_mem _ hg)]
theorem unpack_pack_L {fs : List (List UInt8)} (h : ∀ f ∈ fs, bigM f = false) : unpackL (packL fs) = fs ∧ unpackE (packL fs) = 0 := by
  simp [unpackL, unpackE, unpack_pack fs h]
theorem beN_snoc (b : List UInt8) (c : UInt8) : beN (b ++ [c]) = beN b * 256 + c.toNat := by unfold beN; rw [List.foldl_append]; rfl
theorem beN_numB : ∀ n : Nat, beN (numB n) = n := by
  intro n
  induction n using Nat.strongRecOn with
  | _ n ih =>
    rcases Nat.eq_zero_or_pos n with h | h
    · subst h; rw [numB_zero]; rfl
    · rw [numB_pos h, beN_snoc, ih (n / 256) (by omega), u8_back (by omega)]; omega
theorem head_numB : ∀ n : Nat, (numB n).head? ≠ some 0 := by
  intro n
  induction n using Nat.strongRecOn with
  | _ n ih =>
    rcases Nat.eq_zero_or_pos n with h | h
    · subst h; rw [numB_zero]; simp
    · rw [numB_pos h]
      rcases Nat.eq_zero_or_pos (n / 256) with h2 | h2
      · rw [h2, numB_zero]
        intro e
        simp only [List.nil_append, List.head?_cons, Option.some.injEq] at e
        have := congrArg UInt8.toNat e
        rw [u8_back (by omega)] at this
        simp at this; omega
      · have := ih (n / 256) (by omega)
        have hne : numB (n / 256) ≠ [] := by rw [numB_pos h2]; simp
        cases hq : numB (n / 256) with
        | nil => exact absurd hq hne
        | cons c r => rw [hq] at this; simpa using this
theorem number_numB {n : Nat} (h : n < 18446744073709551616) : numberN (numB n) = n ∧ numberE (numB n) = 0 := by
  have q := number_good (b := numB n) fun h' => by
    rcases h' with h' | h'
    · have := numB_len h; omega
    · exact head_numB n h'
  rw [beN_numB] at q
  exact q
theorem putB_small {a : RecM} (hr : RecOk a) : (putB a).length ≤ 1024 := by
  unfold putB
  split
  · rename_i h
    obtain ⟨h1, h2, h3, h4, h5⟩ := check_rng h
    have hp := path_small h5
    have hn := nums_lt hr h1 h2 h3
    have l : ∀ n ∈ numsOf a, (numB n).length ≤ 8 := fun n hn' => numB_len (hn n hn')
    have k := numB_len (n := a.k.toNat) (by have := hr.k1; omega)
    have n1 := l a.sz.toNat (by simp [numsOf])
    have n2 := l a.sm.toNat (by simp [numsOf])
    have n3 := l a.mi.toNat (by simp [numsOf])
    have n4 := l a.mo.toNat (by simp [numsOf])
    have n5 := l a.si.toNat (by simp [numsOf])
    have n6 := l a.so.toNat (by simp [numsOf])
    simp only [fieldsM, numsOf, List.map_cons, List.map_nil, packL_cons, List.length_cons, List.length_append, show packL [] = [] from rfl, List.length_nil]
    omega
  · simp
theorem get_of_put {a : RecM} (hr : RecOk a) (h : checkM a = true) : getR (putB a) = a ∧ getE (putB a) = 0 := by
  obtain ⟨h1, h2, h3, h4, h5⟩ := check_rng h
  have hb : putB a = packL (fieldsM a) := by simp [putB, h]
  have hu := unpack_pack_L (fields_small hr h)
  rw [← hb] at hu
  have hn := nums_lt hr h1 h2 h3
  have hpath := unpack_pack_L (fs := a.path) fun q hq => big_of (Nat.le_trans (h5.2 q hq) (by decide))
  obtain ⟨k0, k1, sm0, sm1, si0, si1, so0, so1, pl, ps⟩ := id hr
  have e0 := number_numB (n := a.k.toNat) (by omega)
  have e2 := number_numB (hn a.sz.toNat (by simp [numsOf]))
  have e3 := number_numB (hn a.sm.toNat (by simp [numsOf]))
  have e4 := number_numB (hn a.mi.toNat (by simp [numsOf]))
  have e5 := number_numB (hn a.mo.toNat (by simp [numsOf]))
  have e6 := number_numB (hn a.si.toNat (by simp [numsOf]))
  have e7 := number_numB (hn a.so.toNat (by simp [numsOf]))
  have hrec : recOf (fieldsM a) = a := by
    obtain ⟨k, p, sz, sm, mi, mo, si, so⟩ := a
    dsimp only at *
    simp only [recOf, fieldsM, numsOf, List.map_cons, List.map_nil, numF, List.getD_cons_zero, List.getD_cons_succ, e0, e2, e3, e4, e5, e6, e7, hpath.1, RecM.mk.injEq, true_and]
    exact ⟨by omega, by omega, by omega, by omega, by omega, by omega, by omega⟩
  have hok : okNums (fieldsM a) := fun m hm h1 => by
    match m, hm, h1 with
    | 0, _, _ => exact okNum_of e0.2 (by rw [show (fieldsM a).getD 0 [] = numB a.k.toNat from rfl, e0.1]; omega)
    | 1, _, h1 => exact absurd rfl h1
    | 2, _, _ => exact okNum_of e2.2 (by rw [show (fieldsM a).getD 2 [] = numB a.sz.toNat from rfl, e2.1]; omega)
    | 3, _, _ => exact okNum_of e3.2 (by rw [show (fieldsM a).getD 3 [] = numB a.sm.toNat from rfl, e3.1]; omega)
    | 4, _, _ => exact okNum_of e4.2 (by rw [show (fieldsM a).getD 4 [] = numB a.mi.toNat from rfl, e4.1]; omega)
    | 5, _, _ => exact okNum_of e5.2 (by rw [show (fieldsM a).getD 5 [] = numB a.mo.toNat from rfl, e5.1]; omega)
    | 6, _, _ => exact okNum_of e6.2 (by rw [show (fieldsM a).getD 6 [] = numB a.si.toNat from rfl, e6.1]; omega)
    | 7, _, _ => exact okNum_of e7.2 (by rw [show (fieldsM a).getD 7 [] = numB a.so.toNat from rfl, e7.1]; omega)
  have good : getOk (putB a) := by
    unfold getOk
    rw [hu.1, hu.2, hrec]
    exact ⟨rfl, rfl, hok, hpath.2, by simp [putE, h], rfl⟩
  have q := get_good good
  rw [hu.1, hrec] at q
  exact q
theorem frameL_len (s : Nat) (b : List UInt8) : (frameL s b).length = 10 + b.length := by
  simp [frameL, lenTwo, fourB_len]; omega
theorem frameL_drop (s : Nat) (b : List UInt8) : (frameL s b).drop 10 = b := rfl
theorem twoM_frame (s : Nat) (b : List UInt8) (hb : b.length ≤ 1024) (t : List UInt8) : twoM (frameL s b ++ t) = b.length := by
  change (UInt8.ofNat (b.length / 256 % 256)).toNat * 256 + (UInt8.ofNat (b.length % 256)).toNat = _
  rw [u8_back (by omega), u8_back (by omega)]; omega
theorem step_frame {a : RecM} (hr : RecOk a) (h : checkM a = true) (s : Nat) (t : List UInt8) : stepM s (frameL s (putB a) ++ t) = some (a, (frameL s (putB a)).length) := by
  have hb := putB_small hr
  have ht := twoM_frame s (putB a) hb t
  have hl := frameL_len s (putB a)
  unfold stepM
  rw [ht, ← hl, if_neg (by simp; omega), if_neg (by simp), List.take_left, frameL_drop]
  have q := get_of_put hr h
  rw [if_pos ⟨by simp [frameE]; omega, by simp [frameB]; omega, q.2⟩, q.1]
theorem scan_frame {a : RecM} (hr : RecOk a) (h : checkM a = true) (s : Nat) (t : List UInt8) : scanM s (frameL s (putB a) ++ t) = (a :: (scanM (s + 1) t).1, (frameL s (putB a)).length + (scanM (s + 1) t).2) := by
  rw [scanM_some (step_frame hr h s t)]; simp
theorem scan_nil (s : Nat) : scanM s [] = ([], 0) := scanM_none (by simp [stepM])
end Go.Proofs.Ytinckcpmkocakaa.AM

/-
  Contracts: the laws RecordPuts, RecordGets, RecordFrames.
-/
set_option linter.unusedVariables false
set_option linter.unusedSimpArgs false
namespace Go.Proofs.Ytinckcpmkocakaa.AM
open Go Go.RowKit
set_option maxRecDepth 100000
set_option maxHeartbeats 4000000

def R3 : RecM := ⟨3, [], 0, 0, 0, 0, 0, 0⟩
theorem R3_ok : RecOk R3 := ⟨by decide, by decide, by decide, by decide, by decide, by decide, by decide, by decide, by decide, by simp [R3]⟩
theorem R3_check : checkM R3 = true := by decide
theorem R3_put : putB R3 = [0, 1, 3] ++ List.replicate 14 0 := by
  have h3 : numB 3 = [3] := by rw [numB_pos (by decide), show 3 / 256 = 0 from rfl, numB_zero]; rfl
  simp only [putB, R3_check, if_true, fieldsM, numsOf]
  simp [R3, h3, numB_zero, packL]
theorem R3_scan : scanM 0 (frameB 0 (putB R3)) = ([R3], 27) := by
  have e : frameB 0 (putB R3) = frameL 0 (putB R3) ++ [] := by rw [R3_put]; simp [frameB]
  rw [e, scan_frame R3_ok R3_check, scan_nil, frameL_len, R3_put]; rfl
theorem ieqT {A : Prim} {P : Program} {R : List (Nat × AObj) → List D → Prop} (hA : A = std P R) {a b : Int} (h : a = b) : A.ieq a b = true := by subst hA; simpa [std] using h
theorem cAwake : CallR Try.prog 24 [] fun rs => rs = [.v (.bool true)] := by
  refine .of _ rfl ?_
  refine FnR.of' T_ok M_ok (fn := Try.f24) (by kernel_rfl) rfl rfl rfl rfl (Nat.le_of_ble_eq_true rfl) fun A hA => ?_
  cbv
  refine callI hA (cPut R3 [] rfl R3_ok) ?_
  intro rs_ h_
  obtain ⟨b, e1, q_1, hb, he1⟩ := h_
  subst q_1
  cbv
  refine callI hA (cFrame 0 0 _ b rfl (by decide) hb) ?_
  intro rs_ h_
  obtain ⟨f, e2, q_1, hf, he2⟩ := h_
  subst q_1
  cbv
  refine callI hA (cScan _ f hf (by rw [R3_put]; simp [frameB, frameL_len])) ?_
  intro rs_ h_
  obtain ⟨gs, e3, q_1, hgs, he3⟩ := h_
  subst q_1
  cbv
  rw [R3_scan] at hgs he3
  have he1 : e1 = 0 := he1
  have he2 : e2 = 0 := by rw [he2, R3_put]; rfl
  refine chkI hA (by kernel_rfl) ?_
  cbv
  refine b2sN hA hb ?_
  rintro s1 hs1
  cbv
  refine mkSI hA (by decide) ?_
  cbv
  have hz : A.repl 14 (.int .u8 0) = bytesV (List.replicate 14 0) := by rw [hA]; rfl
  refine b2sN hA hz ?_
  rintro s2 hs2
  cbv
  refine catOkI hA (by rw [hs2]; simp) ?_
  cbv
  have q1 : A.seq s1 (A.cat [0, 1, 3] s2) = true := by rw [hA, hs1, hs2, R3_put]; simp [std]
  refine condT hA q1 ?_
  cbv
  refine condT hA (ieqT hA he1) ?_
  cbv
  refine condT hA (ieqT hA he2) ?_
  cbv
  refine condT hA (ieqT hA (a := A.lenL gs) (b := 1) (by rw [lenR hA hgs]; rfl)) ?_
  cbv
  refine getAI hA [.int .u8 3, .slice [], .int .i64 0, .int .u32 0, .int .i64 0, .int .i64 0, .int .u32 0, .int .u32 0] ⟨by decide, by rw [hgs]; rfl, rfl⟩ ?_
  cbv
  refine condT hA (ieqT hA (a := 3) (b := 3) rfl) ?_
  cbv
  refine condT hA (ieqT hA (a := e3) (b := 27) he3) ?_
  cbv
  refine retI hA ?_
  simp only [retOk, rsOk, retIds, idsD, idsDs, softOb, toV, toVs, List.append_nil, List.nil_append, Option.some.injEq, V.int.injEq, V.bool.injEq, V.slice.injEq, V.agg.injEq, V.str.injEq, true_and, and_true, hA, std]
end Go.Proofs.Ytinckcpmkocakaa.AM
