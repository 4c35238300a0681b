/-
  Contracts: a frame.
-/
import Derived.Test.YthioccbgjkbmdaaM238ddb9811
import Derived.Test.YthioccbgjkbmdaaM1794e1a976
set_option linter.unusedVariables false
set_option linter.unusedSimpArgs false
namespace Go.Proofs.Ythioccbgjkbmdaa.AM
open Go Go.RowKit
set_option maxRecDepth 100000
set_option maxHeartbeats 4000000

def lenTwo (n : Nat) : List UInt8 := [UInt8.ofNat (n / 256 % 256), UInt8.ofNat (n % 256)]
def crcM (s : Nat) (b : List UInt8) : Nat := sumN 0 (fourB s ++ b)
def frameL (s : Nat) (b : List UInt8) : List UInt8 := lenTwo b.length ++ (fourB s ++ (fourB (crcM s b) ++ b))
def frameB (s : Nat) (b : List UInt8) : List UInt8 := if 1024 < b.length then [] else frameL s b
def frameE (b : List UInt8) : Int := if 1024 < b.length then 5 else 0
theorem fourB_len (n : Nat) : (fourB n).length = 4 := rfl
theorem shr_i64_8 (a : Nat) : Int.fdiv (a : Int) (2 ^ (min (Int.toNat 8) IntKind.i64.bits)) = ((a / 256 : Nat) : Int) := by
  have : (2 : Int) ^ (min (Int.toNat 8) IntKind.i64.bits) = ((256 : Nat) : Int) := by decide
  rw [this, Int.fdiv_eq_ediv_of_nonneg _ (by omega)]
  rfl
theorem two_shr {A : Prim} {P : Program} {R : List (Nat × AObj) → List D → Prop} (hA : A = std P R) {a : Int} {n : Nat} (ha : a = n) : [V.int .u8 (A.wrap .u8 (A.shr .i64 a 8)), .int .u8 (A.wrap .u8 a)] = bytesV (lenTwo n) := by
  rw [hA, ha]; simp only [std]
  rw [shr_i64_8, wrap_u8, wrap_u8, byteV (n := n / 256) rfl, byteV (n := n) rfl]; rfl
theorem crc_eq (s : Nat) (b : List UInt8) : addN (addN 4294967295 (fourB s)) b ^^^ 4294967295 = crcM s b := by
  rw [← addN_append]; rfl
theorem frame_flat (s : Nat) (b : List UInt8) : [lenTwo b.length, fourB s, fourB (crcM s b), b].flatten = frameL s b := by
  simp [frameL]
theorem cFrame (v : Int) (s : Nat) (b : List UInt8) (l : List V) (hv : v = s) (hs : s < 4294967296) (hl : l = bytesV b) : CallR Try.prog 37 [.int .u32 v, .slice l] fun rs => ∃ (r : List V) (e : Int), rs = [.v (.slice r), .v (.int .i64 e)] ∧ r = bytesV (frameB s b) ∧ e = frameE b := by
  obtain ⟨r, hr⟩ : ∃ r, r = bytesV (frameB s b) := ⟨_, rfl⟩
  obtain ⟨e, he⟩ : ∃ e, e = frameE b := ⟨_, rfl⟩
  refine .of [.v (.slice r), .v (.int .i64 e)] ⟨r, e, rfl, hr, he⟩ ?_
  refine FnR.of' T_ok M_ok (fn := Try.f37) (by kernel_rfl) rfl rfl rfl rfl (Nat.le_of_ble_eq_true rfl) fun A hA => ?_
  cbv
  refine condI hA (fun h1 => ?_) (fun h1 => ?_)
  · have h1 := bGtT hA (m := 1024) hl rfl h1
    cbv
    refine retI hA ?_
    refine ⟨congrArg (fun q => some (V.slice q)) ?_, congrArg (fun q => some (V.int .i64 q)) ?_, trivial⟩
    · rw [hr]; unfold frameB; rw [if_pos h1]; rfl
    · rw [he]; unfold frameE; rw [if_pos h1]
  · have h1 := bGtF hA (m := 1024) hl rfl h1
    cbv
    refine callI hA (c21) ?_
    intro rs_ h_
    obtain ⟨s0, q_1, hs0⟩ := h_
    subst q_1
    cbv
    refine callI hA (cFour v s hv) ?_
    intro rs_ h_
    obtain ⟨f1, q_1, hf1⟩ := h_
    subst q_1
    cbv
    refine callI hA (c22 s0 _ _ _ hs0 (by decide) hf1 (by simp [fourB_len])) ?_
    intro rs_ h_
    obtain ⟨s1, q_1, hs1⟩ := h_
    subst q_1
    cbv
    refine callI hA (c22 s1 _ _ _ hs1 (addN_lt (by decide) _) hl (by omega)) ?_
    intro rs_ h_
    obtain ⟨s2, q_1, hs2⟩ := h_
    subst q_1
    cbv
    refine callI hA (c20 s2 _ hs2 (addN_lt (addN_lt (by decide) _) _)) ?_
    intro rs_ h_
    obtain ⟨s3, q_1, hs3⟩ := h_
    subst q_1
    cbv
    rw [crc_eq] at hs3
    refine nnegI hA (by decide) ?_
    cbv
    have k1 := two_shr hA (lenI hA hl)
    refine callI hA (cFour v s hv) ?_
    intro rs_ h_
    obtain ⟨f2, q_1, hf2⟩ := h_
    subst q_1
    cbv
    refine callI hA (cFour s3 _ hs3) ?_
    intro rs_ h_
    obtain ⟨f3, q_1, hf3⟩ := h_
    subst q_1
    cbv
    have hx : [V.slice [V.int .u8 (A.wrap .u8 (A.shr .i64 (A.lenL l) 8)), .int .u8 (A.wrap .u8 (A.lenL l))], .slice f2, .slice f3, .slice l] = listsV [lenTwo b.length, fourB s, fourB (crcM s b), b] := by
      rw [k1, hf2, hf3, hl]; rfl
    refine callI hA (cConcat _ _ hx (by simp) (by simp [lenTwo, fourB_len]; omega)) ?_
    intro rs_ h_
    obtain ⟨r2, q_1, hr2⟩ := h_
    subst q_1
    cbv
    rw [frame_flat] at hr2
    refine retI hA ?_
    refine ⟨congrArg (fun q => some (V.slice q)) ?_, congrArg (fun q => some (V.int .i64 q)) ?_, trivial⟩
    · rw [hr, hr2]; unfold frameB; rw [if_neg h1]
    · rw [he]; unfold frameE; rw [if_neg h1]
end Go.Proofs.Ythioccbgjkbmdaa.AM

/-
  Contracts: frames scanned.
-/
set_option linter.unusedVariables false
set_option linter.unusedSimpArgs false
namespace Go.Proofs.Ythioccbgjkbmdaa.AM
open Go Go.RowKit
set_option maxRecDepth 100000
set_option maxHeartbeats 4000000

def recV (g : RecM) : V := .agg [.int .u8 g.k, .slice (strsV g.path), .int .i64 g.sz, .int .u32 g.sm, .int .i64 g.mi, .int .i64 g.mo, .int .u32 g.si, .int .u32 g.so]
def recsV (gs : List RecM) : List V := gs.map recV
theorem recsV_len (gs : List RecM) : (recsV gs).length = gs.length := by simp [recsV]
theorem lenRs {l : List V} {gs : List RecM} (h : l = recsV gs) : l.length = gs.length := by rw [h, recsV_len]
def twoM : List UInt8 → Nat
  | x :: y :: _ => x.toNat * 256 + y.toNat
  | _ => 0
/-- One frame: its record, and its length. -/
def stepM (s : Nat) (b : List UInt8) : Option (RecM × Nat) :=
  if b.length < 10 then none else if b.length < 10 + twoM b then none else
  if frameE ((b.take (10 + twoM b)).drop 10) = 0 ∧ frameB s ((b.take (10 + twoM b)).drop 10) = b.take (10 + twoM b) ∧ getE ((b.take (10 + twoM b)).drop 10) = 0 then some (getR ((b.take (10 + twoM b)).drop 10), 10 + twoM b) else none
theorem stepM_some {s : Nat} {b : List UInt8} {r : RecM × Nat} (h : stepM s b = some r) : 10 ≤ r.2 ∧ r.2 ≤ b.length := by
  unfold stepM at h
  split at h
  · cases h
  · split at h
    · cases h
    · split at h
      · cases h; exact ⟨by simp, by simp; omega⟩
      · cases h
def scanM (s : Nat) (b : List UInt8) : List RecM × Nat :=
  match h : stepM s b with
  | some r => (r.1 :: (scanM (s + 1) (b.drop r.2)).1, r.2 + (scanM (s + 1) (b.drop r.2)).2)
  | none => ([], 0)
termination_by b.length
decreasing_by all_goals (have := stepM_some h; simp only [List.length_drop]; omega)
theorem scanM_some {s : Nat} {b : List UInt8} {r : RecM × Nat} (h : stepM s b = some r) : scanM s b = (r.1 :: (scanM (s + 1) (b.drop r.2)).1, r.2 + (scanM (s + 1) (b.drop r.2)).2) := by
  rw [scanM]; split
  · rename_i r' h'; rw [h] at h'; cases h'; rfl
  · rename_i h'; rw [h] at h'; cases h'
theorem scanM_none {s : Nat} {b : List UInt8} (h : stepM s b = none) : scanM s b = ([], 0) := by
  rw [scanM]; split
  · rename_i r' h'; rw [h] at h'; cases h'
  · rfl
/-- What is read, from a place on. -/
def From (b : List UInt8) (n : Nat) (gs : List RecM) : Prop := n ≤ b.length ∧ gs.length * 10 ≤ n ∧ scanM 0 b = (gs ++ (scanM gs.length (b.drop n)).1, n + (scanM gs.length (b.drop n)).2)
theorem From.zero (b : List UInt8) : From b 0 [] := ⟨by simp, by simp, by simp⟩
theorem From.next {b : List UInt8} {n : Nat} {gs : List RecM} (h : From b n gs) {r : RecM × Nat} (k : stepM gs.length (b.drop n) = some r) : From b (n + r.2) (gs ++ [r.1]) := by
  obtain ⟨h1, h2, h3⟩ := h
  have q := stepM_some k
  rw [List.length_drop] at q
  refine ⟨by omega, by simp; omega, ?_⟩
  rw [h3, scanM_some k, List.drop_drop]
  simp only [List.length_append, List.length_singleton, List.append_assoc, List.singleton_append, Nat.add_assoc]
theorem From.stop {b : List UInt8} {n : Nat} {gs : List RecM} (h : From b n gs) (k : stepM gs.length (b.drop n) = none) : scanM 0 b = (gs, n) := by
  rw [h.2.2, scanM_none k]; simp
theorem twoM_at {b : List UInt8} {n : Nat} (h0 : n < b.length) (h1 : n + 1 < b.length) : twoM (b.drop n) = b[n].toNat * 256 + b[n + 1].toNat := by
  rw [List.drop_eq_getElem_cons h0, List.drop_eq_getElem_cons h1]; rfl
theorem cut_at (b : List UInt8) (n t k : Nat) : (b.take (n + t)).drop (n + k) = ((b.drop n).take t).drop k := by
  rw [← List.drop_drop, List.drop_take, Nat.add_sub_cancel_left]
theorem take_at (b : List UInt8) (n t : Nat) : (b.take (n + t)).drop n = (b.drop n).take t := by
  rw [List.drop_take, Nat.add_sub_cancel_left]
section
variable {A : Prim} {P : Program} {R : List (Nat × AObj) → List D → Prop} (hA : A = std P R)
include hA
theorem subI {a b : Int} {m n : Nat} (ha : a = m) (hb : b = n) (h : n ≤ m) (hm : m ≤ 4000000000000000000) : A.wrap .i64 (A.sub a b) = ((m - n : Nat) : Int) := by
  rw [hA, ha, hb]; simp only [std]
  rw [show (m : Int) - (n : Int) = ((m - n : Nat) : Int) from by omega]; exact wrap_i64 (by omega) (by omega)
theorem nLeT {k n : Int} {c m : Nat} (hk : k = c) (hn : n = m) (h : A.ile k n = true) : c ≤ m := by
  have := leT hA h; rw [hk, hn] at this; omega
theorem nLeF {k n : Int} {c m : Nat} (hk : k = c) (hn : n = m) (h : A.ile k n = false) : ¬ c ≤ m := by
  have := leF hA h; rw [hk, hn] at this; omega
theorem wSmall {n : Int} {m : Nat} (hn : n = m) (hm : m < 256) : A.wrap .i64 n = ((m : Nat) : Int) := wI hA hn (by omega)
theorem app_rs {x y : List V} {a b : List RecM} (hx : x = recsV a) (hy : y = recsV b) : A.app x y = recsV (a ++ b) := by
  rw [hA]; simp only [std]; rw [hx, hy]; simp [recsV]
theorem lenR {x : List V} {a : List RecM} (hx : x = recsV a) : A.lenL x = (a.length : Nat) := by rw [hA]; simp only [std]; rw [lenRs hx]
theorem wU' {n : Int} {m : Nat} (hn : n = m) (hm : m < 4294967296) : A.wrap .u32 n = ((m : Nat) : Int) := wU hA hn hm
end
theorem cScan (b : List UInt8) (l : List V) (hl : l = bytesV b) (hb : b.length ≤ 4000000000) : CallR Try.prog 30 [.slice l] fun rs => ∃ (r : List V) (e : Int), rs = [.v (.slice r), .v (.int .i64 e)] ∧ r = recsV (scanM 0 b).1 ∧ e = ((scanM 0 b).2 : Nat) := by
  obtain ⟨r, hr⟩ : ∃ r, r = recsV (scanM 0 b).1 := ⟨_, rfl⟩
  obtain ⟨e, he⟩ : ∃ e : Int, e = ((scanM 0 b).2 : Nat) := ⟨_, rfl⟩
  refine .of [.v (.slice r), .v (.int .i64 e)] ⟨r, e, rfl, hr, he⟩ ?_
  refine FnR.of' T_ok M_ok (fn := Try.f30) (by kernel_rfl) rfl rfl rfl rfl (Nat.le_of_ble_eq_true rfl) fun A hA => ?_
  cbv
  refine loopF hA (ι := Int × List V) (fun p => { n := 74, sl := [(0, .v (.slice l)), (4, .own 70), (5, .v (.int .i64 p.1))], ob := [(70, .row 8 p.2 true)] })
    (fun p => ∃ (n : Nat) (gs : List RecM), p.1 = n ∧ p.2 = recsV gs ∧ From b n gs) (fun p => b.length - p.1.toNat) (_, _) ((weak_nils _ 4 70 8 true rfl).trans (weakI rfl ⟨rfl, rfl, rfl, trivial⟩ ⟨rfl, trivial⟩)) ⟨0, [], rfl, rfl, From.zero b⟩ ?_
  rintro ⟨i, x⟩ ⟨n, gs, hi, hx, hF⟩
  dsimp only at hi hx
  obtain ⟨hnb, hgn, _⟩ := id hF
  have stop : stepM gs.length (b.drop n) = none → x = r ∧ i = e := fun k => by
    have q := hF.stop k
    rw [hr, he, q, hx, hi]; exact ⟨rfl, rfl⟩
  have hlen : (b.drop n).length = b.length - n := List.length_drop
  cbv
  refine condI hA (fun hc => ?_) (fun hc => ?_)
  · have h10 := nLeT hA (c := 10) rfl (subI hA (lenI hA hl) (natEq hi) hnb (by omega)) hc
    have t2 := twoM_at (b := b) (n := n) (by omega) (by omega)
    obtain ⟨t, ht⟩ : ∃ t, t = twoM (b.drop n) := ⟨_, rfl⟩
    have c8 := (b[n]'(by omega)).toNat_lt
    have d8 := (b[n + 1]'(by omega)).toNat_lt
    have hn1 := addI hA (natEq hi) (b := 1) (n := 1) rfl (by omega)
    have hn10 := addI hA (natEq hi) (b := 10) (n := 10) rfl (by omega)
    cbv
    refine chkI hA (by kernel_rfl) ?_
    cbv
    refine getBN hA hl (natEq hi) (by omega) ?_
    rintro v0 hv0
    cbv
    refine nnegI hA (by decide) ?_
    cbv
    refine getBN hA hl hn1 (by omega) ?_
    rintro v1 hv1
    cbv
    have hto := addI hA (addI hA hn10 (shl8 hA hv0 c8) (by omega)) (wSmall hA hv1 d8) (by omega)
    rw [show n + 10 + (b[n]'(by omega)).toNat * 256 + (b[n + 1]'(by omega)).toNat = n + (10 + t) from by omega] at hto
    refine condI hA (fun h1 => ?_) (fun h1 => ?_)
    · have h1 := bLtT hA hl hto h1
      have q := stop (by unfold stepM; rw [if_neg (by omega), if_pos (by omega)])
      cbv
      refine retI hA ?_
      exact ⟨congrArg (fun q => some (V.slice q)) q.1, congrArg (fun q => some (V.int .i64 q)) q.2, trivial⟩
    · have h1 := bLtF hA hl hto h1
      have ht2 : n + (10 + t) ≤ b.length := by omega
      cbv
      refine sizedI hA (bytesV_flat hl) ?_
      cbv
      refine subLN hA (sub_of hn10 hto hl (by omega) ht2) ?_
      rintro bd hbd
      have hbd := cutMid hn10 hto hl hbd
      rw [cut_at] at hbd
      cbv
      have hbl : (((b.drop n).take (10 + t)).drop 10).length ≤ b.length := by simp; omega
      have hseq := wU' hA (lenR hA hx) (by omega)
      refine callI hA (cFrame _ _ _ _ hseq (by omega) hbd) ?_
      intro rs_ h_
      obtain ⟨fr, e1, q_1, hfr, he1⟩ := h_
      subst q_1
      cbv
      have hstep : stepM gs.length (b.drop n) = if frameE (((b.drop n).take (10 + t)).drop 10) = 0 ∧ frameB gs.length (((b.drop n).take (10 + t)).drop 10) = (b.drop n).take (10 + t) ∧ getE (((b.drop n).take (10 + t)).drop 10) = 0 then some (getR (((b.drop n).take (10 + t)).drop 10), 10 + t) else none := by
        unfold stepM; rw [if_neg (by omega), if_neg (by omega), ht]
      refine condI hA (fun h2 => ?_) (fun h2 => ?_)
      · have h2 := ine_err hA h2
        have q := stop (by rw [hstep, if_neg fun h => h2 (he1.trans h.1)])
        cbv
        refine retI hA ?_
        exact ⟨congrArg (fun q => some (V.slice q)) q.1, congrArg (fun q => some (V.int .i64 q)) q.2, trivial⟩
      · have h2 := ine_ok hA h2
        cbv
        refine sizedI hA (bytesV_flat hl) ?_
        cbv
        refine subLN hA (sub_of (natEq hi) hto hl (by omega) ht2) ?_
        rintro w hw
        have hw := cutMid (natEq hi) hto hl hw
        rw [take_at] at hw
        cbv
        refine callI hA (cEqualB _ _ fr w hfr hw (by unfold frameB frameL; split <;> simp [lenTwo, fourB_len]; omega)) ?_
        intro rs_ h_
        obtain ⟨c1, q_1, hc1⟩ := h_
        subst q_1
        cbv
        refine condI hA (fun h3 => ?_) (fun h3 => ?_)
        · have h3 : ¬ frameB gs.length (((b.drop n).take (10 + t)).drop 10) = (b.drop n).take (10 + t) := fun h => by have := notT hA h3; rw [hc1, h] at this; simp at this
          have q := stop (by rw [hstep, if_neg fun h => h3 h.2.1])
          cbv
          refine retI hA ?_
          exact ⟨congrArg (fun q => some (V.slice q)) q.1, congrArg (fun q => some (V.int .i64 q)) q.2, trivial⟩
        · have h3 : frameB gs.length (((b.drop n).take (10 + t)).drop 10) = (b.drop n).take (10 + t) := by have := notF hA h3; rw [hc1] at this; simpa using this
          cbv
          refine callI hA (cGet _ bd hbd (by omega)) ?_
          intro rs_ h_
          obtain ⟨g, lp, e2, q_1, hg, hlp, he2⟩ := h_
          subst q_1
          cbv
          refine condI hA (fun h4 => ?_) (fun h4 => ?_)
          · have h4 := ine_err hA h4
            have q := stop (by rw [hstep, if_neg fun h => h4 (he2.trans h.2.2)])
            cbv
            refine retI hA ?_
            exact ⟨congrArg (fun q => some (V.slice q)) q.1, congrArg (fun q => some (V.int .i64 q)) q.2, trivial⟩
          · have h4 := ine_ok hA h4
            have k := hF.next (r := (getR (((b.drop n).take (10 + t)).drop 10), 10 + t)) (by rw [hstep, if_pos ⟨he1.symm.trans h2, h3, he2.symm.trans h4⟩])
            dsimp only at k
            have hg1 : [V.agg [.int .u8 g.k, .slice lp, .int .i64 g.sz, .int .u32 g.sm, .int .i64 g.mi, .int .i64 g.mo, .int .u32 g.si, .int .u32 g.so]] = recsV [getR (((b.drop n).take (10 + t)).drop 10)] := by
              rw [hlp, hg]; rfl
            cbv
            refine roomI hA (by rw [hx, recsV_len]; simp; omega) ?_
            cbv
            exact ⟨(_, _), weakI rfl ⟨rfl, rfl, rfl, trivial⟩ ⟨rfl, trivial⟩, ⟨_, _, hto, app_rs hA hx hg1, k⟩, by
              change b.length - (A.wrap .i64 _).toNat < b.length - i.toNat
              rw [hto, natEq hi]; simp; omega⟩
  · have h10 := nLeF hA (c := 10) rfl (subI hA (lenI hA hl) (natEq hi) hnb (by omega)) hc
    have q := stop (by unfold stepM; rw [if_pos (by omega)])
    cbv
    refine retI hA ?_
    exact ⟨congrArg (fun q => some (V.slice q)) q.1, congrArg (fun q => some (V.int .i64 q)) q.2, trivial⟩
end Go.Proofs.Ythioccbgjkbmdaa.AM

/-
  Contracts: one thing behind the other.
-/
set_option linter.unusedVariables false
set_option linter.unusedSimpArgs false
namespace Go.Proofs.Ythioccbgjkbmdaa.AM
open Go Go.RowKit
set_option maxRecDepth 100000
set_option maxHeartbeats 4000000

def cloV (f : Bool × Nat × List V) : V := if f.1 then .mth f.2.1 f.2.2 else .clo f.2.1 f.2.2
/-- The functions that are called here: closures over up to three, methods of one. -/
def CapOk (m : Bool) (caps : List V) : Prop := (∃ x, caps = [x]) ∨ (m = false ∧ ∃ x y, caps = [x, y]) ∨ m = false ∧ ∃ x y z, caps = [x, y, z]
/-- What is to be shown of things that are done one behind the other. -/
def ChainP : List (Bool × Nat × List V) → GH → (Int → GH → Prop) → Prop
  | [], gh, post => post 0 gh
  | (m, f, caps) :: r, gh, post => CapOk m caps ∧ ∃ Q : Int → GH → Prop, FnG Try.prog f caps gh (fun rs g => ∃ e : Int, rs = [.v (.int .i64 e)] ∧ Q e g) ∧ (∀ e g, Q e g → e ≠ 0 → post e g) ∧ ∀ g, Q 0 g → ChainP r g post
theorem gChain {gh : GH} (fs : List (Bool × Nat × List V)) (l : List V) (hl : l = fs.map cloV) (hn : fs.length ≤ 1000) (post : Int → GH → Prop) (h : ChainP fs gh post) : FnG Try.prog 35 [.slice l] gh fun rs g => ∃ e : Int, rs = [.v (.int .i64 e)] ∧ post e g := by
  have hll : l.length = fs.length := by rw [hl, List.length_map]
  have hdrop : ∀ (j : Nat) (g : GH) (m : Int), m = (j : Nat) → j < fs.length → ChainP (fs.drop j) g post → ∃ b f caps, l[m.toNat]? = some (cloV (b, f, caps)) ∧ CapOk b caps ∧ ∃ Q : Int → GH → Prop, FnG Try.prog f caps g (fun rs g => ∃ e : Int, rs = [.v (.int .i64 e)] ∧ Q e g) ∧ (∀ e g, Q e g → e ≠ 0 → post e g) ∧ ∀ g, Q 0 g → ChainP (fs.drop (j + 1)) g post := fun j g m hm hj hc => by
    obtain ⟨⟨b, f, caps⟩, hf⟩ : ∃ x, fs[j]? = some x := ⟨_, List.getElem?_eq_getElem hj⟩
    have hd : fs.drop j = (b, f, caps) :: fs.drop (j + 1) := by
      rw [List.drop_eq_getElem_cons hj]; congr 1
      rw [List.getElem?_eq_getElem hj] at hf; exact Option.some.inj hf
    rw [hd] at hc
    exact ⟨b, f, caps, by rw [hm, hl, Int.toNat_natCast, List.getElem?_map, hf]; rfl, hc⟩
  have hup : ∀ (j : Nat) (m : Int), m = (j : Nat) → j < fs.length → w64 (m + 1) = ((j + 1 : Nat) : Int) ∧ fs.length - (j + 1) < fs.length - m.toNat := fun j m hm hj => by
    rw [hm, w64_id (by omega)]
    exact ⟨by omega, by omega⟩
  refine FnG.of' T_ok M_ok [] (fn := Try.f35) (by kernel_rfl) rfl rfl rfl rfl (Nat.le_of_ble_eq_true rfl) fun A hA => ?_
  cbv
  have hlen : A.lenL l = (fs.length : Nat) := by rw [hA]; exact congrArg Nat.cast hll
  refine loopF hA (ι := Int × GH) (fun q => { n := 18, sl := [(2, .v (.int .i64 0)), (6, .v (.slice l)), (7, .v (.int .i64 (A.lenL l))), (8, .v (.int .i64 q.1))], ob := [(hk, .heap q.2 [])] }) (fun q => ∃ j : Nat, q.1 = (j : Nat) ∧ j ≤ fs.length ∧ ChainP (fs.drop j) q.2 post) (fun q => fs.length - q.1.toNat) (_, _) (weakI rfl ⟨rfl, rfl, rfl, rfl, trivial⟩ ⟨rfl, trivial⟩) ⟨0, rfl, Nat.zero_le _, h⟩ ?_
  rintro ⟨m, g⟩ ⟨j, hm, hj, hc⟩
  dsimp only at hm hj hc
  cbv
  refine condI hA (fun h1 => ?_) (fun h1 => ?_)
  · have h1 : m < A.lenL l := zltT hA h1
    rw [hlen, hm] at h1
    have hj2 : j < fs.length := Int.ofNat_lt.1 h1
    obtain ⟨b, f, caps, hf, hcap, Q, hQ, hne, hnx⟩ := hdrop j g m hm hj2 hc
    rcases hcap with ⟨x, rfl⟩ | ⟨rfl, x, y, rfl⟩ | ⟨rfl, x, y, z, rfl⟩
    cases b
    all_goals
      cbv
      refine getXN hA ⟨by rw [hm]; exact Int.natCast_nonneg _, hf, rfl⟩ ?_
      rintro r rfl
      cbv
      refine callGI hA (hQ) ?_
      intro rs_ g2 h_
      obtain ⟨e, q_1, hq⟩ := h_
      subst q_1
      cbv
      refine condI hA (fun h2 => ?_) (fun h2 => ?_)
      · have h2 := zneT hA h2
        cbv
        exact retGI hA rfl [.v (.int .i64 e)] g2 (⟨e, rfl, hne e g2 hq h2⟩) (by first | exact ⟨rfl, trivial⟩ | exact ⟨rfl, rfl, trivial⟩ | exact ⟨rfl, rfl, rfl, trivial⟩ | trivial)
      · have h2 := zneF hA h2
        cbv
        refine ⟨(_, g2), weakI rfl ⟨rfl, rfl, rfl, rfl, trivial⟩ ⟨rfl, trivial⟩, ⟨j + 1, (zadd hA m 1).trans (hup j m hm hj2).1, hj2, hnx g2 (h2 ▸ hq)⟩, ?_⟩
        change fs.length - (A.wrap .i64 (A.add m 1)).toNat < fs.length - m.toNat
        rw [zadd hA, (hup j m hm hj2).1]; exact (hup j m hm hj2).2
  · have h1 : ¬ m < A.lenL l := zltF hA h1
    rw [hlen, hm] at h1
    have hj2 : j = fs.length := Nat.le_antisymm hj (Nat.not_lt.1 fun q => h1 (Int.ofNat_lt.2 q))
    rw [hj2, List.drop_length] at hc
    cbv
    exact retGI hA rfl [.v (.int .i64 0)] g (⟨0, rfl, hc⟩) (by first | exact ⟨rfl, trivial⟩ | exact ⟨rfl, rfl, trivial⟩ | exact ⟨rfl, rfl, rfl, trivial⟩ | trivial)
end Go.Proofs.Ythioccbgjkbmdaa.AM

/-
  Contracts: a journal's file.
-/
set_option linter.unusedVariables false
set_option linter.unusedSimpArgs false
namespace Go.Proofs.Ythioccbgjkbmdaa.AM
open Go Go.RowKit
set_option maxRecDepth 100000
set_option maxHeartbeats 4000000

def jName : Bs := [46, 103, 101, 115, 115, 111]
theorem DI.upd {gh g : GH} {lab lab' : Lab} {X : Nat → Prop} {p : Nat} {k : Dk} {B : Nat} (h : DI gh lab p k B) (u : Upd gh g lab lab' (fun _ => False) X) (hX : ∀ x, X x → lab x = none) : DI g lab' p k B := by
  obtain ⟨v, ids, q⟩ := h.i.at_.x
  exact ⟨⟨(q.upd u hX).at, h.i.one⟩, h.ok, h.cap⟩
def jBox (p : Nat) (file n : Int) : GObj := .box [.gp p 0, .int .i64 file, .int .i64 n]
/-- A journal and its disk. -/
structure JD (gh : GH) (lab : Lab) (p : Nat) (k : Dk) (B : Nat) (jp : Nat) (file n : Int) : Prop where
  d : DI gh lab p k B
  j : Side gh lab jp (jBox p file n)
def JDid (gh : GH) (lab : Lab) (p : Nat) (k : Dk) (B : Nat) (jp : Nat) (file n : Int) (g : GH) : Prop := ∃ lab', Upd gh g lab lab' (fun _ => True) (fun x => x = jp) ∧ JD g lab' p k B jp file n
theorem JD.did {gh g : GH} {lab : Lab} {p : Nat} {k k' : Dk} {B B' jp : Nat} {file n : Int} (h : JD gh lab p k B jp file n) (hd : Did gh lab p k' B' g) : JDid gh lab p k' B' jp file n g := by
  obtain ⟨lab', u, q⟩ := hd
  exact ⟨lab', u.weak (fun _ h => h) (fun _ h => h.elim), q, h.j.upd u⟩
theorem JDid.trans {gh g g' : GH} {lab : Lab} {p : Nat} {k k' : Dk} {B B' jp : Nat} {file n file' n' : Int} (h : JDid gh lab p k B jp file n g) (h2 : ∀ lab', JD g lab' p k B jp file n → JDid g lab' p k' B' jp file' n' g') : JDid gh lab p k' B' jp file' n' g' := by
  obtain ⟨lab', u, q⟩ := h
  obtain ⟨lab2, u2, q2⟩ := h2 lab' q
  exact ⟨lab2, u.trans u2, q2⟩
theorem JD.dom {gh : GH} {lab : Lab} {p : Nat} {k : Dk} {B jp : Nat} {file n : Int} (h : JD gh lab p k B jp file n) : Dom gh lab := h.d.i.at_.1
theorem JD.self {gh : GH} {lab : Lab} {p : Nat} {k : Dk} {B B' jp : Nat} {file n : Int} (h : JD gh lab p k B jp file n) (hB : B ≤ B') : JDid gh lab p k B' jp file n gh := ⟨lab, Upd.refl h.dom _ _, h.d.mono hB, h.j⟩
theorem JD.put {gh g : GH} {lab : Lab} {p : Nat} {k : Dk} {B jp : Nat} {file n file' n' : Int} (h : JD gh lab p k B jp file n) (hg : g = gh.set jp (jBox p file' n')) : JDid gh lab p k B jp file' n' g := by
  have u : Upd gh g lab lab (fun _ => False) (fun x => x = jp) := Upd.mk0 h.dom (by rw [hg]; exact Nat.le_refl _) fun x hx q1 q2 => by rw [hg]; simp only [GH.set_get]; rw [if_neg q1]
  exact ⟨lab, u.weak (fun _ h => h.elim) (fun _ h => .inl h), h.d.upd u (fun x e => by rw [e]; exact h.j.no), by rw [hg]; simp, h.j.no, by rw [hg]; exact h.j.lt⟩
theorem JDid.mono {gh g : GH} {lab : Lab} {p : Nat} {k : Dk} {B B' jp : Nat} {file n : Int} (h : JDid gh lab p k B jp file n g) (hB : B ≤ B') : JDid gh lab p k B' jp file n g := by
  obtain ⟨lab', u, q⟩ := h
  exact ⟨lab', u, q.d.mono hB, q.j⟩
theorem i64_1 : I64 1 := by unfold I64; omega
def Dk.beginD (k : Dk) (file : Int) : Dk × Int × Int := if file ≠ 0 then (k, file, 0) else
  let r := k.makeD 1 jName false
  if r.2.2 ≠ 0 then (r.1, file, r.2.2) else ((r.1.syncD 1).1, r.2.1, (r.1.syncD 1).2)
theorem gBegin {gh : GH} {lab : Lab} {p : Nat} {k : Dk} {B jp : Nat} {file n : Int} (h : JD gh lab p k B jp file n) (hB : B + 1 ≤ 1000000000) : FnG Try.prog 38 [.gp jp 0] gh fun rs g => ∃ e : Int, rs = [.v (.int .i64 e)] ∧ e = (k.beginD file).2.2 ∧ JDid gh lab p (k.beginD file).1 (B + 1) jp (k.beginD file).2.1 n g := by
  have hj := h.j.at_
  unfold jBox at hj
  have hcr := dCreate h.d (by omega) 1 i64_1 jName
  refine FnG.of' T_ok M_ok [] (fn := Try.f38) (by kernel_rfl) rfl rfl rfl rfl (Nat.le_of_ble_eq_true rfl) fun A hA => ?_
  cbv
  refine gldI hA _ (hj) ?_
  cbv
  refine condI hA (fun h1 => ?_) (fun h1 => ?_)
  · have h1 := zneT hA h1
    have q : k.beginD file = (k, file, 0) := by unfold Dk.beginD; rw [if_pos h1]
    cbv
    exact retGI hA rfl [.v (.int .i64 0)] gh (⟨0, rfl, by rw [q], by rw [q]; exact h.self (Nat.le_succ _)⟩) (by first | exact ⟨rfl, trivial⟩ | exact ⟨rfl, rfl, trivial⟩ | exact ⟨rfl, rfl, rfl, trivial⟩ | trivial)
  · have h1 := zneF hA h1
    cbv
    refine gldI hA _ (hj) ?_
    cbv
    refine callGI hA (hcr) ?_
    intro rs_ g1 h_
    obtain ⟨f, e, q_1, hf, he, hd⟩ := h_
    subst q_1
    cbv
    obtain ⟨lab1, u1, hj1⟩ := h.did hd
    refine condI hA (fun h2 => ?_) (fun h2 => ?_)
    · have h2 := zneT hA h2
      have q : k.beginD file = ((k.makeD 1 jName false).1, file, (k.makeD 1 jName false).2.2) := by unfold Dk.beginD; rw [if_neg (fun q => q h1)]; dsimp only; rw [if_pos (he ▸ h2)]
      cbv
      exact retGI hA rfl [.v (.int .i64 e)] g1 (⟨e, rfl, by rw [q]; exact he, by rw [q]; exact ⟨lab1, u1, hj1⟩⟩) (by first | exact ⟨rfl, trivial⟩ | exact ⟨rfl, rfl, trivial⟩ | exact ⟨rfl, rfl, rfl, trivial⟩ | trivial)
    · have h2 := zneF hA h2
      have q : k.beginD file = (((k.makeD 1 jName false).1.syncD 1).1, f, ((k.makeD 1 jName false).1.syncD 1).2) := by unfold Dk.beginD; rw [if_neg (fun q => q h1)]; dsimp only; rw [if_neg (fun f => f (he ▸ h2)), hf]
      have b1 := hj1.j.at_
      unfold jBox at b1
      cbv
      refine gstI hA _ b1 ?_
      intro g2 hg2
      obtain ⟨lab2, u2, hj2⟩ := hj1.put (file' := f) (n' := n) hg2
      have b2 := hj2.j.at_
      unfold jBox at b2
      have hsy := dSync hj2.d (by omega) 1 i64_1
      cbv
      refine gldI hA _ (b2) ?_
      cbv
      refine callGI hA (hsy) ?_
      intro rs_ g3 h_
      obtain ⟨e3, q_1, he3, hd3⟩ := h_
      subst q_1
      cbv
      obtain ⟨lab3, u3, hj3⟩ := hj2.did hd3
      exact retGI hA rfl [.v (.int .i64 e3)] g3 (⟨e3, rfl, by rw [q]; exact he3, by rw [q]; exact ⟨lab3, u1.trans (u2.trans u3), hj3⟩⟩) (by first | exact ⟨rfl, trivial⟩ | exact ⟨rfl, rfl, trivial⟩ | exact ⟨rfl, rfl, rfl, trivial⟩ | trivial)
theorem gAdd1 {gh : GH} {lab : Lab} {p : Nat} {k : Dk} {B jp : Nat} {file n : Int} (h : JD gh lab p k B jp file n) (b : Bs) (l : List V) (hl : l = bytesV b) (hB : B + b.length ≤ 1000000000) (hi : I64 file) : FnG Try.prog 39 [.ref [.gp jp 0], .ref [.slice l]] gh fun rs g => ∃ e : Int, rs = [.v (.int .i64 e)] ∧ e = (k.appD file b).2 ∧ JDid gh lab p (k.appD file b).1 (B + b.length) jp file n g := by
  have hj := h.j.at_
  unfold jBox at hj
  have ha := dAppend h.d file hi b l hl hB
  refine FnG.of' T_ok M_ok [] (fn := Try.f39) (by kernel_rfl) rfl rfl rfl rfl (Nat.le_of_ble_eq_true rfl) fun A hA => ?_
  cbv
  refine chkI hA (by kernel_rfl) ?_
  cbv
  refine gldI hA _ (hj) ?_
  cbv
  refine gldI hA _ (hj) ?_
  cbv
  refine callGI hA (ha) ?_
  intro rs_ g h_
  obtain ⟨e, q_1, he, hd⟩ := h_
  subst q_1
  cbv
  exact retGI hA rfl [.v (.int .i64 e)] g (⟨e, rfl, he, h.did hd⟩) (by first | exact ⟨rfl, trivial⟩ | exact ⟨rfl, rfl, trivial⟩ | exact ⟨rfl, rfl, rfl, trivial⟩ | trivial)
theorem gAdd2 {gh : GH} {lab : Lab} {p : Nat} {k : Dk} {B jp : Nat} {file n : Int} (h : JD gh lab p k B jp file n) (hB : B ≤ 1000000000) (hi : I64 file) : FnG Try.prog 40 [.ref [.gp jp 0]] gh fun rs g => ∃ e : Int, rs = [.v (.int .i64 e)] ∧ e = (k.syncD file).2 ∧ JDid gh lab p (k.syncD file).1 B jp file n g := by
  have hj := h.j.at_
  unfold jBox at hj
  have ha := dSync h.d hB file hi
  refine FnG.of' T_ok M_ok [] (fn := Try.f40) (by kernel_rfl) rfl rfl rfl rfl (Nat.le_of_ble_eq_true rfl) fun A hA => ?_
  cbv
  refine chkI hA (by kernel_rfl) ?_
  cbv
  refine gldI hA _ (hj) ?_
  cbv
  refine gldI hA _ (hj) ?_
  cbv
  refine callGI hA (ha) ?_
  intro rs_ g h_
  obtain ⟨e, q_1, he, hd⟩ := h_
  subst q_1
  cbv
  exact retGI hA rfl [.v (.int .i64 e)] g (⟨e, rfl, he, h.did hd⟩) (by first | exact ⟨rfl, trivial⟩ | exact ⟨rfl, rfl, trivial⟩ | exact ⟨rfl, rfl, rfl, trivial⟩ | trivial)
theorem gClear1 {gh : GH} {lab : Lab} {p : Nat} {k : Dk} {B jp : Nat} {file n : Int} (h : JD gh lab p k B jp file n) (hB : B ≤ 1000000000) : FnG Try.prog 52 [.ref [.gp jp 0]] gh fun rs g => ∃ e : Int, rs = [.v (.int .i64 e)] ∧ e = (k.unlD 1 jName).2 ∧ JDid gh lab p (k.unlD 1 jName).1 (B + 1) jp file n g := by
  have hj := h.j.at_
  unfold jBox at hj
  have ha := dUnl h.d hB 1 i64_1 jName
  refine FnG.of' T_ok M_ok [] (fn := Try.f52) (by kernel_rfl) rfl rfl rfl rfl (Nat.le_of_ble_eq_true rfl) fun A hA => ?_
  cbv
  refine gldI hA _ (hj) ?_
  cbv
  refine callGI hA (ha) ?_
  intro rs_ g h_
  obtain ⟨e, q_1, he, hd⟩ := h_
  subst q_1
  cbv
  exact retGI hA rfl [.v (.int .i64 e)] g (⟨e, rfl, he, h.did hd⟩) (by first | exact ⟨rfl, trivial⟩ | exact ⟨rfl, rfl, trivial⟩ | exact ⟨rfl, rfl, rfl, trivial⟩ | trivial)
theorem gClear2 {gh : GH} {lab : Lab} {p : Nat} {k : Dk} {B jp : Nat} {file n : Int} (h : JD gh lab p k B jp file n) (hB : B ≤ 1000000000) : FnG Try.prog 54 [.ref [.gp jp 0]] gh fun rs g => ∃ e : Int, rs = [.v (.int .i64 e)] ∧ e = (k.syncD 1).2 ∧ JDid gh lab p (k.syncD 1).1 B jp file n g := by
  have hj := h.j.at_
  unfold jBox at hj
  have ha := dSync h.d hB 1 i64_1
  refine FnG.of' T_ok M_ok [] (fn := Try.f54) (by kernel_rfl) rfl rfl rfl rfl (Nat.le_of_ble_eq_true rfl) fun A hA => ?_
  cbv
  refine gldI hA _ (hj) ?_
  cbv
  refine callGI hA (ha) ?_
  intro rs_ g h_
  obtain ⟨e, q_1, he, hd⟩ := h_
  subst q_1
  cbv
  exact retGI hA rfl [.v (.int .i64 e)] g (⟨e, rfl, he, h.did hd⟩) (by first | exact ⟨rfl, trivial⟩ | exact ⟨rfl, rfl, trivial⟩ | exact ⟨rfl, rfl, rfl, trivial⟩ | trivial)
end Go.Proofs.Ythioccbgjkbmdaa.AM

/-
  Contracts: a journal's Add.
-/
set_option linter.unusedVariables false
set_option linter.unusedSimpArgs false
namespace Go.Proofs.Ythioccbgjkbmdaa.AM
open Go Go.RowKit
set_option maxRecDepth 100000
set_option maxHeartbeats 4000000

/-- What Add does: the disk, the file, how many there are, the error. -/
def Dk.addD (k : Dk) (file n : Int) (a : RecM) : Dk × Int × Int × Int := if checkM a = false then (k, file, n, 2) else if 1024 < (putB a).length then (k, file, n, 5) else
  let r := k.beginD file
  if r.2.2 ≠ 0 then (r.1, r.2.1, n, r.2.2) else
  let s := r.1.appD r.2.1 (frameL n.toNat (putB a))
  if s.2 ≠ 0 then (s.1, r.2.1, n, s.2) else
  let t := s.1.syncD r.2.1
  (t.1, r.2.1, if t.2 = 0 then n + 1 else n, t.2)
theorem wu32 {A : Prim} {P : Program} {R : List (Nat × AObj) → List D → Prop} (hA : A = std P R) {n : Int} (hn : 0 ≤ n ∧ n ≤ 1000000) : A.wrap .u32 n = n := by
  subst hA
  show IntKind.u32.wrap n = n
  unfold IntKind.wrap
  show (if (false && decide (n % (2 ^ 32 : Int) ≥ (2 ^ 31 : Int))) = true then n % (2 ^ 32 : Int) - (2 ^ 32 : Int) else n % (2 ^ 32 : Int)) = n
  rw [Bool.false_and, if_neg (by decide)]
  omega
theorem frameL_lenJ (s : Nat) (b : Bs) : (frameL s b).length = b.length + 10 := by simp [frameL, lenTwo, fourB]
theorem makeD_i64 {k : Dk} {B : Nat} (h : PkOk k B) (i : Int) (s : Bs) (d : Bool) : I64 (k.makeD i s d).2.1 := by
  have := h.most
  have i0 : I64 0 := by unfold I64; omega
  unfold Dk.makeD; dsimp only
  split
  · exact i0
  · split
    · exact i0
    · split
      · exact i0
      · split
        · exact i0
        · split
          · exact i0
          · split
            · exact i0
            · dsimp only; split
              · unfold I64; omega
              · exact i0
theorem beginD_i64 {k : Dk} {B : Nat} (h : PkOk k B) {file : Int} (hf : I64 file) : I64 (k.beginD file).2.1 := by
  unfold Dk.beginD; dsimp only
  split
  · exact hf
  · split
    · exact hf
    · exact makeD_i64 h _ _ _
/-- What the three steps of Add leave. -/
def AddQ (gh : GH) (lab : Lab) (p : Nat) (k : Dk) (B jp : Nat) (file n : Int) (b : Bs) (e : Int) (g : GH) : Prop :=
  let r := k.beginD file
  let s := r.1.appD r.2.1 b
  let t := s.1.syncD r.2.1
  (e = r.2.2 ∧ e ≠ 0 ∧ JDid gh lab p r.1 B jp r.2.1 n g) ∨ (r.2.2 = 0 ∧ e = s.2 ∧ e ≠ 0 ∧ JDid gh lab p s.1 B jp r.2.1 n g) ∨ (r.2.2 = 0 ∧ s.2 = 0 ∧ e = t.2 ∧ JDid gh lab p t.1 B jp r.2.1 n g)
theorem addChain {gh : GH} {lab : Lab} {p : Nat} {k : Dk} {B jp : Nat} {file n : Int} (h : JD gh lab p k B jp file n) (hB : B + 2000 ≤ 1000000000) (hi : I64 file) {b : Bs} (hb : ¬ 1024 < b.length) (fr : List V) {m : Nat} (hfr : fr = bytesV (frameL m b)) : FnG Try.prog 35 [.slice [.mth 38 [.gp jp 0], .clo 39 [.ref [.gp jp 0], .ref [.slice fr]], .clo 40 [.ref [.gp jp 0]]]] gh fun rs g => ∃ e : Int, rs = [.v (.int .i64 e)] ∧ AddQ gh lab p k (B + 2000) jp file n (frameL m b) e g := by
  have hfl := frameL_lenJ m b
  have hi2 : I64 (k.beginD file).2.1 := beginD_i64 h.d.ok hi
  refine gChain [(true, 38, [.gp jp 0]), (false, 39, [.ref [.gp jp 0], .ref [.slice fr]]), (false, 40, [.ref [.gp jp 0]])] _ rfl (Nat.le_of_ble_eq_true rfl) _ ?_
  refine ⟨.inl ⟨_, rfl⟩, fun e g => e = (k.beginD file).2.2 ∧ JDid gh lab p (k.beginD file).1 (B + 1) jp (k.beginD file).2.1 n g, gBegin h (by omega), fun e g q h0 => .inl ⟨q.1, h0, q.2.mono (by omega)⟩, fun g ⟨q1, lab1, u1, hj1⟩ => ?_⟩
  refine ⟨.inr (.inl ⟨rfl, _, _, rfl⟩), fun e g => e = ((k.beginD file).1.appD (k.beginD file).2.1 (frameL m b)).2 ∧ JDid gh lab p ((k.beginD file).1.appD (k.beginD file).2.1 (frameL m b)).1 (B + 1 + (frameL m b).length) jp (k.beginD file).2.1 n g, (gAdd1 hj1 _ fr hfr (by omega) hi2).mono fun rs g2 ⟨e, r1, r2, lab2, u2, hj2⟩ => ⟨e, r1, r2, lab2, u1.trans u2, hj2⟩, fun e g q h0 => .inr (.inl ⟨q1.symm, q.1, h0, q.2.mono (by omega)⟩), fun g ⟨q2, lab2, u2, hj2⟩ => ?_⟩
  refine ⟨.inl ⟨_, rfl⟩, fun e g => e = (((k.beginD file).1.appD (k.beginD file).2.1 (frameL m b)).1.syncD (k.beginD file).2.1).2 ∧ JDid gh lab p (((k.beginD file).1.appD (k.beginD file).2.1 (frameL m b)).1.syncD (k.beginD file).2.1).1 (B + 1 + (frameL m b).length) jp (k.beginD file).2.1 n g, (gAdd2 hj2 (by omega) hi2).mono fun rs g2 ⟨e, r1, r2, lab3, u3, hj3⟩ => ⟨e, r1, r2, lab3, u2.trans u3, hj3⟩, fun e g q h0 => .inr (.inr ⟨q1.symm, q2.symm, q.1, q.2.mono (by omega)⟩), fun g q => .inr (.inr ⟨q1.symm, q2.symm, q.1, q.2.mono (by omega)⟩)⟩
theorem gAdd {gh : GH} {lab : Lab} {p : Nat} {k : Dk} {B jp : Nat} {file n : Int} (h : JD gh lab p k B jp file n) (hB : B + 2000 ≤ 1000000000) (hn : 0 ≤ n ∧ n ≤ 1000000) (hi : I64 file) (a : RecM) (l : List V) (ha : l = strsV a.path) (hr : RecOk a) : FnG Try.prog 11 [.gp jp 0, .agg [.int .u8 a.k, .slice l, .int .i64 a.sz, .int .u32 a.sm, .int .i64 a.mi, .int .i64 a.mo, .int .u32 a.si, .int .u32 a.so]] gh fun rs g => ∃ e : Int, rs = [.v (.int .i64 e)] ∧ e = (k.addD file n a).2.2.2 ∧ JDid gh lab p (k.addD file n a).1 (B + 2000) jp (k.addD file n a).2.1 (k.addD file n a).2.2.1 g := by
  have hj := h.j.at_
  unfold jBox at hj
  have hput := cPut a l ha hr
  have hpe : putE a = if checkM a then 0 else 2 := rfl
  obtain ⟨pb, hpb⟩ : ∃ b, b = putB a := ⟨_, rfl⟩
  have hfr : ∀ (fl : List V) (v : Int), v = n → fl = bytesV pb → _ := fun fl v hv hfl => cFrame v n.toNat pb fl (by omega) (by omega) hfl
  refine FnG.of' T_ok M_ok [] (fn := Try.f11) (by kernel_rfl) rfl rfl rfl rfl (Nat.le_of_ble_eq_true rfl) fun A hA => ?_
  cbv
  refine callI hA (hput) ?_
  intro rs_ h_
  obtain ⟨r, e, q_1, hrr, he⟩ := h_
  subst q_1
  cbv
  refine condI hA (fun h1 => ?_) (fun h1 => ?_)
  · have h1 := zneT hA h1
    have hc : checkM a = false := by
      cases q : checkM a with
      | false => rfl
      | true => rw [hpe, q] at he; exact absurd he h1
    have he : e = 2 := by rw [hpe, hc] at he; exact he
    have q : k.addD file n a = (k, file, n, 2) := by unfold Dk.addD; rw [if_pos hc]
    cbv
    exact retGI hA rfl [.v (.int .i64 e)] gh (⟨e, rfl, by rw [q]; exact he, by rw [q]; exact h.self (Nat.le_add_right _ _)⟩) (by first | exact ⟨rfl, trivial⟩ | exact ⟨rfl, rfl, trivial⟩ | exact ⟨rfl, rfl, rfl, trivial⟩ | trivial)
  · have h1 := zneF hA h1
    have hc : ¬ checkM a = false := fun q => by rw [hpe, q] at he; rw [he] at h1; cases h1
    cbv
    refine gldI hA _ (hj) ?_
    cbv
    refine callI hA ((hfr r _ (wu32 hA hn) (hrr.trans (by rw [hpb])))) ?_
    intro rs_ h_
    obtain ⟨fr, e2, q_1, hfl, he2⟩ := h_
    subst q_1
    cbv
    refine condI hA (fun h2 => ?_) (fun h2 => ?_)
    · have h2 := zneT hA h2
      have hb : 1024 < (putB a).length := Classical.byContradiction fun q => h2 (he2.trans (by unfold frameE; rw [hpb, if_neg q]))
      have q : k.addD file n a = (k, file, n, 5) := by unfold Dk.addD; rw [if_neg hc, if_pos hb]
      have he2 : e2 = 5 := he2.trans (by unfold frameE; rw [hpb, if_pos hb])
      cbv
      exact retGI hA rfl [.v (.int .i64 e2)] gh (⟨e2, rfl, by rw [q]; exact he2, by rw [q]; exact h.self (Nat.le_add_right _ _)⟩) (by first | exact ⟨rfl, trivial⟩ | exact ⟨rfl, rfl, trivial⟩ | exact ⟨rfl, rfl, rfl, trivial⟩ | trivial)
    · have h2 := zneF hA h2
      have hb : ¬ 1024 < (putB a).length := fun q => by rw [h2] at he2; unfold frameE at he2; rw [hpb, if_pos q] at he2; cases he2
      have hfl : fr = bytesV (frameL n.toNat (putB a)) := hfl.trans (by unfold frameB; rw [hpb, if_neg hb])
      have hch := addChain h hB hi hb fr hfl
      cbv
      refine callGI hA (hch) ?_
      intro rs_ g2 h_
      obtain ⟨e, q_1, hq⟩ := h_
      subst q_1
      cbv
      refine condI hA (fun h3 => ?_) (fun h3 => ?_)
      · have h3 : e = 0 := zeqT hA h3
        rcases hq with ⟨_, q, _⟩ | ⟨_, _, q, _⟩ | ⟨q1, q2, q3, lab2, u2, hj2⟩
        · exact absurd h3 q
        · exact absurd h3 q
        have q : k.addD file n a = ((((k.beginD file).1.appD (k.beginD file).2.1 (frameL n.toNat (putB a))).1.syncD (k.beginD file).2.1).1, (k.beginD file).2.1, n + 1, e) := by unfold Dk.addD; rw [if_neg hc, if_neg hb]; dsimp only; rw [if_neg (fun f => f q1), if_neg (fun f => f q2), ← q3, if_pos h3]
        have b2 := hj2.j.at_
        unfold jBox at b2
        have hw : w64 (n + 1) = n + 1 := w64_id (by omega)
        cbv
        refine gldI hA _ (b2) ?_
        cbv
        refine gstI hA _ b2 ?_
        intro g3 hg3
        obtain ⟨lab3, u3, hj3⟩ := hj2.put (n' := n + 1) (g := g3) (hg3.trans (congrArg (fun q => g2.set jp (jBox p _ q)) ((zadd hA n 1).trans hw)))
        cbv
        exact retGI hA rfl [.v (.int .i64 e)] g3 (⟨e, rfl, by rw [q], by rw [q]; exact ⟨lab3, u2.trans u3, hj3⟩⟩) (by first | exact ⟨rfl, trivial⟩ | exact ⟨rfl, rfl, trivial⟩ | exact ⟨rfl, rfl, rfl, trivial⟩ | trivial)
      · have h3 : e ≠ 0 := zeqF hA h3
        cbv
        rcases hq with ⟨q1, q2, q3⟩ | ⟨q1, q2, q3, q4⟩ | ⟨q1, q2, q3, q4⟩
        · have q : k.addD file n a = ((k.beginD file).1, (k.beginD file).2.1, n, e) := by unfold Dk.addD; rw [if_neg hc, if_neg hb]; dsimp only; rw [if_pos (q1 ▸ h3), q1]
          exact retGI hA rfl [.v (.int .i64 e)] g2 (⟨e, rfl, by rw [q], by rw [q]; exact q3⟩) (by first | exact ⟨rfl, trivial⟩ | exact ⟨rfl, rfl, trivial⟩ | exact ⟨rfl, rfl, rfl, trivial⟩ | trivial)
        · have q : k.addD file n a = (((k.beginD file).1.appD (k.beginD file).2.1 (frameL n.toNat (putB a))).1, (k.beginD file).2.1, n, e) := by unfold Dk.addD; rw [if_neg hc, if_neg hb]; dsimp only; rw [if_neg (fun f => f q1), if_pos (q2 ▸ h3), q2]
          exact retGI hA rfl [.v (.int .i64 e)] g2 (⟨e, rfl, by rw [q], by rw [q]; exact q4⟩) (by first | exact ⟨rfl, trivial⟩ | exact ⟨rfl, rfl, trivial⟩ | exact ⟨rfl, rfl, rfl, trivial⟩ | trivial)
        · have q : k.addD file n a = ((((k.beginD file).1.appD (k.beginD file).2.1 (frameL n.toNat (putB a))).1.syncD (k.beginD file).2.1).1, (k.beginD file).2.1, n, e) := by unfold Dk.addD; rw [if_neg hc, if_neg hb]; dsimp only; rw [if_neg (fun f => f q1), if_neg (fun f => f q2), ← q3, if_neg h3]
          exact retGI hA rfl [.v (.int .i64 e)] g2 (⟨e, rfl, by rw [q], by rw [q]; exact q4⟩) (by first | exact ⟨rfl, trivial⟩ | exact ⟨rfl, rfl, trivial⟩ | exact ⟨rfl, rfl, rfl, trivial⟩ | trivial)
def Dk.clearD (k : Dk) (file n : Int) : Dk × Int × Int × Int := if file = 0 then (k, file, n, 0) else
  let r := k.unlD 1 jName
  if r.2 ≠ 0 then (r.1, file, n, r.2) else
  let s := r.1.syncD 1
  (s.1, if s.2 = 0 then 0 else file, if s.2 = 0 then 0 else n, s.2)
theorem gClear {gh : GH} {lab : Lab} {p : Nat} {k : Dk} {B jp : Nat} {file n : Int} (h : JD gh lab p k B jp file n) (hB : B + 2 ≤ 1000000000) : FnG Try.prog 17 [.gp jp 0] gh fun rs g => ∃ e : Int, rs = [.v (.int .i64 e)] ∧ e = (k.clearD file n).2.2.2 ∧ JDid gh lab p (k.clearD file n).1 (B + 2) jp (k.clearD file n).2.1 (k.clearD file n).2.2.1 g := by
  have hj := h.j.at_
  unfold jBox at hj
  have hch := gChain [(false, 52, [.ref [.gp jp 0]]), (false, 54, [.ref [.gp jp 0]])] _ rfl (Nat.le_of_ble_eq_true rfl) (fun e g => (e = (k.unlD 1 jName).2 ∧ e ≠ 0 ∧ JDid gh lab p (k.unlD 1 jName).1 (B + 1) jp file n g) ∨ ((k.unlD 1 jName).2 = 0 ∧ e = ((k.unlD 1 jName).1.syncD 1).2 ∧ JDid gh lab p ((k.unlD 1 jName).1.syncD 1).1 (B + 1) jp file n g))
    ⟨.inl ⟨_, rfl⟩, fun e g => e = (k.unlD 1 jName).2 ∧ JDid gh lab p (k.unlD 1 jName).1 (B + 1) jp file n g, gClear1 h (by omega), fun e g q h0 => .inl ⟨q.1, h0, q.2⟩, fun g ⟨q1, lab1, u1, hj1⟩ =>
      ⟨.inl ⟨_, rfl⟩, fun e g => e = ((k.unlD 1 jName).1.syncD 1).2 ∧ JDid gh lab p ((k.unlD 1 jName).1.syncD 1).1 (B + 1) jp file n g, (gClear2 hj1 (by omega)).mono fun rs g2 ⟨e, r1, r2, r3⟩ => ⟨e, r1, r2, let ⟨lab2, u2, hj2⟩ := r3; ⟨lab2, u1.trans u2, hj2⟩⟩, fun e g q h0 => .inr ⟨q1.symm, q.1, q.2⟩, fun g q => .inr ⟨q1.symm, q.1, q.2⟩⟩⟩
  refine FnG.of' T_ok M_ok [] (fn := Try.f17) (by kernel_rfl) rfl rfl rfl rfl (Nat.le_of_ble_eq_true rfl) fun A hA => ?_
  cbv
  refine gldI hA _ (hj) ?_
  cbv
  refine condI hA (fun h1 => ?_) (fun h1 => ?_)
  · have h1 := zeqT hA h1
    have q : k.clearD file n = (k, file, n, 0) := by unfold Dk.clearD; rw [if_pos h1]
    cbv
    exact retGI hA rfl [.v (.int .i64 0)] gh (⟨0, rfl, by rw [q], by rw [q]; exact h.self (Nat.le_add_right _ _)⟩) (by first | exact ⟨rfl, trivial⟩ | exact ⟨rfl, rfl, trivial⟩ | exact ⟨rfl, rfl, rfl, trivial⟩ | trivial)
  · have h1 := zeqF hA h1
    cbv
    refine callGI hA (hch) ?_
    intro rs_ g2 h_
    obtain ⟨e, q_1, hq⟩ := h_
    subst q_1
    cbv
    refine condI hA (fun h2 => ?_) (fun h2 => ?_)
    · have h2 : e = 0 := zeqT hA h2
      rcases hq with ⟨_, q, _⟩ | ⟨q1, q2, lab2, u2, hj2⟩
      · exact absurd h2 q
      have q : k.clearD file n = (((k.unlD 1 jName).1.syncD 1).1, 0, 0, 0) := by unfold Dk.clearD; rw [if_neg h1]; dsimp only; rw [if_neg (fun f => f q1), ← q2, h2]; rfl
      have b2 := hj2.j.at_
      unfold jBox at b2
      cbv
      refine chkI hA (by kernel_rfl) ?_
      cbv
      refine gstI hA _ b2 ?_
      intro g3 hg3
      have b3 : g3.get jp = some (.box [.gp p 0, .int .i64 0, .int .i64 n]) := by rw [hg3]; simp; rfl
      cbv
      refine gstI hA _ b3 ?_
      intro g4 hg4
      obtain ⟨lab4, u4, hj4⟩ := hj2.put (file' := 0) (n' := 0) (g := g4) (by rw [hg4, hg3, set_set]; rfl)
      cbv
      exact retGI hA rfl [.v (.int .i64 e)] g4 (⟨e, rfl, by rw [q]; exact h2, by rw [q]; exact JDid.mono ⟨lab4, u2.trans u4, hj4⟩ (Nat.le_succ _)⟩) (by first | exact ⟨rfl, trivial⟩ | exact ⟨rfl, rfl, trivial⟩ | exact ⟨rfl, rfl, rfl, trivial⟩ | trivial)
    · have h2 : e ≠ 0 := zeqF hA h2
      cbv
      rcases hq with ⟨q1, q2, q3⟩ | ⟨q1, q2, q3⟩
      · have q : k.clearD file n = ((k.unlD 1 jName).1, file, n, e) := by unfold Dk.clearD; rw [if_neg h1]; dsimp only; rw [if_pos (q1 ▸ h2), q1]
        exact retGI hA rfl [.v (.int .i64 e)] g2 (⟨e, rfl, by rw [q], by rw [q]; exact q3.mono (Nat.le_succ _)⟩) (by first | exact ⟨rfl, trivial⟩ | exact ⟨rfl, rfl, trivial⟩ | exact ⟨rfl, rfl, rfl, trivial⟩ | trivial)
      · have q : k.clearD file n = (((k.unlD 1 jName).1.syncD 1).1, file, n, e) := by unfold Dk.clearD; rw [if_neg h1]; dsimp only; rw [if_neg (fun f => f q1), ← q2, if_neg h2, if_neg h2]
        exact retGI hA rfl [.v (.int .i64 e)] g2 (⟨e, rfl, by rw [q], by rw [q]; exact q3.mono (Nat.le_succ _)⟩) (by first | exact ⟨rfl, trivial⟩ | exact ⟨rfl, rfl, trivial⟩ | exact ⟨rfl, rfl, rfl, trivial⟩ | trivial)
end Go.Proofs.Ythioccbgjkbmdaa.AM

/-
  Contracts: a journal is opened.
-/
set_option linter.unusedVariables false
set_option linter.unusedSimpArgs false
namespace Go.Proofs.Ythioccbgjkbmdaa.AM
open Go Go.RowKit
set_option maxRecDepth 100000
set_option maxHeartbeats 4000000

/-- What Open does: the disk, the file and the records (none: there is no journal), the error. -/
def Dk.openD (k : Dk) : Dk × Option (Int × List RecM) × Int :=
  let f := k.findE 1 jName
  if f.2 = 8 then (k, some (0, []), 0) else if f.2 ≠ 0 then (k, none, f.2) else if k.ofE f.1 true = 0 then (k, none, 10) else
  let b := (k.readM f.1 0 (sizeM k f.1)).1
  let s := scanM 0 b
  if s.2 < b.length then
    let c := k.cutD f.1 s.2
    if c.2 ≠ 0 then (c.1, none, c.2) else
    let y := c.1.syncD f.1
    if y.2 ≠ 0 then (y.1, none, y.2) else (y.1, some (f.1, s.1), 0)
  else (k, some (f.1, s.1), 0)
theorem newBox {gh g : GH} {lab : Lab} {x : Nat} {o : GObj} (hd : Dom gh lab) (hx : x = gh.next) (hg : g = gh.new o) : Upd gh g lab lab (fun _ => False) (fun _ => False) ∧ Side g lab x o :=
  ⟨Upd.mk0 hd (by rw [hg]; simp) (fun y hy _ _ => by rw [hg]; simp only [GH.new_get]; rw [if_neg (by omega)]), by rw [hg, hx]; simp, hd x (by rw [hx]; exact Nat.le_refl _), by rw [hg, hx]; simp⟩
theorem findE_i64 {k : Dk} {B : Nat} (h : PkOk k B) {i : Int} {s : Bs} : I64 (k.findE i s).1 := by
  rcases Decidable.em ((k.findE i s).2 = 0) with q | q
  · obtain ⟨_, j0, j1, n0, n1, r1, r2, r3, r4, r5, r6⟩ := findE_ok h q
    have := h.most
    have := (List.getElem?_eq_some_iff.1 r5).1
    rw [r4]; unfold I64; omega
  · have : (k.findE i s).1 = 0 := by
      unfold Dk.findE at *
      split
      · rfl
      · rename_i q2
        rw [if_neg q2] at q
        split at q
        · split at q
          · exact absurd rfl q
          · rfl
        · rfl
    rw [this]; unfold I64; omega
theorem sizeM_i64 {k : Dk} {B : Nat} (h : PkOk k B) (hB : B ≤ 1000000000) (i : Int) : I64 (sizeM k i) := by
  unfold sizeM
  split
  · split
    · rename_i nd hnd
      unfold Dk.node? at hnd
      split at hnd
      · have h1 := h.sz nd (List.mem_of_getElem? hnd)
        have h2 := seen_len nd
        unfold I64; omega
      · cases hnd
    · unfold I64; omega
  · unfold I64; omega
theorem readM_len {k : Dk} {B : Nat} (h : PkOk k B) (i a n : Int) : (k.readM i a n).1.length ≤ B := by
  unfold Dk.readM
  split
  · simp
  · split
    · rename_i nd hnd
      split
      · simp
      · unfold Dk.node? at hnd
        split at hnd
        · have h1 := h.sz nd (List.mem_of_getElem? hnd)
          have h2 := seen_len nd
          simp only [List.length_take, List.length_drop]; omega
        · cases hnd
    · simp
theorem gOpen1 {gh : GH} {lab : Lab} {p : Nat} {k : Dk} {B : Nat} (h : DI gh lab p k B) (hB : B ≤ 1000000000) (i : Int) (hi : I64 i) (n : Int) : FnG Try.prog 31 [.ref [.gp p 0], .ref [.int .i64 i], .ref [.int .i64 n]] gh fun rs g => ∃ e : Int, rs = [.v (.int .i64 e)] ∧ e = (k.cutD i n).2 ∧ Did gh lab p (k.cutD i n).1 (B + 1) g := by
  have ha := dCut h hB i hi n
  refine FnG.of' T_ok M_ok [] (fn := Try.f31) (by kernel_rfl) rfl rfl rfl rfl (Nat.le_of_ble_eq_true rfl) fun A hA => ?_
  cbv
  refine callGI hA (ha) ?_
  intro rs_ g h_
  obtain ⟨e, q_1, hq⟩ := h_
  subst q_1
  cbv
  exact retGI hA rfl [.v (.int .i64 e)] g (⟨e, rfl, hq⟩) (by first | exact ⟨rfl, trivial⟩ | exact ⟨rfl, rfl, trivial⟩ | exact ⟨rfl, rfl, rfl, trivial⟩ | trivial)
theorem gOpen2 {gh : GH} {lab : Lab} {p : Nat} {k : Dk} {B : Nat} (h : DI gh lab p k B) (hB : B ≤ 1000000000) (i : Int) (hi : I64 i) : FnG Try.prog 33 [.ref [.gp p 0], .ref [.int .i64 i]] gh fun rs g => ∃ e : Int, rs = [.v (.int .i64 e)] ∧ e = (k.syncD i).2 ∧ Did gh lab p (k.syncD i).1 B g := by
  have ha := dSync h hB i hi
  refine FnG.of' T_ok M_ok [] (fn := Try.f33) (by kernel_rfl) rfl rfl rfl rfl (Nat.le_of_ble_eq_true rfl) fun A hA => ?_
  cbv
  refine callGI hA (ha) ?_
  intro rs_ g h_
  obtain ⟨e, q_1, hq⟩ := h_
  subst q_1
  cbv
  exact retGI hA rfl [.v (.int .i64 e)] g (⟨e, rfl, hq⟩) (by first | exact ⟨rfl, trivial⟩ | exact ⟨rfl, rfl, trivial⟩ | exact ⟨rfl, rfl, rfl, trivial⟩ | trivial)
theorem gOpen {gh : GH} {lab : Lab} {p : Nat} {k : Dk} {B : Nat} (h : DI gh lab p k B) (hB : B + 2 ≤ 1000000000) : FnG Try.prog 10 [.gp p 0] gh fun rs g => ∃ (x : V) (l : List V) (e : Int), rs = [.v x, .v (.slice l), .v (.int .i64 e)] ∧ e = k.openD.2.2 ∧ ∃ lab', Upd gh g lab lab' (fun _ => True) (fun _ => False) ∧ DI g lab' p k.openD.1 (B + 2) ∧ match k.openD.2.1 with
    | none => x = .nilp ∧ l = []
    | some (f, rs) => l = recsV rs ∧ ∃ jp, x = .gp jp 0 ∧ gh.next ≤ jp ∧ Side g lab' jp (jBox p f (rs.length : Nat)) := by
  have hfi := dFind h 1 i64_1 jName
  have hB0 : B ≤ 1000000000 := by omega
  have hB1 : B + 1 ≤ 1000000000 := by omega
  have nojr : k.openD.2.1 = none → ∀ (g : GH) (lab' : Lab) (e : Int), e = k.openD.2.2 → Upd gh g lab lab' (fun _ => True) (fun _ => False) → DI g lab' p k.openD.1 (B + 2) → ∃ (x : V) (l : List V) (e' : Int), [Rs.v .nilp, Rs.v (.slice []), Rs.v (.int .i64 e)] = [.v x, .v (.slice l), .v (.int .i64 e')] ∧ e' = k.openD.2.2 ∧ ∃ lab', Upd gh g lab lab' (fun _ => True) (fun _ => False) ∧ DI g lab' p k.openD.1 (B + 2) ∧ match k.openD.2.1 with
    | none => x = .nilp ∧ l = []
    | some (f, rs) => l = recsV rs ∧ ∃ jp, x = .gp jp 0 ∧ gh.next ≤ jp ∧ Side g lab' jp (jBox p f (rs.length : Nat)) := fun h0 g lab' e he u hd => ⟨.nilp, [], e, rfl, he, lab', u, hd, by rw [h0]; exact ⟨rfl, rfl⟩⟩
  have hu0 : Upd gh gh lab lab (fun _ => True) (fun _ => False) := Upd.refl h.i.at_.1 _ _
  refine FnG.of' T_ok M_ok [24, 65] (fn := Try.f10) (by kernel_rfl) rfl rfl rfl rfl (Nat.le_of_ble_eq_true rfl) fun A hA => ?_
  cbv
  refine callGI hA (hfi) ?_
  intro rs_ g_ h_
  obtain ⟨f, e, q_1, hf, he, q_2⟩ := h_
  subst q_1
  subst q_2
  cbv
  refine condI hA (fun h1 => ?_) (fun h1 => ?_)
  · have h1 : (k.findE 1 jName).2 = 8 := he ▸ zeqT hA h1
    have q : k.openD = (k, some (0, []), 0) := by unfold Dk.openD; dsimp only; rw [if_pos h1]
    cbv
    refine gbxN hA ?_
    intro g1 jp hjp hg1
    obtain ⟨u1, hs1⟩ := newBox h.i.at_.1 hjp hg1
    cbv
    exact retGI hA rfl [.v (.gp jp 0), .v (.slice []), .v (.int .i64 0)] g1 ⟨_, _, 0, rfl, by rw [q], lab, u1.weak (fun _ h => h.elim) (fun _ h => h.elim), by rw [q]; exact (h.upd u1 (fun _ h => h.elim)).mono (Nat.le_add_right _ _), by rw [q]; exact ⟨rfl, jp, rfl, Nat.le_of_eq hjp.symm, hs1⟩⟩ (by first | exact ⟨rfl, rfl, rfl, trivial⟩ | trivial)
  · have h1 : (k.findE 1 jName).2 ≠ 8 := he ▸ zeqF hA h1
    cbv
    refine condI hA (fun h2 => ?_) (fun h2 => ?_)
    · have h2 : (k.findE 1 jName).2 ≠ 0 := he ▸ zneT hA h2
      have q : k.openD = (k, none, (k.findE 1 jName).2) := by unfold Dk.openD; dsimp only; rw [if_neg h1, if_pos h2]
      cbv
      exact retGI hA rfl [.v .nilp, .v (.slice []), .v (.int .i64 e)] gh (nojr (by rw [q]) gh lab e (by rw [q]; exact he) hu0 (by rw [q]; exact h.mono (Nat.le_add_right _ _))) (by first | exact ⟨rfl, rfl, rfl, trivial⟩ | trivial)
    · have h2 : (k.findE 1 jName).2 = 0 := he ▸ zneF hA h2
      have hi : I64 f := hf ▸ findE_i64 h.ok
      have hid := gIsDir h.i f hi
      have hsz := gSize h.i f hi
      have hrd : ∀ n, I64 n → FnG _ _ _ _ _ := fun n hn => dRead h (by omega) f 0 n hi (by unfold I64; omega) hn
      cbv
      refine callGI hA (hid) ?_
      intro rs_ g_ h_
      obtain ⟨c, q_1, hc, q_2⟩ := h_
      subst q_1
      subst q_2
      cbv
      refine condI hA (fun h3 => ?_) (fun h3 => ?_)
      · have h3 : k.ofE (k.findE 1 jName).1 true = 0 := by rw [hc, hf] at h3; exact of_decide_eq_true h3
        have q : k.openD = (k, none, 10) := by unfold Dk.openD; dsimp only; rw [if_neg h1, if_neg (fun f => f h2), if_pos h3]
        cbv
        exact retGI hA rfl [.v .nilp, .v (.slice []), .v (.int .i64 10)] gh (nojr (by rw [q]) gh lab 10 (by rw [q]) hu0 (by rw [q]; exact h.mono (Nat.le_add_right _ _))) (by first | exact ⟨rfl, rfl, rfl, trivial⟩ | trivial)
      · have h3 : ¬ k.ofE (k.findE 1 jName).1 true = 0 := fun q => by rw [hc, hf, decide_eq_true q] at h3; cases h3
        obtain ⟨sz, hszz⟩ : ∃ sz, sz = sizeM k f := ⟨_, rfl⟩
        have hszi : I64 sz := hszz ▸ sizeM_i64 h.ok (by omega) f
        obtain ⟨rb, hrb⟩ : ∃ b, b = (k.readM f 0 sz).1 := ⟨_, rfl⟩
        obtain ⟨bl, hbl⟩ : ∃ b, b = bytesV (k.readM f 0 sz).1 := ⟨_, rfl⟩
        obtain ⟨e2, he2⟩ : ∃ e, e = (k.readM f 0 sz).2 := ⟨_, rfl⟩
        have hrl : rb.length ≤ B := hrb ▸ readM_len h.ok f 0 sz
        have hsc := cScan rb bl (hrb ▸ hbl) (by omega)
        cbv
        refine chkI hA (by kernel_rfl) ?_
        cbv
        refine callHI hA [.v (.int .i64 sz)] (hsz.mono fun rs g ⟨x, q1, q2, q3⟩ => ⟨by rw [q1, q2, hszz], q3.symm⟩) ?_
        cbv
        refine callHI hA [.v (.slice bl), .v (.int .i64 e2)] ((hrd sz hszi).mono fun rs g ⟨x, y, q1, q2, q3, q4⟩ => ⟨by rw [q1, q2, q3, hbl, he2], q4.symm⟩) ?_
        cbv
        refine callI hA (hsc) ?_
        intro rs_ h_
        obtain ⟨rl, gd, q_1, hrl2, hgd⟩ := h_
        subst q_1
        cbv
        have hbb : (k.readM (k.findE 1 jName).1 0 (sizeM k (k.findE 1 jName).1)).1 = rb := by rw [hrb, hszz, hf]
        have q0 : k.openD = if (scanM 0 rb).2 < rb.length then (if (k.cutD f (scanM 0 rb).2).2 ≠ 0 then ((k.cutD f (scanM 0 rb).2).1, none, (k.cutD f (scanM 0 rb).2).2) else if ((k.cutD f (scanM 0 rb).2).1.syncD f).2 ≠ 0 then (((k.cutD f (scanM 0 rb).2).1.syncD f).1, none, ((k.cutD f (scanM 0 rb).2).1.syncD f).2) else (((k.cutD f (scanM 0 rb).2).1.syncD f).1, some (f, (scanM 0 rb).1), 0)) else (k, some (f, (scanM 0 rb).1), 0) := by
          unfold Dk.openD; dsimp only; rw [if_neg h1, if_neg (fun f => f h2), if_neg h3, hbb, ← hf]
        have hjl : A.lenL rl = ((scanM 0 rb).1.length : Nat) := lenR hA hrl2
        refine condI hA (fun h4 => ?_) (fun h4 => ?_)
        · have h4 : (scanM 0 rb).2 < rb.length := by
            have h4 : gd < A.lenL bl := zltT hA h4
            rw [hgd, lenI hA (hrb ▸ hbl)] at h4; exact Int.ofNat_lt.1 h4
          rw [if_pos h4, ← natEq hgd] at q0
          have hch := gChain (gh := gh) [(false, 31, [.ref [.gp p 0], .ref [.int .i64 f], .ref [.int .i64 gd]]), (false, 33, [.ref [.gp p 0], .ref [.int .i64 f]])] _ rfl (Nat.le_of_ble_eq_true rfl) (fun e g => (e = (k.cutD f gd).2 ∧ e ≠ 0 ∧ Did gh lab p (k.cutD f gd).1 (B + 1) g) ∨ ((k.cutD f gd).2 = 0 ∧ e = ((k.cutD f gd).1.syncD f).2 ∧ Did gh lab p ((k.cutD f gd).1.syncD f).1 (B + 1) g))
            ⟨.inr (.inr ⟨rfl, _, _, _, rfl⟩), fun e g => e = (k.cutD f gd).2 ∧ Did gh lab p (k.cutD f gd).1 (B + 1) g, gOpen1 h hB0 f hi gd, fun e g q h0 => .inl ⟨q.1, h0, q.2⟩, fun g ⟨q1, lab1, u1, hd1⟩ =>
              ⟨.inr (.inl ⟨rfl, _, _, rfl⟩), fun e g => e = ((k.cutD f gd).1.syncD f).2 ∧ Did gh lab p ((k.cutD f gd).1.syncD f).1 (B + 1) g, (gOpen2 hd1 hB1 f hi).mono fun rs g2 ⟨e, r1, r2, lab2, u2, hd2⟩ => ⟨e, r1, r2, lab2, u1.trans u2, hd2⟩, fun e g q h0 => .inr ⟨q1.symm, q.1, q.2⟩, fun g q => .inr ⟨q1.symm, q.1, q.2⟩⟩⟩
          cbv
          refine callGI hA (hch) ?_
          intro rs_ g2 h_
          obtain ⟨e3, q_1, hq⟩ := h_
          subst q_1
          cbv
          refine condI hA (fun h5 => ?_) (fun h5 => ?_)
          · have h5 := zneT hA h5
            cbv
            rcases hq with ⟨p1, p2, lab2, u2, hd2⟩ | ⟨p1, p2, lab2, u2, hd2⟩
            · have q : k.openD = ((k.cutD f gd).1, none, e3) := by rw [q0, if_pos (p1 ▸ p2), p1]
              exact retGI hA rfl [.v .nilp, .v (.slice []), .v (.int .i64 e3)] g2 (nojr (by rw [q]) g2 lab2 e3 (by rw [q]) u2 (by rw [q]; exact hd2.mono (Nat.le_succ _))) (by first | exact ⟨rfl, rfl, rfl, trivial⟩ | trivial)
            · have q : k.openD = (((k.cutD f gd).1.syncD f).1, none, e3) := by rw [q0, if_neg (fun f => f p1), if_pos (p2 ▸ h5), p2]
              exact retGI hA rfl [.v .nilp, .v (.slice []), .v (.int .i64 e3)] g2 (nojr (by rw [q]) g2 lab2 e3 (by rw [q]) u2 (by rw [q]; exact hd2.mono (Nat.le_succ _))) (by first | exact ⟨rfl, rfl, rfl, trivial⟩ | trivial)
          · have h5 := zneF hA h5
            rcases hq with ⟨p1, p2, _⟩ | ⟨p1, p2, lab2, u2, hd2⟩
            · exact absurd h5 p2
            have q : k.openD = (((k.cutD f gd).1.syncD f).1, some (f, (scanM 0 rb).1), 0) := by rw [q0, if_neg (fun f => f p1), if_neg (by rw [← p2, h5]; simp)]
            cbv
            refine gbxN hA ?_
            intro g3 jp hjp hg3
            obtain ⟨u3, hs3⟩ := newBox hd2.i.at_.1 hjp hg3
            have hs3 : Side g3 lab2 jp (jBox p f ((scanM 0 rb).1.length : Nat)) := by rw [← natEq hjl]; exact hs3
            cbv
            exact retGI hA rfl [.v (.gp jp 0), .v (.slice rl), .v (.int .i64 0)] g3 ⟨_, _, 0, rfl, by rw [q], lab2, u2.trans (u3.weak (fun _ h => h.elim) (fun _ h => h.elim)), by rw [q]; exact (hd2.upd u3 (fun _ h => h.elim)).mono (Nat.le_succ _), by rw [q]; exact ⟨hrl2, jp, rfl, by rw [hjp]; exact u2.next, hs3⟩⟩ (by first | exact ⟨rfl, rfl, rfl, trivial⟩ | trivial)
        · have h4 : ¬ (scanM 0 rb).2 < rb.length := by
            have h4 : ¬ gd < A.lenL bl := zltF hA h4
            rw [hgd, lenI hA (hrb ▸ hbl)] at h4; exact fun q => h4 (Int.ofNat_lt.2 q)
          have q : k.openD = (k, some (f, (scanM 0 rb).1), 0) := by rw [q0, if_neg h4]
          cbv
          refine gbxN hA ?_
          intro g3 jp hjp hg3
          obtain ⟨u3, hs3⟩ := newBox h.i.at_.1 hjp hg3
          have hs3 : Side g3 lab jp (jBox p f ((scanM 0 rb).1.length : Nat)) := by rw [← natEq hjl]; exact hs3
          cbv
          exact retGI hA rfl [.v (.gp jp 0), .v (.slice rl), .v (.int .i64 0)] g3 ⟨_, _, 0, rfl, by rw [q], lab, u3.weak (fun _ h => h.elim) (fun _ h => h.elim), by rw [q]; exact (h.upd u3 (fun _ h => h.elim)).mono (Nat.le_add_right _ _), by rw [q]; exact ⟨hrl2, jp, rfl, Nat.le_of_eq hjp.symm, hs3⟩⟩ (by first | exact ⟨rfl, rfl, rfl, trivial⟩ | trivial)
end Go.Proofs.Ythioccbgjkbmdaa.AM
