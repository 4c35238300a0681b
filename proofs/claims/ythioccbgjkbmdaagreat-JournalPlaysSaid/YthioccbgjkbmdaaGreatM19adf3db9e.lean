/-
 Contracts: the reference's put.
-/
import Derived.Test.YthioccbgjkbmdaaGreatM18319a4844
import Derived.Test.YthioccbgjkbmdaaGreatM176157ca52
import Derived.Shelf.SlMaps.Clone
set_option linter.unusedVariables false
set_option linter.unusedSimpArgs false
set_option maxRecDepth 100000
set_option maxHeartbeats 4000000
namespace Go.Proofs.YthioccbgjkbmdaaGreat.AM
open Go Go.RowKit
theorem cPut12 (a : RecM) (l : List V) (ha : l = strsV a.path) (hr : RecOk a) : CallR Tryz.prog 82 [.agg [.int .u8 a.k, .slice l, .int .i64 a.sz, .int .u32 a.sm, .int .i64 a.mi, .int .i64 a.mo, .int .u32 a.si, .int .u32 a.so]] fun rs => ∃ (r : List V) (e : Int), rs = [.v (.slice r), .v (.int .i64 e)] ∧ r = bytesV (putB a) ∧ e = putE a := by
 obtain ⟨r, hrr⟩ : ∃ r, r = bytesV (putB a) := ⟨_, rfl⟩
 obtain ⟨e, he⟩ : ∃ e, e = putE a := ⟨_, rfl⟩
 refine .of [.v (.slice r), .v (.int .i64 e)] ⟨r, e, rfl, hrr, he⟩ ?_
 obtain ⟨a0, hae⟩ : ∃ a0, a0 = a := ⟨_, rfl⟩
 obtain ⟨k, p, sz, sm, mi, mo, si, so⟩ := a
 dsimp only at ha
 refine FnR.of' T_ok M_ok (fn := Tryz.f82) (by kernel_rfl) rfl rfl rfl rfl (Nat.le_of_ble_eq_true rfl) fun A hA => ?_
 cbv
 refine callI hA (cCheck12 ⟨k, p, sz, sm, mi, mo, si, so⟩ l ha) ?_
 intro rs_ h_
 obtain ⟨e1, q_1, he1⟩ := h_
 subst q_1
 cbv
 rw [← hae] at he1 hr hrr he
 refine condI hA (fun h1 => ?_) (fun h1 => ?_)
 ·have h1 := ine_err hA h1
  have hck : checkM a0 = false := by
   cases hq : checkM a0 with
   | false => rfl
   | true => rw [hq] at he1; exact absurd he1 h1
  cbv
  refine retI hA ?_
  refine ⟨congrArg (fun q => some (V.slice q)) ?_, congrArg (fun q => some (V.int .i64 q)) ?_, trivial⟩
  ·rw [hrr]; simp [putB, hck, bytesV]
  ·rw [he, he1]; simp [putE, errM, hck]
 ·have h1 := ine_ok hA h1
  have hck : checkM a0 = true := by
   cases hq : checkM a0 with
   | true => rfl
   | false => rw [hq, h1] at he1; cases he1
  obtain ⟨g1, g2, g3, g4, g5⟩ := check_rng hck
  have hpp := pack_path hck
  have hap : a0.path = p := by rw [hae]
  have hak : a0.k = k := by rw [hae]
  have hsz : a0.sz = sz := by rw [hae]
  have hsm : a0.sm = sm := by rw [hae]
  have hmi : a0.mi = mi := by rw [hae]
  have hmo : a0.mo = mo := by rw [hae]
  have hsi : a0.si = si := by rw [hae]
  have hso : a0.so = so := by rw [hae]
  cbv
  refine callI hA (cTexts12 p l ha (by rw [← hap]; omega) (by rw [← hap]; exact hr.ps)) ?_
  intro rs_ h_
  obtain ⟨t, e2, q_1, ht, he2⟩ := h_
  subst q_1
  cbv
  rw [← hap] at ht he2
  rw [hpp.1] at ht
  refine chkI hA (by kernel_rfl) ?_
  cbv
  obtain ⟨k0, k1, sm0, sm1, si0, si1, so0, so1, pl, ps⟩ := hr
  rw [hak] at k0 k1
  rw [hsm] at sm0 sm1
  rw [hsi] at si0 si1
  rw [hso] at so0 so1
  rw [hsz] at g1
  rw [hmi] at g2
  rw [hmo] at g3
  refine callI hA (cNum12 (A.wrap .u64 k) k.toNat (wrapK hA (by omega) (by omega)) (by omega)) ?_
  intro rs_ h_
  obtain ⟨b1, q_1, hb1⟩ := h_
  subst q_1
  cbv
  refine callI hA (cNum12 (A.wrap .u64 sz) sz.toNat (wrapK hA (by omega) (by omega)) (by omega)) ?_
  intro rs_ h_
  obtain ⟨b2, q_1, hb2⟩ := h_
  subst q_1
  cbv
  refine callI hA (cNum12 (A.wrap .u64 sm) sm.toNat (wrapK hA (by omega) (by omega)) (by omega)) ?_
  intro rs_ h_
  obtain ⟨b3, q_1, hb3⟩ := h_
  subst q_1
  cbv
  refine callI hA (cNum12 (A.wrap .u64 mi) mi.toNat (wrapK hA (by omega) (by omega)) (by omega)) ?_
  intro rs_ h_
  obtain ⟨b4, q_1, hb4⟩ := h_
  subst q_1
  cbv
  refine callI hA (cNum12 (A.wrap .u64 mo) mo.toNat (wrapK hA (by omega) (by omega)) (by omega)) ?_
  intro rs_ h_
  obtain ⟨b5, q_1, hb5⟩ := h_
  subst q_1
  cbv
  refine callI hA (cNum12 (A.wrap .u64 si) si.toNat (wrapK hA (by omega) (by omega)) (by omega)) ?_
  intro rs_ h_
  obtain ⟨b6, q_1, hb6⟩ := h_
  subst q_1
  cbv
  refine callI hA (cNum12 (A.wrap .u64 so) so.toNat (wrapK hA (by omega) (by omega)) (by omega)) ?_
  intro rs_ h_
  obtain ⟨b7, q_1, hb7⟩ := h_
  subst q_1
  cbv
  have hx : [V.slice b1, V.slice t, V.slice b2, V.slice b3, V.slice b4, V.slice b5, V.slice b6, V.slice b7] = listsV (fieldsM a0) := by
   rw [hb1, ht, hb2, hb3, hb4, hb5, hb6, hb7, hae]; rfl
  refine callI hA (cPack12 (fieldsM a0) _ hx (by simp [fieldsM, numsOf])) ?_
  intro rs_ h_
  obtain ⟨r2, e3, q_1, hr2, he3⟩ := h_
  subst q_1
  cbv
  have hr : RecOk a0 := ⟨hak ▸ k0, hak ▸ k1, hsm ▸ sm0, hsm ▸ sm1, hsi ▸ si0, hsi ▸ si1, hso ▸ so0, hso ▸ so1, pl, ps⟩
  have hpf := pack_fields hr hck
  rw [hpf.1] at hr2
  rw [hpf.2] at he3
  refine retI hA ?_
  exact ⟨congrArg (fun q => some (V.slice q)) (hr2.trans hrr.symm), congrArg (fun q => some (V.int .i64 q)) (he3.trans he.symm), trivial⟩
open Go Go.RowKit
theorem bits_or_i64_nat (a b : Nat) (ha : a < 4294967296) (hb : b < 4294967296) : bits .or .i64 (a : Int) (b : Int) = ((a ||| b : Nat) : Int) := by
 have hx : a ||| b < 2 ^ 32 := Nat.or_lt_two_pow (by omega) (by omega)
 have h1 : (BitVec.ofInt 64 (a : Int)).toNat = a := by
  rw [BitVec.ofInt_natCast, BitVec.toNat_ofNat]; exact Nat.mod_eq_of_lt (by omega)
 have h2 : (BitVec.ofInt 64 (b : Int)).toNat = b := by
  rw [BitVec.ofInt_natCast, BitVec.toNat_ofNat]; exact Nat.mod_eq_of_lt (by omega)
 show IntKind.i64.wrap ((BitVec.ofInt 64 (a : Int) ||| BitVec.ofInt 64 (b : Int)).toNat : Int) = _
 rw [BitVec.toNat_or, h1, h2]
 exact wrap_i64 (by omega) (by omega)
theorem or_256 (a b : Nat) (hb : b < 256) : a * 256 ||| b = a * 256 + b := by
 have := Nat.shiftLeft_add_eq_or_of_lt (i := 8) (b := b) (by simpa using hb) a
 rw [Nat.shiftLeft_eq] at this
 exact this.symm
def unpackM : List UInt8 → Option (List (List UInt8))
 | [] => some []
 | [_] => none
 | x :: y :: r => if 1024 < x.toNat * 256 + y.toNat ∨ r.length < x.toNat * 256 + y.toNat then none else match unpackM (r.drop (x.toNat * 256 + y.toNat)) with
  | some fs => some (r.take (x.toNat * 256 + y.toNat) :: fs)
  | none => none
termination_by b => b.length
decreasing_by simp only [List.length_drop, List.length_cons]; omega
def unpackL (b : List UInt8) : List (List UInt8) := match unpackM b with
 | some fs => fs
 | none => []
def unpackE (b : List UInt8) : Int := match unpackM b with
 | some _ => 0
 | none => 4
def upTo (a : List (List UInt8)) : Option (List (List UInt8)) → Option (List (List UInt8))
 | some fs => some (a ++ fs)
 | none => none
theorem cClone (l : List V) (hs : ∀ x ∈ l, x.flat.length = 1) (hl : l.length ≤ 140737488355328) : CallR Tryz.prog 65 [.slice l] fun rs => rs = [.v (.slice l)] := by
 refine .of _ rfl ?_
 refine FnR.of' T_ok M_ok (fn := Tryz.f65) (by kernel_rfl) rfl rfl rfl rfl (Nat.le_of_ble_eq_true rfl) fun A hA => ?_
 cbv
 by_cases h : l = []
 ·subst h
  refine nilqU hA ?_
  cbv
  constructor
  ·refine retI hA ?_
   exact ⟨rfl, trivial⟩
  ·refine sizedI hA (by simp) ?_
   cbv
   refine roomI hA (by simp) ?_
   cbv
   refine retI hA ?_
   exact ⟨congrArg (fun q => some (V.slice q)) (by rw [hA]; rfl), trivial⟩
 ·refine nilqI hA h ?_
  cbv
  refine sizedI hA hs ?_
  cbv
  refine roomI hA (by simpa using hl) ?_
  cbv
  refine retI hA ?_
  exact ⟨congrArg (fun q => some (V.slice q)) (by rw [hA]; rfl), trivial⟩
theorem unpackM_cons (x y : UInt8) (r : List UInt8) : unpackM (x :: y :: r) = if 1024 < x.toNat * 256 + y.toNat ∨ r.length < x.toNat * 256 + y.toNat then none else match unpackM (r.drop (x.toNat * 256 + y.toNat)) with
  | some fs => some (r.take (x.toNat * 256 + y.toNat) :: fs)
  | none => none := by rw [unpackM]
theorem unpackM_short {b : List UInt8} (h0 : 0 < b.length) (h : b.length < 2) : unpackM b = none := by
 match b, h0, h with
 | [_], _, _ => rw [unpackM]
theorem bGtT {A : Prim} {P : Program} {R : List (Nat × AObj) → List D → Prop} (hA : A = std P R) {f : List V} {b : List UInt8} {n : Int} {m : Nat} (hf : f = bytesV b) (hn : n = m) (h : A.ilt n (A.lenL f) = true) : m < b.length := by
 have := ltT hA h; rw [hA, hn] at this; simp only [std] at this; rw [hf, bytesV_len] at this; omega
theorem bGtF {A : Prim} {P : Program} {R : List (Nat × AObj) → List D → Prop} (hA : A = std P R) {f : List V} {b : List UInt8} {n : Int} {m : Nat} (hf : f = bytesV b) (hn : n = m) (h : A.ilt n (A.lenL f) = false) : ¬ m < b.length := by
 have := ltF hA h; rw [hA, hn] at this; simp only [std] at this; rw [hf, bytesV_len] at this; omega
theorem bLtT {A : Prim} {P : Program} {R : List (Nat × AObj) → List D → Prop} (hA : A = std P R) {f : List V} {b : List UInt8} {n : Int} {m : Nat} (hf : f = bytesV b) (hn : n = m) (h : A.ilt (A.lenL f) n = true) : b.length < m := by
 have := ltT hA h; rw [hA, hn] at this; simp only [std] at this; rw [hf, bytesV_len] at this; omega
theorem bLtF {A : Prim} {P : Program} {R : List (Nat × AObj) → List D → Prop} (hA : A = std P R) {f : List V} {b : List UInt8} {n : Int} {m : Nat} (hf : f = bytesV b) (hn : n = m) (h : A.ilt (A.lenL f) n = false) : ¬ b.length < m := by
 have := ltF hA h; rw [hA, hn] at this; simp only [std] at this; rw [hf, bytesV_len] at this; omega
theorem bLeT {A : Prim} {P : Program} {R : List (Nat × AObj) → List D → Prop} (hA : A = std P R) {f : List V} {b : List UInt8} {n : Int} {m : Nat} (hf : f = bytesV b) (hn : n = m) (h : A.ile n (A.lenL f) = true) : m ≤ b.length := by
 have := leT hA h; rw [hA, hn] at this; simp only [std] at this; rw [hf, bytesV_len] at this; omega
theorem bLeF {A : Prim} {P : Program} {R : List (Nat × AObj) → List D → Prop} (hA : A = std P R) {f : List V} {b : List UInt8} {n : Int} {m : Nat} (hf : f = bytesV b) (hn : n = m) (h : A.ile n (A.lenL f) = false) : ¬ m ≤ b.length := by
 have := leF hA h; rw [hA, hn] at this; simp only [std] at this; rw [hf, bytesV_len] at this; omega
theorem nGtT {A : Prim} {P : Program} {R : List (Nat × AObj) → List D → Prop} (hA : A = std P R) {k n : Int} {c m : Nat} (hk : k = c) (hn : n = m) (h : A.ilt k n = true) : c < m := by
 have := ltT hA h; rw [hk, hn] at this; omega
theorem nGtF {A : Prim} {P : Program} {R : List (Nat × AObj) → List D → Prop} (hA : A = std P R) {k n : Int} {c m : Nat} (hk : k = c) (hn : n = m) (h : A.ilt k n = false) : ¬ c < m := by
 have := ltF hA h; rw [hk, hn] at this; omega
theorem sub_of {lo hi : Int} {a c : Nat} {l : List V} {b : List UInt8} (hlo : lo = a) (hhi : hi = c) (hl : l = bytesV b) (h1 : a ≤ c) (h2 : c ≤ b.length) : 0 ≤ lo ∧ lo ≤ hi ∧ hi ≤ l.length := by
 subst hlo hhi hl; rw [bytesV_len]; omega
theorem lenI {A : Prim} {P : Program} {R : List (Nat × AObj) → List D → Prop} (hA : A = std P R) {f : List V} {b : List UInt8} (hf : f = bytesV b) : A.lenL f = (b.length : Nat) := by
 rw [hA]; simp only [std]; rw [hf, bytesV_len]
theorem shl8 {A : Prim} {P : Program} {R : List (Nat × AObj) → List D → Prop} (hA : A = std P R) {n : Int} {m : Nat} (hn : n = m) (hm : m < 256) : A.shl .i64 (A.wrap .i64 n) 8 = ((m * 256 : Nat) : Int) := by
 rw [hA, hn]; simp only [std]
 have e1 : IntKind.i64.wrap (m : Int) = (m : Int) := wrap_i64 (by omega) (by omega)
 have e2 : (2 : Int) ^ (min (Int.toNat 8) IntKind.i64.bits) = 256 := by decide
 rw [e1, e2, show (m : Int) * 256 = ((m * 256 : Nat) : Int) from by simp]
 exact wrap_i64 (by omega) (by omega)
theorem len16 {A : Prim} {P : Program} {R : List (Nat × AObj) → List D → Prop} (hA : A = std P R) {n m : Int} {x y : Nat} (hn : n = x) (hm : m = y) (hx : x < 256) (hy : y < 256) : A.bits .or .i64 (A.shl .i64 (A.wrap .i64 n) 8) (A.wrap .i64 m) = ((x * 256 + y : Nat) : Int) := by
 rw [shl8 hA hn hx, hA, hm]; simp only [std]
 rw [wrap_i64 (by omega) (by omega), bits_or_i64_nat _ _ (by omega) (by omega), or_256 _ _ hy]
theorem cUnpack (b : List UInt8) (l : List V) (hl : l = bytesV b) (hb : b.length ≤ 4000000000) : CallR Tryz.prog 115 [.slice l] fun rs => ∃ (r : List V) (e : Int), rs = [.v (.slice r), .v (.int .i64 e)] ∧ r = listsV (unpackL b) ∧ e = unpackE b := by
 obtain ⟨r, hr⟩ : ∃ r, r = listsV (unpackL b) := ⟨_, rfl⟩
 obtain ⟨e, he⟩ : ∃ e, e = unpackE b := ⟨_, rfl⟩
 refine .of [.v (.slice r), .v (.int .i64 e)] ⟨r, e, rfl, hr, he⟩ ?_
 refine FnR.of' T_ok M_ok (fn := Tryz.f115) (by kernel_rfl) rfl rfl rfl rfl (Nat.le_of_ble_eq_true rfl) fun A hA => ?_
 cbv
 refine loopF hA (ι := List V × List V) (fun p => { n := 43, sl := [(0, .v (.slice p.1)), (4, .own 35)], ob := [(35, .row 1 p.2 true)] })
  (fun p => ∃ (b' : List UInt8) (a : List (List UInt8)), p.1 = bytesV b' ∧ p.2 = listsV a ∧ a.length + b'.length ≤ 4000000000 ∧ unpackM b = upTo a (unpackM b')) (fun p => p.1.length) (_, _) ((weak_nils _ 4 35 1 true rfl).trans (weakI rfl ⟨rfl, rfl, trivial⟩ ⟨rfl, trivial⟩)) ⟨b, [], hl, rfl, by simpa using hb, by unfold upTo; cases unpackM b <;> simp⟩ ?_
 rintro ⟨y, x⟩ ⟨b', a, hy, hx, hab, hu⟩
 dsimp only at hy hx
 have bad : unpackM b' = none → ([] : List V) = r ∧ (4 : Int) = e := fun h => by
  rw [h] at hu
  rw [hr, he]
  simp [unpackL, unpackE, hu, upTo, listsV]
 cbv
 refine condI hA (fun hc => ?_) (fun hc => ?_)
 ·have h2 := bLeT hA (m := 2) hy rfl hc
  match b', h2, hy, hab, hu, bad with
  | c :: d :: t, _, hy, hab, hu, bad =>
  rw [unpackM_cons] at hu bad
  obtain ⟨n, hn⟩ : ∃ n : Nat, n = c.toNat * 256 + d.toNat := ⟨_, rfl⟩
  rw [← hn] at hu bad
  have hc8 : c.toNat < 256 := c.toNat_lt
  have hd8 : d.toNat < 256 := d.toNat_lt
  cbv
  refine chkI hA (by kernel_rfl) ?_
  cbv
  refine getBN hA hy (j := 0) rfl (by simp) ?_
  rintro v0 hv0
  cbv
  refine nnegI hA (by decide) ?_
  cbv
  refine getBN hA hy (j := 1) rfl (by simp) ?_
  rintro v1 hv1
  cbv
  have hn16 : A.bits .or .i64 (A.shl .i64 (A.wrap .i64 v0) 8) (A.wrap .i64 v1) = ((n : Nat) : Int) := by
   rw [hn]; exact len16 hA hv0 hv1 hc8 hd8
  obtain ⟨m, hm⟩ : ∃ m : Int, m = A.bits .or .i64 (A.shl .i64 (A.wrap .i64 v0) 8) (A.wrap .i64 v1) := ⟨_, rfl⟩
  have hmn : m = (n : Int) := hm.trans hn16
  refine sizedI hA (bytesV_flat hy) ?_
  cbv
  refine subLN hA (sub_of (a := 2) rfl (lenI hA hy) hy (by simp) (by simp)) ?_
  rintro y2 hy2
  have hy2 : y2 = bytesV t := cutFrom (k := 2) rfl hy (lenI hA hy) hy2
  cbv
  refine condI hA (fun g1 => ?_) (fun g1 => ?_)
  ·have g1 : 1024 < n := nGtT hA (c := 1024) rfl hn16 g1
   have q := bad (if_pos (.inl g1))
   cbv
   refine retI hA ?_
   exact ⟨congrArg (fun q => some (V.slice q)) q.1, congrArg (fun q => some (V.int .i64 q)) q.2, trivial⟩
  ·have g1 : ¬ 1024 < n := nGtF hA (c := 1024) rfl hn16 g1
   cbv
   refine condI hA (fun g2 => ?_) (fun g2 => ?_)
   ·have g2 := bLtT hA hy2 hn16 g2
    have q := bad (if_pos (.inr g2))
    cbv
    refine retI hA ?_
    exact ⟨congrArg (fun q => some (V.slice q)) q.1, congrArg (fun q => some (V.int .i64 q)) q.2, trivial⟩
   ·have g2 := bLtF hA hy2 hn16 g2
    cbv
    refine sizedI hA (bytesV_flat hy2) ?_
    cbv
    refine subLN hA (sub_of (a := 0) rfl hn16 hy2 (by omega) (by omega)) ?_
    rintro z hz
    have hz : z = bytesV (t.take n) := cutTo hn16 hy2 hz
    cbv
    refine callI hA (cClone z (bytesV_flat hz) (by rw [hz, bytesV_len, List.length_take]; simp at hab; omega)) ?_
    intro rs_ h_
    subst h_
    cbv
    have hz1 : [V.slice z] = listsV [t.take n] := by rw [hz]; rfl
    refine roomI hA (by rw [hx, listsV_len]; simp; simp at hab; omega) ?_
    cbv
    refine sizedI hA (bytesV_flat hy2) ?_
    cbv
    refine subLN hA (sub_of hn16 (lenI hA hy2) hy2 (by omega) (Nat.le_refl _)) ?_
    rintro y3 hy3
    have hy3 : y3 = bytesV (t.drop n) := cutFrom hn16 hy2 (lenI hA hy2) hy3
    rw [if_neg (by omega)] at hu
    refine ⟨(_, _), weakI rfl ⟨rfl, rfl, trivial⟩ ⟨rfl, trivial⟩, ⟨t.drop n, a ++ [t.take n], hy3, app_ls hA hx hz1, ?_, ?_⟩, ?_⟩
    ·simp at hab ⊢; omega
    ·rw [hu]
     cases unpackM (t.drop n) <;> simp [upTo]
    ·change y3.length < y.length
     rw [hy3, hy, bytesV_len, bytesV_len]; simp; omega
 ·have h2 := bLeF hA (m := 2) hy rfl hc
  cbv
  refine condI hA (fun g1 => ?_) (fun g1 => ?_)
  ·have g1 := bGtT hA (m := 0) hy rfl g1
   have q := bad (unpackM_short g1 (by omega))
   cbv
   refine retI hA ?_
   exact ⟨congrArg (fun q => some (V.slice q)) q.1, congrArg (fun q => some (V.int .i64 q)) q.2, trivial⟩
  ·have g1 := bGtF hA (m := 0) hy rfl g1
   have hb0 : b' = [] := List.length_eq_zero_iff.1 (by omega)
   rw [hb0, show unpackM [] = some [] from by rw [unpackM]] at hu
   cbv
   refine retI hA ?_
   refine ⟨congrArg (fun q => some (V.slice q)) ?_, congrArg (fun q => some (V.int .i64 q)) ?_, trivial⟩
   ·rw [hx, hr]; simp [unpackL, hu, upTo]
   ·rw [he]; simp [unpackE, hu, upTo]
open Go Go.RowKit
theorem gOps {gh : GH} {lab : Lab} {p : Nat} {k : Dk} (h : DkIn gh lab p k) : FnG Tryz.prog 13 [.gp p 0] gh fun rs g => rs = [.v (.int .i64 k.ops)] ∧ gh = g := by
 obtain ⟨⟨hd, hp, v, ids, hg, _⟩, _⟩ := h
 refine FnG.of' T_ok M_ok [] (fn := Tryz.f13) (by kernel_rfl) rfl rfl rfl rfl (Nat.le_of_ble_eq_true rfl) fun A hA => ?_
 cbv
 refine gldI hA _ (hg) ?_
 cbv
 exact retGI hA rfl [.v (.int .i64 k.ops)] gh (⟨rfl, rfl⟩)
theorem gDown {gh : GH} {lab : Lab} {p : Nat} {k : Dk} (h : DkIn gh lab p k) : FnG Tryz.prog 20 [.gp p 0] gh fun rs g => rs = [.v (.bool k.down)] ∧ gh = g := by
 obtain ⟨⟨hd, hp, v, ids, hg, _⟩, _⟩ := h
 refine FnG.of' T_ok M_ok [] (fn := Tryz.f20) (by kernel_rfl) rfl rfl rfl rfl (Nat.le_of_ble_eq_true rfl) fun A hA => ?_
 cbv
 refine gldI hA _ (hg) ?_
 cbv
 exact retGI hA rfl [.v (.bool k.down)] gh (⟨rfl, rfl⟩)
theorem gTell {gh : GH} {p o : Nat} {l : List V} {d : V} (hg : gh.get p = some (.box l)) (ho : o + 2 ≤ l.length) (n : Int) (i : Bool) (a : Int) (hi : l[o]? = some (.bool i)) (ha : l[o + 1]? = some (.int .i64 a)) : FnG Tryz.prog 70 [d, .gp p o, .int .i64 n] gh fun rs g => ∃ e : Int, rs = [.v (.int .i64 e)] ∧ e = (if n < 0 then 2 else 0) ∧ g = if n < 0 then gh else gh.set p (.box (l.take o ++ [.bool true, .int .i64 n] ++ l.drop (o + 2))) := by
 refine FnG.of' T_ok M_ok [] (fn := Tryz.f70) (by kernel_rfl) rfl rfl rfl rfl (Nat.le_of_ble_eq_true rfl) fun A hA => ?_
 cbv
 refine condI hA (fun h => ?_) (fun h => ?_)
 ·have h := zltT hA h
  cbv
  exact retGI hA rfl [.v (.int .i64 2)] gh (⟨_, rfl, by rw [if_pos h], by rw [if_pos h]⟩)
 ·have h := zltF hA h
  cbv
  refine gstI hA l hg ?_ (hle := ho)
  intro g hgg
  cbv
  exact retGI hA rfl [.v (.int .i64 0)] g (⟨_, rfl, by rw [if_neg h], by rw [if_neg h]; exact hgg⟩)
theorem set_at {l : List V} {o : Nat} {v : V} (h : o < l.length) : l.take o ++ v :: l.drop (o + 1) = l.set o v := by
 rw [List.set_eq_take_append_cons_drop, if_pos h]
theorem box_put {l : List V} {o : Nat} {v v' : V} (h : o < l.length) (e : v = v') : l.take o ++ [v] ++ l.drop (o + 1) = l.set o v' := by
 subst e; rw [List.append_assoc]; exact set_at h
theorem set_same {l : List V} {o : Nat} {v : V} (h : l[o]? = some v) : l.set o v = l := by
 obtain ⟨h1, rfl⟩ := List.getElem?_eq_some_iff.1 h
 exact List.set_getElem_self h1
theorem gNext {gh : GH} {p o : Nat} {l : List V} (t : Told) (hg : gh.get p = some (.box l)) (hi : l[o]? = some (.bool t.is)) (ha : l[o + 1]? = some (.int .i64 t.after)) : FnG Tryz.prog 73 [.gp p o] gh fun rs g => ∃ c : Bool, rs = [.v (.bool c)] ∧ c = t.hit ∧ g.next = gh.next ∧ (∀ x, x ≠ p → g.get x = gh.get x) ∧ g.get p = some (.box ((l.set o (.bool t.next.is)).set (o + 1) (.int .i64 t.next.after))) := by
 have hlen : o + 1 < l.length := (List.getElem?_eq_some_iff.1 ha).1
 obtain ⟨b, hb⟩ : ∃ b, b = t.is := ⟨_, rfl⟩
 obtain ⟨n, hn⟩ : ∃ n, n = t.after := ⟨_, rfl⟩
 have hi0 := hi
 have ha0 := ha
 rw [← hb] at hi
 rw [← hn] at ha
 refine FnG.of' T_ok M_ok [] (fn := Tryz.f73) (by kernel_rfl) rfl rfl rfl rfl (Nat.le_of_ble_eq_true rfl) fun A hA => ?_
 cbv
 refine gldI hA l hg ?_ (hv := hi)
 cbv
 refine condI hA (fun h => ?_) (fun h => ?_)
 ·have h : t.is = false := hb ▸ znotT hA h
  cbv
  exact retGI hA rfl [.v (.bool false)] gh (⟨_, rfl, by simp [Told.hit, h], rfl, fun _ _ => rfl, by rw [show t.next = t from by simp [Told.next, h], set_same hi0, set_same ha0]; exact hg⟩)
 ·have h : t.is = true := hb ▸ znotF hA h
  cbv
  refine gldI hA l hg ?_ (hv := ha)
  cbv
  refine condI hA (fun h2 => ?_) (fun h2 => ?_)
  ·have h2 : 0 < t.after := hn ▸ zltT hA h2
   cbv
   refine gldI hA l hg ?_ (hv := ha)
   cbv
   refine gstI hA l hg ?_ (hle := hlen)
   intro g hgg
   cbv
   exact retGI hA rfl [.v (.bool false)] g (⟨_, rfl, by simp [Told.hit, h, h2], by rw [hgg]; rfl, fun x hx => by rw [hgg]; simp [hx], by rw [hgg, show t.next = { t with after := w64 (t.after - 1) } from by simp [Told.next, h, h2]]; simp only [GH.set_get, if_true]; rw [set_same hi0]; exact congrArg (fun q => some (GObj.box q)) (box_put hlen (congrArg (V.int .i64) ((zsub hA n 1).trans (by rw [hn]))))⟩)
  ·have h2 : ¬ 0 < t.after := hn ▸ zltF hA h2
   cbv
   refine gstI hA l hg ?_ (hle := (show o + 1 ≤ l.length by omega))
   intro g hgg
   cbv
   exact retGI hA rfl [.v (.bool true)] g (⟨_, rfl, by simp [Told.hit, h, h2], by rw [hgg]; rfl, fun x hx => by rw [hgg]; simp [hx], by rw [hgg, show t.next = { t with is := false } from by simp [Told.next, h, h2]]; simp only [GH.set_get, if_true]; rw [set_same (l := l.set o _) (by rw [List.getElem?_set_ne (by omega)]; exact ha0)]; exact congrArg (fun q => some (GObj.box q)) (box_put (by omega) rfl)⟩)
open Go Go.RowKit
theorem zeroI64 : ∃ zv, (∀ w, (zeroValue 3).run Tryz.prog w = .ok zv w) ∧ ∀ (ok : Oks) (w : World), Rep ok w (.int .i64 0) zv :=
 ⟨.int .i64 0, fun w => by
  have h : (Tryz.prog.info? 3).map (·.zero) = some (some (.int .i64 0)) := by kernel_rfl
  obtain ⟨i, h1, h2⟩ := Option.map_eq_some_iff.1 h
  simp [zeroValue, typeInfo, program, Sem.run, h1, h2], fun _ _ => .int _ _⟩
theorem uMap : Tryz.prog.underlying 103 = some (.map 9 3) := by kernel_rfl
theorem uStr : Tryz.prog.underlying 9 = some .string := by kernel_rfl
theorem glookN {A : Prim} {R : List (Nat × AObj) → List D → Prop} (hA : A = std Tryz.prog R) {m x : Operand} {gh : GH} {id clock : Nat} {t : List (Nat × Bs × Nat)} {k : Bs} {r : V} {K : V → Prop} {en : List (Bs × Nat)} (hg : gh.get id = some (.map (encE t) clock)) (hok : MpOk t clock en) (hr : (match enGet en k with
   | some i => V.tup [.int .i64 i, .bool true]
   | none => .tup [.int .i64 0, .bool false]) = r) (hK : K r) : A.gq (.lookup 103 m x true) [.gm id, .str k] gh K :=
 glookI hA hg (strKeys_enc t) ((congrArg K ((look_enc hok k (.int .i64 0)).trans hr)).mpr hK) uMap uStr zeroI64
theorem gFind {gh : GH} {lab : Lab} {p : Nat} {k : Dk} (h : DkIn gh lab p k) (i : Int) (hi : I64 i) (s : Bs) : FnG Tryz.prog 23 [.gp p 0, .int .i64 i, .str s] gh fun rs g => ∃ j e : Int, rs = [.v (.int .i64 j), .v (.int .i64 e)] ∧ j = (k.findE i s).1 ∧ e = (k.findE i s).2 ∧ gh = g := by
 obtain ⟨v, ids, _, _, _, hat, ho⟩ := gOf' h i true hi
 refine FnG.of' T_ok M_ok [] (fn := Tryz.f23) (by kernel_rfl) rfl rfl rfl rfl (Nat.le_of_ble_eq_true rfl) fun A hA => ?_
 cbv
 refine callGI hA (ho) ?_
 intro rs_ g_ h_
 obtain ⟨x, e, q_1, hx, he, q_2⟩ := h_
 subst q_1
 subst q_2
 cbv
 refine condI hA (fun h1 => ?_) (fun h1 => ?_)
 ·have h1 := zneT hA h1
  have q : k.findE i s = (0, e) := by unfold Dk.findE; rw [if_pos (he ▸ h1), he]
  cbv
  exact retGI hA rfl [.v (.int .i64 0), .v (.int .i64 e)] gh (⟨_, _, rfl, by rw [q], by rw [q], rfl⟩)
 ·have h1 := zneF hA h1
  obtain ⟨id, nd, hG, hdir⟩ := hx h1
  obtain ⟨vb, ve, wb, we, vl, hbox, _, _, _, _, hwe, _⟩ := hat _ _ _ hG.id hG.nd
  rw [hdir] at hwe
  obtain ⟨mid, t, c, rfl, hlm, hgm, hok⟩ := hwe
  have q : k.findE i s = match enGet nd.seen.en s with
   | some i => ((i : Int), 0)
   | none => (0, 8) := by
   unfold Dk.findE; rw [if_neg (fun q => q (he ▸ h1)), hG.node]; rfl
  have hx2 := hG.x
  subst hx2
  cbv
  refine gldI hA _ (hbox) ?_
  cbv
  cases hget : enGet nd.seen.en s with
  | none =>
   rw [hget] at q
   refine glookN hA (r := .tup [.int .i64 0, .bool false]) hgm hok (by rw [hget]) ?_
   cbv
   refine condT hA (by rw [hA]; rfl) ?_
   cbv
   exact retGI hA rfl [.v (.int .i64 0), .v (.int .i64 8)] gh (⟨_, _, rfl, by rw [q], by rw [q], rfl⟩)
  | some j =>
   rw [hget] at q
   obtain ⟨n, hn⟩ : ∃ n : Int, n = (j : Nat) := ⟨_, rfl⟩
   refine glookN hA (r := .tup [.int .i64 n, .bool true]) hgm hok (by rw [hget, hn]) ?_
   cbv
   refine condF hA (by rw [hA]; rfl) ?_
   cbv
   exact retGI hA rfl [.v (.int .i64 n), .v (.int .i64 0)] gh (⟨_, _, rfl, by rw [q]; exact natEq hn, by rw [q], rfl⟩)
def Dk.readM (k : Dk) (i a n : Int) : Bs × Int := if k.ofE i false ≠ 0 then ([], k.ofE i false) else match k.node? i with
 | some nd => if a < 0 ∨ n < 0 ∨ nd.seen.b.length < a ∨ nd.seen.b.length - a < n then ([], 13) else ((nd.seen.b.drop a.toNat).take n.toNat, 0)
 | none => ([], 8)
theorem gRead {gh : GH} {lab : Lab} {p : Nat} {k : Dk} (h : DkIn gh lab p k) (i a n : Int) (hi : I64 i) (ha : I64 a) (hn : I64 n) (hlen : ∀ nd ∈ k.nodes, nd.seen.b.length ≤ 140737488355328) : FnG Tryz.prog 25 [.gp p 0, .int .i64 i, .int .i64 a, .int .i64 n] gh fun rs g => ∃ (r : List V) (e : Int), rs = [.v (.slice r), .v (.int .i64 e)] ∧ r = bytesV (k.readM i a n).1 ∧ e = (k.readM i a n).2 ∧ gh = g := by
 obtain ⟨v, ids, _, _, _, hat, ho⟩ := gOf' h i false hi
 refine FnG.of' T_ok M_ok [1000027, 1000055] (fn := Tryz.f25) (by kernel_rfl) rfl rfl rfl rfl (Nat.le_of_ble_eq_true rfl) fun A hA => ?_
 cbv
 refine callGI hA (ho) ?_
 intro rs_ g_ h_
 obtain ⟨x, e, q_1, hx, he, q_2⟩ := h_
 subst q_1
 subst q_2
 cbv
 refine condI hA (fun h1 => ?_) (fun h1 => ?_)
 ·have h1 := zneT hA h1
  have q : k.readM i a n = ([], e) := by unfold Dk.readM; rw [if_pos (he ▸ h1), he]
  cbv
  exact retGI hA rfl [.v (.slice []), .v (.int .i64 e)] gh (⟨_, _, rfl, by rw [q]; rfl, by rw [q], rfl⟩)
 ·have h1 := zneF hA h1
  obtain ⟨id, nd, hG, hdir⟩ := hx h1
  obtain ⟨vb, ve, wb, we, vl, hbox, _, _, _, hwb, _⟩ := hat _ _ _ hG.id hG.nd
  have hln := hlen nd (List.mem_of_getElem? hG.nd)
  obtain ⟨b, hb⟩ : ∃ b, b = nd.seen.b := ⟨_, rfl⟩
  rw [← hb] at hln
  have q : k.readM i a n = if a < 0 ∨ n < 0 ∨ b.length < a ∨ b.length - a < n then ([], 13) else ((b.drop a.toNat).take n.toNat, 0) := by
   unfold Dk.readM; rw [if_neg (fun q => q (he ▸ h1)), hG.node, hb]
  obtain ⟨l, hl⟩ : ∃ l, l = bytesV b := ⟨_, rfl⟩
  have his : SlIs gh 1 l wb := by rw [hl, hb]; exact hwb.is
  have hll : l.length = b.length := by rw [hl, bytesV_len]
  have hx2 := hG.x
  subst hx2
  have bad : (a < 0 ∨ n < 0 ∨ b.length < a ∨ b.length - a < n) → ∃ (r : List V) (e : Int), [Rs.v (.slice []), Rs.v (.int .i64 13)] = [.v (.slice r), .v (.int .i64 e)] ∧ r = bytesV (k.readM i a n).1 ∧ e = (k.readM i a n).2 ∧ gh = gh := fun hb => ⟨_, _, rfl, by rw [q, if_pos hb]; rfl, by rw [q, if_pos hb], rfl⟩
  have arith : ¬ a < 0 → ¬ n < 0 → ¬ (b.length : Int) < a → ¬ (b.length : Int) - a < n → (0 ≤ a ∧ a ≤ a + n ∧ a + n ≤ (l.length : Nat)) ∧ I64 (a + n) ∧ ¬ (a < 0 ∨ n < 0 ∨ b.length < a ∨ b.length - a < n) := fun p1 p2 p3 p4 => by
   unfold I64 at *; omega
  have arith2 : ¬ a < 0 → I64 ((b.length : Int) - a) := fun p1 => by unfold I64 at *; omega
  have arith3 : ¬ a < 0 → ¬ n < 0 → ¬ (b.length : Int) < a → ¬ (b.length : Int) - a < n → (l.take (a + n).toNat).drop a.toNat = bytesV ((b.drop a.toNat).take n.toNat) := fun p1 p2 p3 p4 => by
   rw [hl, bytesV_take, bytesV_drop, show (a + n).toNat = a.toNat + n.toNat from by omega, List.drop_take, Nat.add_sub_cancel_left]
  have hfl : ∀ x ∈ l, x.flat.length = 1 := bytesV_flat hl
  cbv
  refine gldI hA _ (hbox) ?_
  cbv
  refine weakA hA _ (weak_sl _ 26 1 rfl rfl his) ?_
  cbv
  have hz : A.lenL l = (b.length : Int) := by rw [hA]; simp only [std]; rw [hll]
  refine condI hA (fun c1 => ?_) (fun c1 => ?_)
  ·have c1 := zltT hA c1
   cbv
   exact retGI hA rfl [.v (.slice []), .v (.int .i64 13)] gh (bad (.inl c1))
  ·have c1 := zltF hA c1
   cbv
   refine condI hA (fun c2 => ?_) (fun c2 => ?_)
   ·have c2 := zltT hA c2
    cbv
    exact retGI hA rfl [.v (.slice []), .v (.int .i64 13)] gh (bad (.inr (.inl c2)))
   ·have c2 := zltF hA c2
    cbv
    refine condI hA (fun c3 => ?_) (fun c3 => ?_)
    ·have c3 : (b.length : Int) < a := (congrArg (· < a) hz).mp (zltT hA c3)
     cbv
     exact retGI hA rfl [.v (.slice []), .v (.int .i64 13)] gh (bad (.inr (.inr (.inl c3))))
    ·have c3 : ¬ (b.length : Int) < a := fun h => zltF hA c3 ((congrArg (· < a) hz).mpr h)
     have hsu : A.wrap .i64 (A.sub (A.lenL l) a) = (b.length : Int) - a := (zsub hA _ _).trans (by rw [hz]; exact w64_id (arith2 c1))
     cbv
     refine condI hA (fun c4 => ?_) (fun c4 => ?_)
     ·have c4 : (b.length : Int) - a < n := (congrArg (· < n) hsu).mp (zltT hA c4)
      cbv
      exact retGI hA rfl [.v (.slice []), .v (.int .i64 13)] gh (bad (.inr (.inr (.inr c4))))
     ·have c4 : ¬ (b.length : Int) - a < n := fun h => zltF hA c4 ((congrArg (· < n) hsu).mpr h)
      obtain ⟨f1, f2, f3⟩ := arith c1 c2 c3 c4
      have hsum : A.wrap .i64 (A.add a n) = a + n := (zadd hA _ _).trans (w64_id f2)
      cbv
      refine gldI hA _ (hbox) ?_
      cbv
      refine weakA hA _ (weak_sl _ 50 1 rfl rfl his) ?_
      cbv
      refine sizedI hA hfl ?_
      refine subLN hA (by
       show 0 ≤ a ∧ a ≤ A.wrap .i64 (A.add a n) ∧ A.wrap .i64 (A.add a n) ≤ _
       rw [hsum]; exact f1) ?_
      intro r hr
      have hr : r = bytesV ((b.drop a.toNat).take n.toNat) := hr.trans (by
       show (l.take (A.wrap .i64 (A.add a n)).toNat).drop a.toNat = _
       rw [hsum]; exact arith3 c1 c2 c3 c4)
      cbv
      refine callI hA (cClone r (bytesV_flat hr) (by rw [hr, bytesV_len]; simp; omega)) ?_
      intro rs_ h_
      subst h_
      cbv
      exact retGI hA rfl [.v (.slice r), .v (.int .i64 0)] gh (⟨_, _, rfl, by rw [q, if_neg f3]; exact hr, by rw [q, if_neg f3], rfl⟩)
open Go Go.RowKit
theorem cCloneO (l : List V) (hs : ∀ x ∈ l, x.flat.length = 1) (hl : l.length ≤ 140737488355328) : CallR Tryz.prog 65 [.slice l] fun rs => rs = [.o 1 l] := by
 refine .of _ rfl ?_
 refine FnR.of' T_ok M_ok (fn := Tryz.f65) (by kernel_rfl) rfl rfl rfl rfl (Nat.le_of_ble_eq_true rfl) fun A hA => ?_
 cbv
 by_cases h : l = []
 ·subst h
  refine nilqU hA ?_
  cbv
  constructor
  ·refine retI hA ?_
   exact ⟨rfl, trivial⟩
  ·refine sizedI hA (by simp) ?_
   cbv
   refine roomI hA (by simp) ?_
   cbv
   refine retI hA ?_
   exact ⟨rfl, congrArg (fun q => some (AObj.row 1 q true)) (by rw [hA]; rfl), trivial⟩
 ·refine nilqI hA h ?_
  cbv
  refine sizedI hA hs ?_
  cbv
  refine roomI hA (by simpa using hl) ?_
  cbv
  refine retI hA ?_
  exact ⟨rfl, congrArg (fun q => some (AObj.row 1 q true)) (by rw [hA]; rfl), trivial⟩
set_option maxHeartbeats 2000000 in
theorem mapsClone_run (b : Nat) (es : Array MapEntry) (clock : Nat) (w : World) (hb : w.heap[b]? = some (.map es clock)) :
  Calls Tryz.prog 129 #[.map (some b)] w fun e w' => e = .returned (.map (some w.heap.size)) ∧ w' = w.alloc (.map es clock) := by
 have hq := fun w => Go.Proofs.run_eql_map_nil_sl (P := Tryz.prog) w 103 _ _ (some b) uMap
 go_enter Tryz.func129, Tryz.ntmps129
 go_wp2
 rw [run_callFunc_extern Tryz.func141 (by kernel_rfl) (by kernel_rfl) (by kernel_rfl) (e := Extern.MapsClone.clone) (by kernel_rfl), Go.Proofs.run_maps_clone_sl w 103 hb]
 simp only [Result.andThen]
 rw [Oper.upon_value]
 go_wp2
 rw [Go.Proofs.run_typeAssert_map_sl _ 103 _ _ _ _ uMap]
 simp only [Result.andThen]
 rw [Oper.upon_value]
 go_wp2
 go_ret
 exact ⟨rfl, rfl⟩
theorem gMapsClone {gh : GH} {id clock : Nat} {es : List (Nat × V × V)} (hg : gh.get id = some (.map es clock)) : FnG Tryz.prog 129 [.gm id] gh fun rs g => rs = [.v (.gm gh.next)] ∧ g = gh.new (.map es clock) := by
 refine ⟨⟨_, Tryz.func129, rfl, by kernel_rfl⟩, fun w ok vs hok gl hl hr => ?_⟩
 match vs, hl, hr with
 | [v], _, hr =>
  obtain ⟨b, hn, hb, rfl⟩ := rep_gm (hr 0 (by simp) (by simp))
  obtain ⟨ents, h2, h5, h3, h4⟩ := map_of gl hg hb
  refine (mapsClone_run b ents clock w h2).mono fun e w' ⟨he, hw⟩ => ?_
  subst hw
  have hs : Same ok (ok.bind (some w.heap.size) 0) w (w.alloc (.map ents clock)) := ⟨fun _ _ h => h, fun k o h => by simp only [World.cell?, heap_alloc_old w _ (hok _ _ h)], Oks.bind_ext _ _ _⟩
  have glN := gl.new (w' := w.alloc (.map ents clock)) (b := some w.heap.size) (cap := 0) (o := .map es clock) hok (fun k hk => heap_alloc_old w _ hk) (by simp) (fun bb h => by cases h; exact Nat.le_refl _) ⟨w.heap.size, ents, Oks.bind_blk _ _ _, heap_alloc_new w _, fun o h => by have := hok _ _ (h : ok w.heap.size o); omega, h3, fun i hi hi' => ⟨(h4 i hi hi').1, (h4 i hi hi').2.1.mono hs, (h4 i hi hi').2.2.mono hs⟩⟩
  refine ⟨[.map (some w.heap.size)], [none], ok.bind (some w.heap.size) 0, [.v (.gm gh.next)], _, ⟨rfl, rfl⟩, he, frame_alloc _ _ _, hs, fun k o h => ⟨by have := hok _ _ (h : ok k o); simp; omega, .inl h⟩, rfl, rfl, fun i hi hi' hi'' => ?_, fun i j b hi => ?_, glN, fun k h => ⟨occG_new gl (fun bb h => by cases h; exact Nat.le_refl _) h, fun i hi => ?_⟩⟩
  ·match i, hi, hi', hi'' with
   | 0, _, _, _ => exact ⟨rfl, .gm _ _ (by rw [gl.next]; exact Nat.lt_succ_self _) (by rw [gl.next]; exact Oks.bind_blk _ _ _)⟩
  ·match i, hi with
   | 0, hi => simp at hi
   | n + 1, hi => simp at hi
  ·match i, hi with
   | 0, hi => simp at hi
   | n + 1, hi => simp at hi
set_option maxHeartbeats 2000000 in
theorem mapsCloneNil_run (w : World) : Calls Tryz.prog 129 #[.map none] w fun e w' => e = .returned (.map none) ∧ w' = w := by
 have hq := fun w => Go.Proofs.run_eql_map_nil_sl (P := Tryz.prog) w 103 _ _ none uMap
 go_enter Tryz.func129, Tryz.ntmps129
 go_wp2
 go_ret
 exact ⟨rfl, rfl⟩
theorem cMapsCloneNil : CallR Tryz.prog 129 [.nilmap] fun rs => rs = [.v .nilmap] := by
 refine .of _ rfl ⟨⟨_, Tryz.func129, rfl, by kernel_rfl⟩, fun w ok vs hok hl hr => ?_⟩
 match vs, hl, hr with
 | [v], _, hr =>
  have hv : v = .map none := by have := hr 0 (by simp) (by simp); cases this; rfl
  subst hv
  refine (mapsCloneNil_run w).mono fun e w' ⟨he, hw⟩ => ?_
  subst hw
  refine ⟨[.map none], [none], ok, he, .refl _ _, fun _ _ h => h, .refl _, fun _ _ h => .inl h, rfl, rfl, fun i hi hi' hi'' => ?_, fun i j b hi => ?_⟩
  ·match i, hi, hi', hi'' with
   | 0, _, _, _ => exact ⟨rfl, .nilmap⟩
  ·match i, hi with
   | 0, hi => simp at hi
   | n + 1, hi => simp at hi
theorem weak_slA (S : St) (t z : Nat) {x y : V} {l : List V} {gh : GH} {pub : List Nat} (hh : look S.ob hk = some (.heap gh pub)) (ht : S.get t = .v (.agg [x, y])) (hx : SlIs gh z l x) (hy : y.cell = true) : Weak S (S.put (some t) (.v (.agg [.slice l, y]))) := fun G E ok a w c => by
 have gl : GlOk ok gh w := (c.obj _ _ hh).2
 have h1 := c.slot t
 rw [ht] at h1
 obtain ⟨cs, he, h2, h3, h4⟩ := rep_agg (repD_v h1)
 refine ⟨E, ok, c.refine ?_⟩
 rw [he]
 match cs, h2, h4 with
 | [u, v], _, h4 =>
  refine .v _ _ (.agg _ [u, v] rfl (fun i hi => ?_) fun i hi hi' => ?_)
  ·match i, hi with
   | 0, _ => rfl
   | 1, _ => exact hy
  ·match i, hi, hi' with
   | 0, _, _ => exact hx.rep gl (h4 0 (by simp) (by simp))
   | 1, _, _ => exact h4 1 (by simp) (by simp)
structure Copied (gh g : GH) (dir : Bool) (b : Bs) (en : List (Bs × Nat)) (n : Int) (we : V) : Prop where
 n : n = (b.length : Nat)
 old : ∀ x, x < gh.next → g.get x = gh.get x
 b : g.get gh.next = some (.arow 1 (bytesV b))
 m : match dir with
  | true => we = .gm (gh.next + 1) ∧ g.next = gh.next + 2 ∧ ∃ t c, g.get (gh.next + 1) = some (.map (encE t) c) ∧ MpOk t c en
  | false => we = .nilmap ∧ en = [] ∧ g.next = gh.next + 1
theorem gClone {gh : GH} {lab : Lab} {r r' : Nat × Nat} {vb ve : V} {b : Bs} {en : List (Bs × Nat)} {dir : Bool} (hd : Dom gh lab) (hb : ByV gh lab r vb b) (he : MpV gh lab r' dir ve en) (hl : b.length ≤ 140737488355328) : FnG Tryz.prog 103 [.agg [vb, ve]] gh fun rs g => ∃ (n : Int) (we : V), rs = [.v (.agg [.gs gh.next n, we])] ∧ Copied gh g dir b en n we := by
 obtain ⟨l, hll⟩ : ∃ l, l = bytesV b := ⟨_, rfl⟩
 have his : SlIs gh 1 l vb := hll ▸ hb.is
 have hcell : ve.cell = true := by
  cases dir with
  | true => obtain ⟨_, _, _, rfl, _⟩ := he; rfl
  | false => obtain ⟨rfl, _⟩ := he; rfl
 obtain ⟨nx, hnx⟩ : ∃ nx, nx = gh.next := ⟨_, rfl⟩
 obtain ⟨n, hn⟩ : ∃ n : Int, n = (l.length : Nat) := ⟨_, rfl⟩
 have hnb : n = (b.length : Nat) := by rw [hn, hll, bytesV_len]
 refine FnG.of' T_ok M_ok [1000001, 1000008] (fn := Tryz.f103) (by kernel_rfl) rfl rfl rfl rfl (Nat.le_of_ble_eq_true rfl) fun A hA => ?_
 cbv
 refine weakA hA _ (weak_slA _ 0 1 rfl rfl his hcell) ?_
 cbv
 refine chkI hA (by kernel_rfl) ?_
 cbv
 refine callI hA (cCloneO l (bytesV_flat hll) (by rw [hll, bytesV_len]; exact hl)) ?_
 intro rs_ h_
 subst h_
 cbv
 obtain ⟨g1, hg1⟩ : ∃ g1, g1 = gh.new (.arow 1 l) := ⟨_, rfl⟩
 refine weakA hA _ (weak_pubN _ 5 hg1 hnx hn rfl rfl rfl) ?_
 have hold : ∀ x, x < gh.next → g1.get x = gh.get x := fun x hx => by rw [hg1]; simp [Nat.ne_of_lt hx]
 have hb1 : g1.get gh.next = some (.arow 1 (bytesV b)) := by rw [hg1, hll]; simp
 cases dir with
 | true =>
  obtain ⟨mid, t, c, rfl, hlm, hgm, hok⟩ := he
  cbv
  refine callGI hA (gMapsClone ((hold mid (hd.lt hlm)).trans hgm)) ?_
  intro rs_ g2 h_
  obtain ⟨q_1, hg2⟩ := h_
  subst q_1
  cbv
  have e1 : g1.next = gh.next + 1 := by rw [hg1]; rfl
  exact retGI hA rfl [.v (.agg [.gs nx n, .gm g1.next])] g2 (⟨n, .gm g1.next, by rw [hnx], hnb, fun x hx => by rw [hg2]; simp [e1, Nat.ne_of_lt (Nat.lt_succ_of_lt hx), hold x hx], by rw [hg2]; simp [e1, hb1], by rw [e1], by rw [hg2]; simp [e1], t, c, by rw [hg2]; simp [e1], hok⟩)
 | false =>
  obtain ⟨rfl, hen⟩ := he
  cbv
  refine callI hA (cMapsCloneNil) ?_
  intro rs_ h_
  subst h_
  cbv
  exact retGI hA rfl [.v (.agg [.gs nx n, .nilmap])] g1 (⟨n, .nilmap, by rw [hnx], hnb, hold, hb1, rfl, hen, by rw [hg1]; rfl⟩)
open Go Go.RowKit
theorem set_set (gh : GH) (id : Nat) (o p : GObj) : (gh.set id o).set id p = gh.set id p := by
 simp only [GH.set]; congr 1; funext j; split <;> rfl
def labN (lab : Lab) (n : Nat) (r0 r1 : Nat × Nat) : Lab := fun x => if x = n then some r0 else if x = n + 1 then some r1 else lab x
theorem Copied.by {gh g : GH} {lab : Lab} {dir : Bool} {b : Bs} {en : List (Bs × Nat)} {n : Int} {we : V} (h : Copied gh g dir b en n we) (hd : Dom gh lab) (r0 r1 : Nat × Nat) : ∃ lab', Upd gh g lab lab' (fun _ => False) (fun _ => False) ∧ ByV g lab' r0 (.gs gh.next n) b ∧ MpV g lab' r1 dir we en := by
 cases dir with
 | true =>
  obtain ⟨h1, h2, h3, h4, h5, t, c, h6, h7⟩ := h
  refine ⟨labN lab gh.next r0 r1, ⟨by omega, fun x hx => by unfold labN; rw [if_neg (by omega), if_neg (by omega)], fun x hx => by unfold labN; rw [if_neg (by omega), if_neg (by omega)]; exact hd x (by omega), fun x hx _ _ => h2 x hx⟩, .inr (.inr ⟨gh.next, by rw [h1], by simp [labN], h3⟩), gh.next + 1, t, c, h4, by simp [labN], h6, h7⟩
 | false =>
  obtain ⟨h1, h2, h3, h4, h5, h6⟩ := h
  refine ⟨fun x => if x = gh.next then some r0 else lab x, ⟨by omega, fun x hx => by rw [if_neg (by omega)], fun x hx => by rw [if_neg (by omega)]; exact hd x (by omega), fun x hx _ _ => h2 x hx⟩, .inr (.inr ⟨gh.next, by rw [h1], by simp, h3⟩), h4, h5⟩
theorem upd_set {gh : GH} {lab : Lab} (hd : Dom gh lab) {id : Nat} {r : Nat × Nat} (o : GObj) (hl : lab id = some r) : Upd gh (gh.set id o) lab lab (fun q => q = r) (fun _ => False) :=
 Upd.mk0 hd (Nat.le_refl _) fun x _ _ ht => by
  rw [GH.set_get, if_neg]
  intro e; subst e; exact ht r hl rfl
theorem gSyncG {gh : GH} {lab : Lab} {i id : Nat} {dir : Bool} {c : Ct} {vb ve wb we vl : V} (hd : Dom gh lab) (hbox : gh.get id = some (.box [.bool dir, vb, ve, wb, we, vl])) (hli : lab id = some (i, 0)) (hwb : ByV gh lab (i, 3) wb c.b) (hwe : MpV gh lab (i, 4) dir we c.en) (hl : c.b.length ≤ 140737488355328) : FnG Tryz.prog 54 [.gp id 0] gh fun rs g => rs = [] ∧ ∃ lab', Upd gh g lab lab' (fun r => r = (i, 0)) (fun _ => False) ∧ NodeAt g lab' i id ⟨dir, c, []⟩ := by
 have hlt := hd.lt hli
 refine FnG.of' T_ok M_ok [] (fn := Tryz.f54) (by kernel_rfl) rfl rfl rfl rfl (Nat.le_of_ble_eq_true rfl) fun A hA => ?_
 cbv
 refine gldAI hA _ hbox ?_
 cbv
 refine callGI hA (gClone hd hwb hwe hl) ?_
 intro rs_ g1 h_
 obtain ⟨n, me, q_1, hcp⟩ := h_
 subst q_1
 cbv
 have hbox1 : g1.get id = some (.box [.bool dir, vb, ve, wb, we, vl]) := (hcp.old id hlt).trans hbox
 refine gstI hA _ (hbox1) ?_
 rintro g2 hg2
 cbv
 refine gstI hA _ ((show g2.get id = some (.box [.bool dir, .gs gh.next n, me, wb, we, vl]) by rw [hg2]; simp; rfl)) ?_
 rintro g3 hg3
 cbv
 obtain ⟨lab', u, q1, q2⟩ := hcp.by hd (i, 1) (i, 2)
 have hg3' : g3 = g1.set id (.box [.bool dir, .gs gh.next n, me, wb, we, .nils]) := by rw [hg3, hg2, set_set]; rfl
 have hli' : lab' id = some (i, 0) := (u.old id hlt).trans hli
 have u2 := upd_set u.dom (.box [.bool dir, .gs gh.next n, me, wb, we, .nils]) hli'
 have no : ∀ {j : Nat}, j ≠ 0 → ¬ ((i, j) = ((i, 0) : Nat × Nat)) := fun h e => h (congrArg Prod.snd e)
 rw [← hg3'] at u2
 exact retGI hA rfl [] g3 ⟨rfl, lab', (u.weak (fun _ h => h.elim) (fun _ h => h.elim)).trans u2, _, _, _, _, _, by rw [hg3']; simp, hli', q1.upd u.dom u2 (no (by decide)) (fun _ h => h.elim), q2.upd u.dom u2 (no (by decide)) (fun _ h => h.elim), (hwb.upd hd u (fun h => h) (fun _ h => h.elim)).upd u.dom u2 (no (by decide)) (fun _ h => h.elim), (hwe.upd hd u (fun h => h) (fun _ h => h.elim)).upd u.dom u2 (no (by decide)) (fun _ h => h.elim), .inl ⟨rfl, rfl⟩⟩ trivial
theorem gSyncN {gh : GH} {lab : Lab} {i id : Nat} {nd : Nd} (hd : Dom gh lab) (h : NodeAt gh lab i id nd) (hl : nd.seen.b.length ≤ 140737488355328) : FnG Tryz.prog 54 [.gp id 0] gh fun rs g => rs = [] ∧ ∃ lab', Upd gh g lab lab' (fun r => r = (i, 0)) (fun _ => False) ∧ NodeAt g lab' i id nd.sync := by
 obtain ⟨vb, ve, wb, we, vl, hbox, hli, hvb, hve, hwb, hwe, hvl⟩ := h
 exact gSyncG hd hbox hli hwb hwe hl
end Go.Proofs.YthioccbgjkbmdaaGreat.AM
