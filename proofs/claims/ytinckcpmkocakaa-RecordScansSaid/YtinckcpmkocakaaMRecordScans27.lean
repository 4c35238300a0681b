/-
  Contracts: the laws RecordPuts, RecordGets, RecordFrames.
-/
import Derived.Test.YtinckcpmkocakaaMRecordPuts26
import Derived.Test.YtinckcpmkocakaaRows
set_option linter.unusedVariables false
set_option linter.unusedSimpArgs false
namespace Go.Proofs.Ytinckcpmkocakaa.AM
open Go Go.RowKit
set_option maxRecDepth 100000
set_option maxHeartbeats 4000000

theorem cCopy12 (a : RecM) (l : List V) (ha : l = strsV a.path) (hl : a.path.length ≤ 1000000) : CallR Try.prog 25 [.agg [.int .u8 a.k, .slice l, .int .i64 a.sz, .int .u32 a.sm, .int .i64 a.mi, .int .i64 a.mo, .int .u32 a.si, .int .u32 a.so]] fun rs => rs = [.v (.agg [.int .u8 a.k, .slice l, .int .i64 a.sz, .int .u32 a.sm, .int .i64 a.mi, .int .i64 a.mo, .int .u32 a.si, .int .u32 a.so])] := by
  refine .of _ rfl ?_
  obtain ⟨k, p, sz, sm, mi, mo, si, so⟩ := a
  dsimp only at *
  refine FnR.of' T_ok M_ok (fn := Try.f25) (by kernel_rfl) rfl rfl rfl rfl (Nat.le_of_ble_eq_true rfl) fun A hA => ?_
  cbv
  refine sizedI hA (strsV_flat ha) ?_
  cbv
  refine roomI hA (by rw [ha, strsV_len]; simp; omega) ?_
  cbv
  refine retI hA ?_
  refine ⟨?_, trivial⟩
  have : A.app [] l = l := by rw [hA]; rfl
  change some (V.agg [.int .u8 k, .slice (A.app [] l), .int .i64 sz, .int .u32 sm, .int .i64 mi, .int .i64 mo, .int .u32 si, .int .u32 so]) = _
  rw [this]
theorem lenGt40 {A : Prim} {P : Program} {R : List (Nat × AObj) → List D → Prop} (hA : A = std P R) {l : List V} {p : List (List UInt8)} (hl : l = strsV p) (h : A.ilt 40 (A.lenL l) = false) : p.length ≤ 40 := by
  have := lenGtF hA hl h; simpa using this
theorem seqT {A : Prim} {P : Program} {R : List (Nat × AObj) → List D → Prop} (hA : A = std P R) {s t a b : List UInt8} (hs : s = a) (ht : t = b) (h : a = b) : A.seq s t = true := by subst hs ht h hA; simp [std]
theorem sameM_self (a : RecM) : sameM a a = true := (sameM_iff a a).2 rfl
theorem c9 (a : RecM) (l : List V) (ha : l = strsV a.path) (hr : RecOk a) : CallR Try.prog 9 [.agg [.int .u8 a.k, .slice l, .int .i64 a.sz, .int .u32 a.sm, .int .i64 a.mi, .int .i64 a.mo, .int .u32 a.si, .int .u32 a.so]] fun rs => rs = [.v (.bool true)] := by
  refine .of _ rfl ?_
  obtain ⟨a0, hae⟩ : ∃ a0, a0 = a := ⟨_, rfl⟩
  obtain ⟨k, p, sz, sm, mi, mo, si, so⟩ := a
  have hpl : p.length ≤ 140737488355328 := hr.pl
  dsimp only at ha
  refine FnR.of' T_ok M_ok (fn := Try.f9) (by kernel_rfl) rfl rfl rfl rfl (Nat.le_of_ble_eq_true rfl) fun A hA => ?_
  cbv
  refine condI hA (fun h1 => ?_) (fun h1 => ?_)
  · cbv
    refine callI hA (cAwake) ?_
    rintro _ rfl
    cbv
    refine retI hA ?_
    simp only [retOk, rsOk, retIds, idsD, idsDs, softOb, toV, toVs, List.append_nil, List.nil_append, Option.some.injEq, V.int.injEq, V.bool.injEq, V.slice.injEq, V.agg.injEq, V.str.injEq, true_and, and_true, hA, std]
  · have h40 := lenGt40 hA ha h1
    cbv
    refine callI hA (cCopy12 ⟨k, p, sz, sm, mi, mo, si, so⟩ l ha (by dsimp only; omega)) ?_
    rintro _ rfl
    cbv
    refine callI hA (cPut ⟨k, p, sz, sm, mi, mo, si, so⟩ l ha hr) ?_
    rintro _ ⟨b1, e1, rfl, hb1, he1⟩
    cbv
    refine callI hA (cPut12 ⟨k, p, sz, sm, mi, mo, si, so⟩ l ha hr) ?_
    rintro _ ⟨b2, e2, rfl, hb2, he2⟩
    cbv
    refine chkI hA (by kernel_rfl) ?_
    cbv
    refine b2sN hA hb1 ?_
    rintro s1 hs1
    cbv
    refine b2sN hA hb2 ?_
    rintro s2 hs2
    cbv
    refine condT hA (seqT hA hs1 hs2 rfl) ?_
    cbv
    refine condT hA (ieqT hA (he1.trans he2.symm)) ?_
    cbv
    refine callI hA (cCheck ⟨k, p, sz, sm, mi, mo, si, so⟩ l ha hpl) ?_
    rintro _ ⟨e3, rfl, he3⟩
    cbv
    refine callI hA (cCheck12 ⟨k, p, sz, sm, mi, mo, si, so⟩ l ha) ?_
    rintro _ ⟨e4, rfl, he4⟩
    cbv
    refine condT hA (ieqT hA (he3.trans he4.symm)) ?_
    cbv
    refine callI hA (cSame12 ⟨k, p, sz, sm, mi, mo, si, so⟩ ⟨k, p, sz, sm, mi, mo, si, so⟩ l l ha ha hpl) ?_
    rintro _ ⟨c1, rfl, hc1⟩
    cbv
    refine condT hA (hc1.trans (sameM_self _)) ?_
    cbv
    refine callI hA (cAwake) ?_
    rintro _ rfl
    cbv
    refine retI hA ?_
    simp only [retOk, rsOk, retIds, idsD, idsDs, softOb, toV, toVs, List.append_nil, List.nil_append, Option.some.injEq, V.int.injEq, V.bool.injEq, V.slice.injEq, V.agg.injEq, V.str.injEq, true_and, and_true, hA, std]
theorem c11 (v : Int) (s : Nat) (b : List UInt8) (l : List V) (hv : v = s) (hs : s < 4294967296) (hl : l = bytesV b) : CallR Try.prog 11 [.int .u32 v, .slice l] fun rs => rs = [.v (.bool true)] := by
  refine .of _ rfl ?_
  refine FnR.of' T_ok M_ok (fn := Try.f11) (by kernel_rfl) rfl rfl rfl rfl (Nat.le_of_ble_eq_true rfl) fun A hA => ?_
  cbv
  refine callI hA (cFrame v s b l hv hs hl) ?_
  rintro _ ⟨f1, e1, rfl, hf1, he1⟩
  cbv
  refine callI hA (cFrame12 v s b l hv hs hl) ?_
  rintro _ ⟨f2, e2, rfl, hf2, he2⟩
  cbv
  refine b2sN hA hf1 ?_
  rintro s1 hs1
  cbv
  refine b2sN hA hf2 ?_
  rintro s2 hs2
  cbv
  refine condT hA (seqT hA hs1 hs2 rfl) ?_
  cbv
  refine condT hA (ieqT hA (he1.trans he2.symm)) ?_
  cbv
  refine callI hA (cAwake) ?_
  rintro _ rfl
  cbv
  refine retI hA ?_
  simp only [retOk, rsOk, retIds, idsD, idsDs, softOb, toV, toVs, List.append_nil, List.nil_append, Option.some.injEq, V.int.injEq, V.bool.injEq, V.slice.injEq, V.agg.injEq, V.str.injEq, true_and, and_true, hA, std]
theorem getR_path (b : List UInt8) : (getR b).path.length ≤ b.length := by
  unfold getR
  split
  · have p1 := unpackL_len ((unpackL b).getD 1 [])
    have p2 := getD_small b 1
    simp only [recOf]; omega
  · simp [zeroR]
theorem c10 (b : List UInt8) (l : List V) (hl : l = bytesV b) (hb : b.length ≤ 2000000) : CallR Try.prog 10 [.slice l] fun rs => rs = [.v (.bool true)] := by
  refine .of _ rfl ?_
  refine FnR.of' T_ok M_ok (fn := Try.f10) (by kernel_rfl) rfl rfl rfl rfl (Nat.le_of_ble_eq_true rfl) fun A hA => ?_
  cbv
  refine sizedI hA (bytesV_flat hl) ?_
  cbv
  refine roomI hA (by rw [hl, bytesV_len]; simp; omega) ?_
  cbv
  have hin : A.app [] l = bytesV b := by rw [hA, ← hl]; rfl
  refine callI hA (cGet b _ hin hb) ?_
  rintro _ ⟨g1, l1, e1, rfl, hg1, hl1, he1⟩
  cbv
  refine callI hA (cGet12 b l hl hb) ?_
  rintro _ ⟨g2, l2, e2, rfl, hg2, hl2, he2⟩
  cbv
  refine callI hA (cSame12 g1 g2 l1 l2 hl1 hl2 (by rw [hg1]; have := getR_path b; omega)) ?_
  rintro _ ⟨c1, rfl, hc1⟩
  cbv
  refine condT hA (hc1.trans (by rw [hg1, hg2]; exact sameM_self _)) ?_
  cbv
  refine condT hA (ieqT hA (he1.trans he2.symm)) ?_
  cbv
  refine b2sN hA hin ?_
  rintro s1 hs1
  cbv
  refine b2sN hA hl ?_
  rintro s2 hs2
  cbv
  refine condT hA (seqT hA hs1 hs2 rfl) ?_
  cbv
  refine callI hA (cAwake) ?_
  rintro _ rfl
  cbv
  refine retI hA ?_
  simp only [retOk, rsOk, retIds, idsD, idsDs, softOb, toV, toVs, List.append_nil, List.nil_append, Option.some.injEq, V.int.injEq, V.bool.injEq, V.slice.injEq, V.agg.injEq, V.str.injEq, true_and, and_true, hA, std]
end Go.Proofs.Ytinckcpmkocakaa.AM

/-
  What arguments of a type are: records.
-/
set_option linter.unusedVariables false
set_option linter.unusedSimpArgs false
namespace Go.Proofs.Ytinckcpmkocakaa.AM
open Go Go.RowKit
set_option maxRecDepth 100000
set_option maxHeartbeats 4000000

theorem flat4 {a b c d : V} : [a, b, c, d].flatMap V.flat = a.flat ++ (b.flat ++ (c.flat ++ (d.flat ++ []))) := rfl
theorem tv_mark {k : Nat} {x : V} (h : TyV (k + 2) 42 x) : ∃ mi mo si so : Int, x = .agg [.int .i64 mi, .int .i64 mo, .int .u32 si, .int .u32 so] ∧ 0 ≤ si ∧ si ≤ 4294967295 ∧ 0 ≤ so ∧ so ≤ 4294967295 := by
  obtain ⟨ys, rfl, h1, h2⟩ := tv_struct (k := k + 1) rfl h
  match ys, h1, h2 with
  | [a, b, c, d], _, h2 =>
    obtain ⟨mi, rfl, _⟩ := tv_int (k := k) (kd := .i64) rfl (h2 0 (by simp) (by decide))
    obtain ⟨mo, rfl, _⟩ := tv_int (k := k) (kd := .i64) rfl (h2 1 (by simp) (by decide))
    obtain ⟨si, rfl, s0, s1⟩ := tv_int (k := k) (kd := .u32) rfl (h2 2 (by simp) (by decide))
    obtain ⟨so, rfl, o0, o1⟩ := tv_int (k := k) (kd := .u32) rfl (h2 3 (by simp) (by decide))
    exact ⟨mi, mo, si, so, rfl, s0, s1, o0, o1⟩
theorem tv_rec {k : Nat} {x : V} (h : TyV (k + 3) 44 x) : ∃ a : RecM, x = recV a ∧ RecOk a := by
  obtain ⟨ys, rfl, h1, h2⟩ := tv_struct (k := k + 2) rfl h
  match ys, h1, h2 with
  | [a, b, c, d, e], _, h2 =>
    obtain ⟨kd, rfl, k0, k1⟩ := tv_int (k := k + 1) (kd := .u8) rfl (h2 0 (by simp) (by decide))
    obtain ⟨p, rfl, p1, p2⟩ := tv_strs (k := k) rfl rfl rfl (h2 1 (by simp) (by decide))
    obtain ⟨sz, rfl, _⟩ := tv_int (k := k + 1) (kd := .i64) rfl (h2 2 (by simp) (by decide))
    obtain ⟨sm, rfl, m0, m1⟩ := tv_int (k := k + 1) (kd := .u32) rfl (h2 3 (by simp) (by decide))
    obtain ⟨mi, mo, si, so, rfl, s0, s1, o0, o1⟩ := tv_mark (k := k) (h2 4 (by simp) (by decide))
    refine ⟨⟨kd, p, sz, sm, mi, mo, si, so⟩, rfl, ⟨k0, k1, m0, m1, s0, s1, o0, o1, by dsimp only; omega, p2⟩⟩
theorem tv_recs {k : Nat} {x : V} (h : TyV (k + 4) 63 x) : ∃ gs : List RecM, x = .slice (recsV gs) ∧ gs.length ≤ 140737488355328 ∧ ∀ a ∈ gs, RecOk a := by
  obtain ⟨l, rfl, h1, h2⟩ := tv_slice (k := k + 3) rfl h
  have key : ∀ l : List V, (∀ y ∈ l, TyV (k + 3) 44 y) → ∃ gs, l = recsV gs ∧ ∀ a ∈ gs, RecOk a := by
    intro l
    induction l with
    | nil => exact fun _ => ⟨[], rfl, by simp⟩
    | cons y r ih =>
      intro h
      obtain ⟨a, rfl, ha⟩ := tv_rec (k := k) (h y (by simp))
      obtain ⟨gs, rfl, hgs⟩ := ih fun z hz => h z (List.mem_cons_of_mem _ hz)
      exact ⟨a :: gs, rfl, fun c hc => (List.mem_cons.1 hc).elim (fun e => e ▸ ha) (hgs c)⟩
  obtain ⟨gs, rfl, hgs⟩ := key l h2
  rw [recsV_len] at h1
  have hb : 1 ≤ (tyOf 44).bytes := by decide
  exact ⟨gs, rfl, Nat.le_trans (Nat.le_mul_of_pos_right _ hb) h1, hgs⟩
end Go.Proofs.Ytinckcpmkocakaa.AM

/-
  Contracts: the law RecordScans.
-/
set_option linter.unusedVariables false
set_option linter.unusedSimpArgs false
namespace Go.Proofs.Ytinckcpmkocakaa.AM
open Go Go.RowKit
set_option maxRecDepth 100000
set_option maxHeartbeats 4000000

theorem scan_paths (n : Nat) : ∀ (b : List UInt8) (s : Nat), b.length ≤ n → ∀ g ∈ (scanM s b).1, g.path.length ≤ b.length := by
  induction n with
  | zero =>
    intro b s hb g hg
    rw [scanM_none (by unfold stepM; rw [if_pos (by omega)])] at hg
    simp at hg
  | succ n ih =>
    intro b s hb g hg
    cases h : stepM s b with
    | none => rw [scanM_none h] at hg; simp at hg
    | some r =>
      have q := stepM_some h
      rw [scanM_some h] at hg
      rcases List.mem_cons.1 hg with rfl | hg
      · unfold stepM at h
        split at h
        · cases h
        · split at h
          · cases h
          · split at h
            · cases h
              have := getR_path ((b.take (10 + twoM b)).drop 10)
              simp at this ⊢; omega
            · cases h
      · have := ih (b.drop r.2) (s + 1) (by simp; omega) g hg
        simp at this; omega
theorem scan_len (n : Nat) : ∀ (b : List UInt8) (s : Nat), b.length ≤ n → (scanM s b).1.length ≤ b.length := by
  induction n with
  | zero =>
    intro b s hb
    rw [scanM_none (by unfold stepM; rw [if_pos (by omega)])]
    simp
  | succ n ih =>
    intro b s hb
    cases h : stepM s b with
    | none => rw [scanM_none h]; simp
    | some r =>
      have q := stepM_some h
      rw [scanM_some h]
      have := ih (b.drop r.2) (s + 1) (by simp; omega)
      simp at this ⊢; omega
section
variable {A : Prim} {P : Program} {R : List (Nat × AObj) → List D → Prop} (hA : A = std P R)
include hA
theorem getRN {gs : List RecM} {l : List V} {i : Int} {j : Nat} {K : List V → Prop} (hl : l = recsV gs) (hi : i = j) (hj : j < gs.length) (hK : ∀ (g : RecM) (lp : List V), g = gs[j]'hj → lp = strsV g.path → K [.int .u8 g.k, .slice lp, .int .i64 g.sz, .int .u32 g.sm, .int .i64 g.mi, .int .i64 g.mo, .int .u32 g.si, .int .u32 g.so]) : A.getA 8 l i K := by
  refine getAI hA _ ⟨by omega, ?_, ?_⟩ (hK _ _ rfl rfl)
  · rw [hl, hi, Int.toNat_natCast]; simp [recsV, recV, hj]
  · rfl
theorem notI {c : Bool} (h : c = true) : A.not c = false := by subst hA h; rfl
theorem ltRs {i : Int} {j : Nat} {l : List V} {gs : List RecM} (hi : i = (j : Int)) (hl : l = recsV gs) (h : A.ilt i (A.lenL l) = true) : j < gs.length := ltL hA hi (lenRs hl) h
theorem ineN {a b : Int} (h : a = b) : A.ine a b = false := by subst hA h; simp [std]
theorem sneN {s t a b : List UInt8} (hs : s = a) (ht : t = b) (h : a = b) : A.sne s t = false := by subst hs ht h hA; simp [std]
theorem beqN {a b : Bool} (h : a = b) : A.not (A.beq a b) = false := by subst hA h; simp [std]
end
theorem c12 (b : List UInt8) (l : List V) (hl : l = bytesV b) : CallR Try.prog 12 [.slice l] fun rs => rs = [.v (.bool true)] := by
  refine .of _ rfl ?_
  refine FnR.of' T_ok M_ok (fn := Try.f12) (by kernel_rfl) rfl rfl rfl rfl (Nat.le_of_ble_eq_true rfl) fun A hA => ?_
  cbv
  refine condI hA (fun h1 => ?_) (fun h1 => ?_)
  · cbv
    refine callI hA (cAwake) ?_
    rintro _ rfl
    cbv
    refine retI hA ?_
    simp only [retOk, rsOk, retIds, idsD, idsDs, softOb, toV, toVs, List.append_nil, List.nil_append, Option.some.injEq, V.int.injEq, V.bool.injEq, V.slice.injEq, V.agg.injEq, V.str.injEq, true_and, and_true, hA, std]
  · have hb := bGtF hA (m := 20000) hl rfl h1
    cbv
    refine sizedI hA (bytesV_flat hl) ?_
    cbv
    refine roomI hA (by rw [hl, bytesV_len]; simp; omega) ?_
    cbv
    have hin : A.app [] l = bytesV b := by rw [hA, ← hl]; rfl
    refine callI hA (cScan b _ hin (by omega)) ?_
    rintro _ ⟨g1, e1, rfl, hg1, he1⟩
    cbv
    refine callI hA (cScan12 b l hl (by omega)) ?_
    rintro _ ⟨g2, e2, rfl, hg2, he2⟩
    cbv
    refine condF hA (ineN hA (a := A.lenL g1) (b := A.lenL g2) (by rw [hg1, hg2])) ?_
    cbv
    refine condF hA (ineN hA (he1.trans he2.symm)) ?_
    cbv
    refine b2sN hA hin ?_
    rintro s1 hs1
    cbv
    refine b2sN hA hl ?_
    rintro s2 hs2
    cbv
    refine condF hA (sneN hA hs1 hs2 rfl) ?_
    cbv
    obtain ⟨gs, hgs⟩ : ∃ gs, gs = (scanM 0 b).1 := ⟨_, rfl⟩
    have hp : ∀ g ∈ gs, g.path.length ≤ 140737488355328 := fun g hg => by
      have := scan_paths _ b 0 (Nat.le_refl _) g (hgs ▸ hg); omega
    have hsl : gs.length ≤ 140737488355328 := by
      have := scan_len _ b 0 (Nat.le_refl _)
      rw [← hgs] at this; omega
    rw [← hgs] at hg1 hg2
    refine loopF hA (ι := Int) (fun i => { n := 99, sl := [(4, .v (.slice g1)), (6, .v (.slice g2)), (8, .v (.int .i64 i))], ob := [] })
      (fun i => ∃ j : Nat, i = j ∧ j ≤ gs.length) (fun i => gs.length - i.toNat) 0 (weakI rfl ⟨rfl, rfl, rfl, trivial⟩ trivial) ⟨0, rfl, Nat.zero_le _⟩ ?_
    rintro i ⟨j, hi, hj⟩
    cbv
    refine condI hA (fun hc => ?_) (fun hc => ?_)
    · have hjl := ltRs hA (natEq hi) hg1 hc
      cbv
      refine chkI hA (by kernel_rfl) ?_
      cbv
      refine getRN hA hg1 (natEq hi) hjl ?_
      rintro x1 p1 hx1 hp1
      cbv
      refine getRN hA hg2 (natEq hi) hjl ?_
      rintro x2 p2 hx2 hp2
      cbv
      refine callI hA (cSame12 x1 x2 p1 p2 hp1 hp2 (by rw [hx1]; exact hp _ (List.getElem_mem hjl))) ?_
      rintro _ ⟨c1, rfl, hc1⟩
      cbv
      refine condF hA (notI hA (hc1.trans (by rw [hx1, hx2]; exact sameM_self _))) ?_
      cbv
      refine getRN hA hg1 (natEq hi) hjl ?_
      rintro x3 p3 hx3 hp3
      cbv
      refine getRN hA hg2 (natEq hi) hjl ?_
      rintro x4 p4 hx4 hp4
      cbv
      refine callI hA (cSameR x3 x4 p3 p4 hp3 hp4 (by rw [hx3]; exact hp _ (List.getElem_mem hjl))) ?_
      rintro _ ⟨c2, rfl, hc2⟩
      cbv
      refine condF hA (notI hA (hc2.trans (by rw [hx3, hx4]; exact sameM_self _))) ?_
      cbv
      refine condI hA (fun hz => ?_) (fun hz => ?_)
      · have hz : 0 < j := nGtT hA (c := 0) rfl (natEq hi) hz
        have hm1 := subI hA (natEq hi) (b := 1) (n := 1) rfl (by omega) (by omega)
        cbv
        refine getRN hA hg1 (natEq hi) hjl ?_
        rintro x5 p5 hx5 hp5
        cbv
        refine getRN hA hg1 hm1 (by omega) ?_
        rintro x6 p6 hx6 hp6
        cbv
        refine callI hA (cSameR x5 x6 p5 p6 hp5 hp6 (by rw [hx5]; exact hp _ (List.getElem_mem hjl))) ?_
        rintro _ ⟨c3, rfl, hc3⟩
        cbv
        refine getRN hA hg2 (natEq hi) hjl ?_
        rintro x7 p7 hx7 hp7
        cbv
        refine getRN hA hg2 hm1 (by omega) ?_
        rintro x8 p8 hx8 hp8
        cbv
        refine callI hA (cSame12 x7 x8 p7 p8 hp7 hp8 (by rw [hx7]; exact hp _ (List.getElem_mem hjl))) ?_
        rintro _ ⟨c4, rfl, hc4⟩
        cbv
        refine condF hA (beqN hA (hc3.trans (by rw [hc4, hx5, hx6, hx7, hx8]))) ?_
        cbv
        exact ⟨_, weakI rfl ⟨rfl, rfl, rfl, trivial⟩ trivial, ⟨j + 1, upI hA (natEq hi) (by omega), hjl⟩, upM hA (natEq hi) hjl hsl⟩
      · cbv
        exact ⟨_, weakI rfl ⟨rfl, rfl, rfl, trivial⟩ trivial, ⟨j + 1, upI hA (natEq hi) (by omega), hjl⟩, upM hA (natEq hi) hjl hsl⟩
    · cbv
      refine callI hA (cAwake) ?_
      rintro _ rfl
      cbv
      refine retI hA ?_
      simp only [retOk, rsOk, retIds, idsD, idsDs, softOb, toV, toVs, List.append_nil, List.nil_append, Option.some.injEq, V.int.injEq, V.bool.injEq, V.slice.injEq, V.agg.injEq, V.str.injEq, true_and, and_true, hA, std]
end Go.Proofs.Ytinckcpmkocakaa.AM

/-
  THE LAW RecordScans HOLDS: for every input the law's function returns true, and the input reads as it read before. No condition.
-/
set_option linter.unusedVariables false
set_option linter.unusedSimpArgs false
namespace Go.Proofs.Ytinckcpmkocakaa.AM
open Go Go.RowKit Go.ChangeShapes Go.WideShapes Go.ChangeAt
set_option maxRecDepth 100000

theorem progOwn : ownKnob Try.prog.godebug = none := by kernel_rfl
theorem progLaid : laidOutB Try.prog = true := by kernel_rfl
theorem argsRead : ([22] : List Nat).all (fun t => Try.prog.readableRec t && Nat.blt t Try.prog.types.size) = true := by kernel_rfl
theorem recordScans_lifted (os : Os) (started : os.Started) (H : Type) (enc : TypeId × Value → H) :
    ReturnsInHanded {} Try.checked os 12 .any (Rows.recordScansSpec.pre6 enc Try.prog Try.f12 Rows.recordScansRow.domain false) (Rows.recordScansSpec.post enc Try.prog Try.f12 false true false false) := by
  refine returnsInHanded_of_change_sized (C := Try.checked) progOwn started (by kernel_rfl) Try.func12
    (ChangeSpec.witness6 (enc := enc) (C := Try.checked) false ⟨#[], #[.slice none 0 0], []⟩ 8 (by kernel_rfl) (by kernel_rfl) (by kernel_rfl) (by kernel_rfl)) ?_
  intro W base args ds gs before hval hW hcnd hwt _
  refine calls_row T_ok (ts := [22]) (tb := 4) (k := 8) (by rw [Try.params12]) (by kernel_rfl) Try.underlying4 (by decide) (fun t ht => ?_) progLaid rfl (fun ds hds => ?_) (fun xs hx hty => ?_) hval hW hwt
  · have e := List.all_eq_true.1 argsRead t (by simpa using ht)
    rw [Bool.and_eq_true] at e
    exact ⟨e.1, Nat.le_of_ble_eq_true e.2⟩
  · match ds, hds with
    | [d0], _ => rfl
  · match xs, hx, hty with
    | [x0], _, hty =>
      obtain ⟨b0, rfl, h0⟩ := tv_bytes (k := 6) rfl rfl rfl (hty 0 (by simp) (by simp))
      obtain ⟨rs, q1, rfl⟩ := c12 _ _ rfl
      exact .of_R q1

/-- **RecordScans.** -/
theorem recordScans_holds : Rows.RecordScansSaid :=
  OpenClaim.holds_of_wide 12 Try.f12 rfl rfl rfl rfl rfl rfl rfl ⟨rfl, rfl, rfl, rfl, rfl⟩ rfl rfl rfl rfl rfl (by kernel_rfl) Try.func12 (by kernel_rfl)
    (of_decide_eq_true (by kernel_rfl)) (by unfold Func.isWrapper; rw [if_neg (by decide +kernel)]; exact ⟨rfl, rfl⟩)
    (fun os started H enc _ => recordScans_lifted os started H enc)
end Go.Proofs.Ytinckcpmkocakaa.AM
