/-
  Contracts: the laws RecordPuts, RecordGets, RecordFrames.
-/
import Derived.Test.YtinckcpmkocakaaM28b9e026b6
import Derived.Test.YtinckcpmkocakaaM27058d695a
set_option linter.unusedVariables false
set_option linter.unusedSimpArgs false
namespace Go.Proofs.Ytinckcpmkocakaa.AM
open Go Go.RowKit
set_option maxRecDepth 100000
set_option maxHeartbeats 4000000

theorem cCopy12 (a : RecM) (l : List V) (ha : l = strsV a.path) (hl : a.path.length ≤ 1000000) : CallR Try.prog 25 [.agg [.int .u8 a.k, .slice l, .int .i64 a.sz, .int .u32 a.sm, .int .i64 a.mi, .int .i64 a.mo, .int .u32 a.si, .int .u32 a.so]] fun rs => rs = [.v (.agg [.int .u8 a.k, .slice l, .int .i64 a.sz, .int .u32 a.sm, .int .i64 a.mi, .int .i64 a.mo, .int .u32 a.si, .int .u32 a.so])] := by
  refine .of _ rfl ?_
  obtain ⟨k, p, sz, sm, mi, mo, si, so⟩ := a
  dsimp only at *
  refine FnR.of' T_ok M_ok (fn := Try.f25) (by kernel_rfl) rfl rfl rfl rfl (Nat.le_of_ble_eq_true rfl) fun A hA => ?_
  cbv
  refine sizedI hA (strsV_flat ha) ?_
  cbv
  refine roomI hA (by rw [ha, strsV_len]; simp; omega) ?_
  cbv
  refine retI hA ?_
  refine ⟨?_, trivial⟩
  have : A.app [] l = l := by rw [hA]; rfl
  change some (V.agg [.int .u8 k, .slice (A.app [] l), .int .i64 sz, .int .u32 sm, .int .i64 mi, .int .i64 mo, .int .u32 si, .int .u32 so]) = _
  rw [this]
theorem lenGt40 {A : Prim} {P : Program} {R : List (Nat × AObj) → List D → Prop} (hA : A = std P R) {l : List V} {p : List (List UInt8)} (hl : l = strsV p) (h : A.ilt 40 (A.lenL l) = false) : p.length ≤ 40 := by
  have := lenGtF hA hl h; simpa using this
theorem seqT {A : Prim} {P : Program} {R : List (Nat × AObj) → List D → Prop} (hA : A = std P R) {s t a b : List UInt8} (hs : s = a) (ht : t = b) (h : a = b) : A.seq s t = true := by subst hs ht h hA; simp [std]
theorem sameM_self (a : RecM) : sameM a a = true := (sameM_iff a a).2 rfl
theorem c9 (a : RecM) (l : List V) (ha : l = strsV a.path) (hr : RecOk a) : CallR Try.prog 9 [.agg [.int .u8 a.k, .slice l, .int .i64 a.sz, .int .u32 a.sm, .int .i64 a.mi, .int .i64 a.mo, .int .u32 a.si, .int .u32 a.so]] fun rs => rs = [.v (.bool true)] := by
  refine .of _ rfl ?_
  obtain ⟨a0, hae⟩ : ∃ a0, a0 = a := ⟨_, rfl⟩
  obtain ⟨k, p, sz, sm, mi, mo, si, so⟩ := a
  have hpl : p.length ≤ 140737488355328 := hr.pl
  dsimp only at ha
  refine FnR.of' T_ok M_ok (fn := Try.f9) (by kernel_rfl) rfl rfl rfl rfl (Nat.le_of_ble_eq_true rfl) fun A hA => ?_
  cbv
  refine condI hA (fun h1 => ?_) (fun h1 => ?_)
  · cbv
    refine callI hA (cAwake) ?_
    intro rs_ h_
    subst h_
    cbv
    refine retI hA ?_
    simp only [retOk, rsOk, retIds, idsD, idsDs, softOb, toV, toVs, List.append_nil, List.nil_append, Option.some.injEq, V.int.injEq, V.bool.injEq, V.slice.injEq, V.agg.injEq, V.str.injEq, true_and, and_true, hA, std]
  · have h40 := lenGt40 hA ha h1
    cbv
    refine callI hA (cCopy12 ⟨k, p, sz, sm, mi, mo, si, so⟩ l ha (by dsimp only; omega)) ?_
    intro rs_ h_
    subst h_
    cbv
    refine callI hA (cPut ⟨k, p, sz, sm, mi, mo, si, so⟩ l ha hr) ?_
    intro rs_ h_
    obtain ⟨b1, e1, q_1, hb1, he1⟩ := h_
    subst q_1
    cbv
    refine callI hA (cPut12 ⟨k, p, sz, sm, mi, mo, si, so⟩ l ha hr) ?_
    intro rs_ h_
    obtain ⟨b2, e2, q_1, hb2, he2⟩ := h_
    subst q_1
    cbv
    refine chkI hA (by kernel_rfl) ?_
    cbv
    refine b2sN hA hb1 ?_
    rintro s1 hs1
    cbv
    refine b2sN hA hb2 ?_
    rintro s2 hs2
    cbv
    refine condT hA (seqT hA hs1 hs2 rfl) ?_
    cbv
    refine condT hA (ieqT hA (he1.trans he2.symm)) ?_
    cbv
    refine callI hA (cCheck ⟨k, p, sz, sm, mi, mo, si, so⟩ l ha hpl) ?_
    intro rs_ h_
    obtain ⟨e3, q_1, he3⟩ := h_
    subst q_1
    cbv
    refine callI hA (cCheck12 ⟨k, p, sz, sm, mi, mo, si, so⟩ l ha) ?_
    intro rs_ h_
    obtain ⟨e4, q_1, he4⟩ := h_
    subst q_1
    cbv
    refine condT hA (ieqT hA (he3.trans he4.symm)) ?_
    cbv
    refine callI hA (cSame12 ⟨k, p, sz, sm, mi, mo, si, so⟩ ⟨k, p, sz, sm, mi, mo, si, so⟩ l l ha ha hpl) ?_
    intro rs_ h_
    obtain ⟨c1, q_1, hc1⟩ := h_
    subst q_1
    cbv
    refine condT hA (hc1.trans (sameM_self _)) ?_
    cbv
    refine callI hA (cAwake) ?_
    intro rs_ h_
    subst h_
    cbv
    refine retI hA ?_
    simp only [retOk, rsOk, retIds, idsD, idsDs, softOb, toV, toVs, List.append_nil, List.nil_append, Option.some.injEq, V.int.injEq, V.bool.injEq, V.slice.injEq, V.agg.injEq, V.str.injEq, true_and, and_true, hA, std]
theorem c11 (v : Int) (s : Nat) (b : List UInt8) (l : List V) (hv : v = s) (hs : s < 4294967296) (hl : l = bytesV b) : CallR Try.prog 11 [.int .u32 v, .slice l] fun rs => rs = [.v (.bool true)] := by
  refine .of _ rfl ?_
  refine FnR.of' T_ok M_ok (fn := Try.f11) (by kernel_rfl) rfl rfl rfl rfl (Nat.le_of_ble_eq_true rfl) fun A hA => ?_
  cbv
  refine callI hA (cFrame v s b l hv hs hl) ?_
  intro rs_ h_
  obtain ⟨f1, e1, q_1, hf1, he1⟩ := h_
  subst q_1
  cbv
  refine callI hA (cFrame12 v s b l hv hs hl) ?_
  intro rs_ h_
  obtain ⟨f2, e2, q_1, hf2, he2⟩ := h_
  subst q_1
  cbv
  refine b2sN hA hf1 ?_
  rintro s1 hs1
  cbv
  refine b2sN hA hf2 ?_
  rintro s2 hs2
  cbv
  refine condT hA (seqT hA hs1 hs2 rfl) ?_
  cbv
  refine condT hA (ieqT hA (he1.trans he2.symm)) ?_
  cbv
  refine callI hA (cAwake) ?_
  intro rs_ h_
  subst h_
  cbv
  refine retI hA ?_
  simp only [retOk, rsOk, retIds, idsD, idsDs, softOb, toV, toVs, List.append_nil, List.nil_append, Option.some.injEq, V.int.injEq, V.bool.injEq, V.slice.injEq, V.agg.injEq, V.str.injEq, true_and, and_true, hA, std]
theorem getR_path (b : List UInt8) : (getR b).path.length ≤ b.length := by
  unfold getR
  split
  · have p1 := unpackL_len ((unpackL b).getD 1 [])
    have p2 := getD_small b 1
    simp only [recOf]; omega
  · simp [zeroR]
theorem c10 (b : List UInt8) (l : List V) (hl : l = bytesV b) (hb : b.length ≤ 4000000000) : CallR Try.prog 10 [.slice l] fun rs => rs = [.v (.bool true)] := by
  refine .of _ rfl ?_
  refine FnR.of' T_ok M_ok (fn := Try.f10) (by kernel_rfl) rfl rfl rfl rfl (Nat.le_of_ble_eq_true rfl) fun A hA => ?_
  cbv
  refine sizedI hA (bytesV_flat hl) ?_
  cbv
  refine roomI hA (by rw [hl, bytesV_len]; simp; omega) ?_
  cbv
  have hin : A.app [] l = bytesV b := by rw [hA, ← hl]; rfl
  refine callI hA (cGet b _ hin hb) ?_
  intro rs_ h_
  obtain ⟨g1, l1, e1, q_1, hg1, hl1, he1⟩ := h_
  subst q_1
  cbv
  refine callI hA (cGet12 b l hl hb) ?_
  intro rs_ h_
  obtain ⟨g2, l2, e2, q_1, hg2, hl2, he2⟩ := h_
  subst q_1
  cbv
  refine callI hA (cSame12 g1 g2 l1 l2 hl1 hl2 (by rw [hg1]; have := getR_path b; omega)) ?_
  intro rs_ h_
  obtain ⟨c1, q_1, hc1⟩ := h_
  subst q_1
  cbv
  refine condT hA (hc1.trans (by rw [hg1, hg2]; exact sameM_self _)) ?_
  cbv
  refine condT hA (ieqT hA (he1.trans he2.symm)) ?_
  cbv
  refine b2sN hA hin ?_
  rintro s1 hs1
  cbv
  refine b2sN hA hl ?_
  rintro s2 hs2
  cbv
  refine condT hA (seqT hA hs1 hs2 rfl) ?_
  cbv
  refine callI hA (cAwake) ?_
  intro rs_ h_
  subst h_
  cbv
  refine retI hA ?_
  simp only [retOk, rsOk, retIds, idsD, idsDs, softOb, toV, toVs, List.append_nil, List.nil_append, Option.some.injEq, V.int.injEq, V.bool.injEq, V.slice.injEq, V.agg.injEq, V.str.injEq, true_and, and_true, hA, std]
end Go.Proofs.Ytinckcpmkocakaa.AM

/-
  What arguments of a type are: records.
-/
set_option linter.unusedVariables false
set_option linter.unusedSimpArgs false
namespace Go.Proofs.Ytinckcpmkocakaa.AM
open Go Go.RowKit
set_option maxRecDepth 100000
set_option maxHeartbeats 4000000

theorem flat4 {a b c d : V} : [a, b, c, d].flatMap V.flat = a.flat ++ (b.flat ++ (c.flat ++ (d.flat ++ []))) := rfl
theorem tv_mark {k : Nat} {x : V} (h : TyV (k + 2) 42 x) : ∃ mi mo si so : Int, x = .agg [.int .i64 mi, .int .i64 mo, .int .u32 si, .int .u32 so] ∧ 0 ≤ si ∧ si ≤ 4294967295 ∧ 0 ≤ so ∧ so ≤ 4294967295 := by
  obtain ⟨ys, rfl, h1, h2⟩ := tv_struct (k := k + 1) rfl h
  match ys, h1, h2 with
  | [a, b, c, d], _, h2 =>
    obtain ⟨mi, rfl, _⟩ := tv_int (k := k) (kd := .i64) rfl (h2 0 (by simp) (by decide))
    obtain ⟨mo, rfl, _⟩ := tv_int (k := k) (kd := .i64) rfl (h2 1 (by simp) (by decide))
    obtain ⟨si, rfl, s0, s1⟩ := tv_int (k := k) (kd := .u32) rfl (h2 2 (by simp) (by decide))
    obtain ⟨so, rfl, o0, o1⟩ := tv_int (k := k) (kd := .u32) rfl (h2 3 (by simp) (by decide))
    exact ⟨mi, mo, si, so, rfl, s0, s1, o0, o1⟩
theorem tv_rec {k : Nat} {x : V} (h : TyV (k + 3) 44 x) : ∃ a : RecM, x = recV a ∧ RecOk a := by
  obtain ⟨ys, rfl, h1, h2⟩ := tv_struct (k := k + 2) rfl h
  match ys, h1, h2 with
  | [a, b, c, d, e], _, h2 =>
    obtain ⟨kd, rfl, k0, k1⟩ := tv_int (k := k + 1) (kd := .u8) rfl (h2 0 (by simp) (by decide))
    obtain ⟨p, rfl, p1, p2⟩ := tv_strs (k := k) rfl rfl rfl (h2 1 (by simp) (by decide))
    obtain ⟨sz, rfl, _⟩ := tv_int (k := k + 1) (kd := .i64) rfl (h2 2 (by simp) (by decide))
    obtain ⟨sm, rfl, m0, m1⟩ := tv_int (k := k + 1) (kd := .u32) rfl (h2 3 (by simp) (by decide))
    obtain ⟨mi, mo, si, so, rfl, s0, s1, o0, o1⟩ := tv_mark (k := k) (h2 4 (by simp) (by decide))
    refine ⟨⟨kd, p, sz, sm, mi, mo, si, so⟩, rfl, ⟨k0, k1, m0, m1, s0, s1, o0, o1, by dsimp only; omega, p2⟩⟩
theorem tv_recs {k : Nat} {x : V} (h : TyV (k + 4) 63 x) : ∃ gs : List RecM, x = .slice (recsV gs) ∧ gs.length ≤ 140737488355328 ∧ ∀ a ∈ gs, RecOk a := by
  obtain ⟨l, rfl, h1, h2⟩ := tv_slice (k := k + 3) rfl h
  have key : ∀ l : List V, (∀ y ∈ l, TyV (k + 3) 44 y) → ∃ gs, l = recsV gs ∧ ∀ a ∈ gs, RecOk a := by
    intro l
    induction l with
    | nil => exact fun _ => ⟨[], rfl, by simp⟩
    | cons y r ih =>
      intro h
      obtain ⟨a, rfl, ha⟩ := tv_rec (k := k) (h y (by simp))
      obtain ⟨gs, rfl, hgs⟩ := ih fun z hz => h z (List.mem_cons_of_mem _ hz)
      exact ⟨a :: gs, rfl, fun c hc => (List.mem_cons.1 hc).elim (fun e => e ▸ ha) (hgs c)⟩
  obtain ⟨gs, rfl, hgs⟩ := key l h2
  rw [recsV_len] at h1
  have hb : 1 ≤ (tyOf 44).bytes := by decide
  exact ⟨gs, rfl, Nat.le_trans (Nat.le_mul_of_pos_right _ hb) h1, hgs⟩
end Go.Proofs.Ytinckcpmkocakaa.AM

/-
  Contracts: the law RecordScans.
-/
set_option linter.unusedVariables false
set_option linter.unusedSimpArgs false
namespace Go.Proofs.Ytinckcpmkocakaa.AM
open Go Go.RowKit
set_option maxRecDepth 100000
set_option maxHeartbeats 4000000

theorem scan_paths (n : Nat) : ∀ (b : List UInt8) (s : Nat), b.length ≤ n → ∀ g ∈ (scanM s b).1, g.path.length ≤ b.length := by
  induction n with
  | zero =>
    intro b s hb g hg
    rw [scanM_none (by unfold stepM; rw [if_pos (by omega)])] at hg
    simp at hg
  | succ n ih =>
    intro b s hb g hg
    cases h : stepM s b with
    | none => rw [scanM_none h] at hg; simp at hg
    | some r =>
      have q := stepM_some h
      rw [scanM_some h] at hg
      rcases List.mem_cons.1 hg with rfl | hg
      · unfold stepM at h
        split at h
        · cases h
        · split at h
          · cases h
          · split at h
            · cases h
              have := getR_path ((b.take (10 + twoM b)).drop 10)
              simp at this ⊢; omega
            · cases h
      · have := ih (b.drop r.2) (s + 1) (by simp; omega) g hg
        simp at this; omega
theorem scan_len (n : Nat) : ∀ (b : List UInt8) (s : Nat), b.length ≤ n → (scanM s b).1.length ≤ b.length := by
  induction n with
  | zero =>
    intro b s hb
    rw [scanM_none (by unfold stepM; rw [if_pos (by omega)])]
    simp
  | succ n ih =>
    intro b s hb
    cases h : stepM s b with
    | none => rw [scanM_none h]; simp
    | some r =>
      have q := stepM_some h
      rw [scanM_some h]
      have := ih (b.drop r.2) (s + 1) (by simp; omega)
      simp at this ⊢; omega
section
variable {A : Prim} {P : Program} {R : List (Nat × AObj) → List D → Prop} (hA : A = std P R)
include hA
theorem getRN {gs : List RecM} {l : List V} {i : Int} {j : Nat} {K : List V → Prop} (hl : l = recsV gs) (hi : i = j) (hj : j < gs.length) (hK : ∀ (g : RecM) (lp : List V), g = gs[j]'hj → lp = strsV g.path → K [.int .u8 g.k, .slice lp, .int .i64 g.sz, .int .u32 g.sm, .int .i64 g.mi, .int .i64 g.mo, .int .u32 g.si, .int .u32 g.so]) : A.getA 8 l i K := by
  refine getAI hA _ ⟨by omega, ?_, ?_⟩ (hK _ _ rfl rfl)
  · rw [hl, hi, Int.toNat_natCast]; simp [recsV, recV, hj]
  · rfl
theorem notI {c : Bool} (h : c = true) : A.not c = false := by subst hA h; rfl
theorem ltRs {i : Int} {j : Nat} {l : List V} {gs : List RecM} (hi : i = (j : Int)) (hl : l = recsV gs) (h : A.ilt i (A.lenL l) = true) : j < gs.length := ltL hA hi (lenRs hl) h
theorem ineN {a b : Int} (h : a = b) : A.ine a b = false := by subst hA h; simp [std]
theorem sneN {s t a b : List UInt8} (hs : s = a) (ht : t = b) (h : a = b) : A.sne s t = false := by subst hs ht h hA; simp [std]
theorem beqN {a b : Bool} (h : a = b) : A.not (A.beq a b) = false := by subst hA h; simp [std]
end
theorem c12 (b : List UInt8) (l : List V) (hl : l = bytesV b) : CallR Try.prog 12 [.slice l] fun rs => rs = [.v (.bool true)] := by
  refine .of _ rfl ?_
  refine FnR.of' T_ok M_ok (fn := Try.f12) (by kernel_rfl) rfl rfl rfl rfl (Nat.le_of_ble_eq_true rfl) fun A hA => ?_
  cbv
  refine condI hA (fun h1 => ?_) (fun h1 => ?_)
  · cbv
    refine callI hA (cAwake) ?_
    intro rs_ h_
    subst h_
    cbv
    refine retI hA ?_
    simp only [retOk, rsOk, retIds, idsD, idsDs, softOb, toV, toVs, List.append_nil, List.nil_append, Option.some.injEq, V.int.injEq, V.bool.injEq, V.slice.injEq, V.agg.injEq, V.str.injEq, true_and, and_true, hA, std]
  · have hb := bGtF hA (m := 20000) hl rfl h1
    cbv
    refine sizedI hA (bytesV_flat hl) ?_
    cbv
    refine roomI hA (by rw [hl, bytesV_len]; simp; omega) ?_
    cbv
    have hin : A.app [] l = bytesV b := by rw [hA, ← hl]; rfl
    refine callI hA (cScan b _ hin (by omega)) ?_
    intro rs_ h_
    obtain ⟨g1, e1, q_1, hg1, he1⟩ := h_
    subst q_1
    cbv
    refine callI hA (cScan12 b l hl (by omega)) ?_
    intro rs_ h_
    obtain ⟨g2, e2, q_1, hg2, he2⟩ := h_
    subst q_1
    cbv
    refine condF hA (ineN hA (a := A.lenL g1) (b := A.lenL g2) (by rw [hg1, hg2])) ?_
    cbv
    refine condF hA (ineN hA (he1.trans he2.symm)) ?_
    cbv
    refine b2sN hA hin ?_
    rintro s1 hs1
    cbv
    refine b2sN hA hl ?_
    rintro s2 hs2
    cbv
    refine condF hA (sneN hA hs1 hs2 rfl) ?_
    cbv
    obtain ⟨gs, hgs⟩ : ∃ gs, gs = (scanM 0 b).1 := ⟨_, rfl⟩
    have hp : ∀ g ∈ gs, g.path.length ≤ 140737488355328 := fun g hg => by
      have := scan_paths _ b 0 (Nat.le_refl _) g (hgs ▸ hg); omega
    have hsl : gs.length ≤ 140737488355328 := by
      have := scan_len _ b 0 (Nat.le_refl _)
      rw [← hgs] at this; omega
    rw [← hgs] at hg1 hg2
    refine loopF hA (ι := Int) (fun i => { n := 99, sl := [(4, .v (.slice g1)), (6, .v (.slice g2)), (8, .v (.int .i64 i))], ob := [] })
      (fun i => ∃ j : Nat, i = j ∧ j ≤ gs.length) (fun i => gs.length - i.toNat) 0 (weakI rfl ⟨rfl, rfl, rfl, trivial⟩ trivial) ⟨0, rfl, Nat.zero_le _⟩ ?_
    rintro i ⟨j, hi, hj⟩
    cbv
    refine condI hA (fun hc => ?_) (fun hc => ?_)
    · have hjl := ltRs hA (natEq hi) hg1 hc
      cbv
      refine chkI hA (by kernel_rfl) ?_
      cbv
      refine getRN hA hg1 (natEq hi) hjl ?_
      rintro x1 p1 hx1 hp1
      cbv
      refine getRN hA hg2 (natEq hi) hjl ?_
      rintro x2 p2 hx2 hp2
      cbv
      refine callI hA (cSame12 x1 x2 p1 p2 hp1 hp2 (by rw [hx1]; exact hp _ (List.getElem_mem hjl))) ?_
      intro rs_ h_
      obtain ⟨c1, q_1, hc1⟩ := h_
      subst q_1
      cbv
      refine condF hA (notI hA (hc1.trans (by rw [hx1, hx2]; exact sameM_self _))) ?_
      cbv
      refine getRN hA hg1 (natEq hi) hjl ?_
      rintro x3 p3 hx3 hp3
      cbv
      refine getRN hA hg2 (natEq hi) hjl ?_
      rintro x4 p4 hx4 hp4
      cbv
      refine callI hA (cSameR x3 x4 p3 p4 hp3 hp4 (by rw [hx3]; exact hp _ (List.getElem_mem hjl))) ?_
      intro rs_ h_
      obtain ⟨c2, q_1, hc2⟩ := h_
      subst q_1
      cbv
      refine condF hA (notI hA (hc2.trans (by rw [hx3, hx4]; exact sameM_self _))) ?_
      cbv
      refine condI hA (fun hz => ?_) (fun hz => ?_)
      · have hz : 0 < j := nGtT hA (c := 0) rfl (natEq hi) hz
        have hm1 := subI hA (natEq hi) (b := 1) (n := 1) rfl (by omega) (by omega)
        cbv
        refine getRN hA hg1 (natEq hi) hjl ?_
        rintro x5 p5 hx5 hp5
        cbv
        refine getRN hA hg1 hm1 (by omega) ?_
        rintro x6 p6 hx6 hp6
        cbv
        refine callI hA (cSameR x5 x6 p5 p6 hp5 hp6 (by rw [hx5]; exact hp _ (List.getElem_mem hjl))) ?_
        intro rs_ h_
        obtain ⟨c3, q_1, hc3⟩ := h_
        subst q_1
        cbv
        refine getRN hA hg2 (natEq hi) hjl ?_
        rintro x7 p7 hx7 hp7
        cbv
        refine getRN hA hg2 hm1 (by omega) ?_
        rintro x8 p8 hx8 hp8
        cbv
        refine callI hA (cSame12 x7 x8 p7 p8 hp7 hp8 (by rw [hx7]; exact hp _ (List.getElem_mem hjl))) ?_
        intro rs_ h_
        obtain ⟨c4, q_1, hc4⟩ := h_
        subst q_1
        cbv
        refine condF hA (beqN hA (hc3.trans (by rw [hc4, hx5, hx6, hx7, hx8]))) ?_
        cbv
        exact ⟨_, weakI rfl ⟨rfl, rfl, rfl, trivial⟩ trivial, ⟨j + 1, upI hA (natEq hi) (by omega), hjl⟩, upM hA (natEq hi) hjl hsl⟩
      · cbv
        exact ⟨_, weakI rfl ⟨rfl, rfl, rfl, trivial⟩ trivial, ⟨j + 1, upI hA (natEq hi) (by omega), hjl⟩, upM hA (natEq hi) hjl hsl⟩
    · cbv
      refine callI hA (cAwake) ?_
      intro rs_ h_
      subst h_
      cbv
      refine retI hA ?_
      simp only [retOk, rsOk, retIds, idsD, idsDs, softOb, toV, toVs, List.append_nil, List.nil_append, Option.some.injEq, V.int.injEq, V.bool.injEq, V.slice.injEq, V.agg.injEq, V.str.injEq, true_and, and_true, hA, std]
end Go.Proofs.Ytinckcpmkocakaa.AM

/-
  Frames laid one behind the other.
-/
set_option linter.unusedVariables false
set_option linter.unusedSimpArgs false
namespace Go.Proofs.Ytinckcpmkocakaa.AM
open Go Go.RowKit
set_option maxRecDepth 100000
set_option maxHeartbeats 4000000

def framesB : Nat → List RecM → List UInt8
  | _, [] => []
  | s, a :: r => frameL s (putB a) ++ framesB (s + 1) r
def Good (a : RecM) : Prop := RecOk a ∧ checkM a = true
theorem framesB_snoc : ∀ (gs : List RecM) (s : Nat) (a : RecM), framesB s (gs ++ [a]) = framesB s gs ++ frameL (s + gs.length) (putB a)
  | [], s, a => by simp [framesB]
  | g :: r, s, a => by
    simp only [List.cons_append, framesB, framesB_snoc r (s + 1) a, List.append_assoc, List.length_cons]
    rw [show s + 1 + r.length = s + (r.length + 1) from by omega]
theorem framesB_len (gs : List RecM) : ∀ s, (∀ a ∈ gs, Good a) → (framesB s gs).length ≤ gs.length * 1034 := by
  induction gs with
  | nil => intro s _; simp [framesB]
  | cons g r ih =>
    intro s h
    have h1 := ih (s + 1) fun a ha => h a (List.mem_cons_of_mem _ ha)
    have h2 := putB_small (h g (by simp)).1
    simp only [framesB, List.length_append, frameL_len, List.length_cons]
    omega
/-- All that was laid is read, whatever stands behind. -/
theorem scan_frames : ∀ (gs : List RecM) (s : Nat) (t : List UInt8), (∀ a ∈ gs, Good a) → scanM s (framesB s gs ++ t) = (gs ++ (scanM (s + gs.length) t).1, (framesB s gs).length + (scanM (s + gs.length) t).2)
  | [], s, t, _ => by simp [framesB]
  | g :: r, s, t, h => by
    have hg := h g (by simp)
    simp only [framesB, List.append_assoc]
    rw [scan_frame hg.1 hg.2, scan_frames r (s + 1) t fun a ha => h a (List.mem_cons_of_mem _ ha)]
    simp only [List.cons_append, List.length_append, List.length_cons, Prod.mk.injEq]
    rw [show s + 1 + r.length = s + (r.length + 1) from by omega]
    exact ⟨rfl, by omega⟩
theorem twoM_take {b : List UInt8} {n : Nat} (h : 2 ≤ n) : twoM (b.take n) = twoM b := by
  match b, n, h with
  | [], _, _ => simp
  | [x], n + 2, _ => simp [List.take]
  | x :: y :: r, n + 2, _ => simp [List.take, twoM]
/-- A frame that is not whole is not read. -/
theorem step_part {a : RecM} (hg : Good a) (s : Nat) (t : List UInt8) {n : Nat} (h : n < (frameL s (putB a)).length) : stepM s ((frameL s (putB a) ++ t).take n) = none := by
  have hb := putB_small hg.1
  have ht := twoM_frame s (putB a) hb t
  have hl := frameL_len s (putB a)
  unfold stepM
  split
  · rfl
  · rename_i h10
    have hn : ((frameL s (putB a) ++ t).take n).length = n := by rw [List.length_take, List.length_append]; omega
    rw [hn] at h10
    rw [twoM_take (by omega), ht, hn, if_pos (by omega)]
/-- What is read of a part: the frames that lie in it whole. -/
theorem scan_part : ∀ (gs : List RecM) (s n : Nat), (∀ a ∈ gs, Good a) → n ≤ (framesB s gs).length → ∃ k, k ≤ gs.length ∧ scanM s ((framesB s gs).take n) = (gs.take k, (framesB s (gs.take k)).length) ∧ (framesB s (gs.take k)).length ≤ n ∧ (n < (framesB s gs).length → k < gs.length ∧ n < (framesB s (gs.take (k + 1))).length)
  | [], s, n, _, hn => ⟨0, by simp, by
    have : (framesB s []).take n = [] := by simp [framesB]
    rw [this, scan_nil]; simp [framesB], by simp [framesB], by simp [framesB]⟩
  | g :: r, s, n, h, hn => by
    have hg := h g (by simp)
    by_cases q : n < (frameL s (putB g)).length
    · refine ⟨0, by simp, ?_, by simp [framesB], fun _ => ⟨by simp, by simpa [framesB] using q⟩⟩
      simp only [framesB, List.take_zero, List.length_nil]
      exact scanM_none (step_part hg s _ q)
    · simp only [framesB, List.length_append] at hn
      obtain ⟨k, k1, k2, k3, k4⟩ := scan_part r (s + 1) (n - (frameL s (putB g)).length) (fun a ha => h a (List.mem_cons_of_mem _ ha)) (by omega)
      refine ⟨k + 1, by simp; omega, ?_, ?_, ?_⟩
      · simp only [framesB, List.take_succ_cons]
        rw [List.take_append, List.take_of_length_le (by omega), scan_frame hg.1 hg.2, k2]
        simp
      · simp only [List.take_succ_cons, framesB, List.length_append]; omega
      · intro hl
        simp only [framesB, List.length_append] at hl
        have := k4 (by omega)
        refine ⟨by simp; omega, ?_⟩
        simp only [List.take_succ_cons, framesB, List.length_append]; omega
def kept (gs : List RecM) : List RecM := gs.filter checkM
theorem kept_good {gs : List RecM} (h : ∀ a ∈ gs, RecOk a) : ∀ a ∈ kept gs, Good a := fun a ha => by
  rw [kept, List.mem_filter] at ha
  exact ⟨h a ha.1, ha.2⟩
theorem kept_len (gs : List RecM) : (kept gs).length ≤ gs.length := List.length_filter_le _ _
theorem kept_take {gs : List RecM} {j : Nat} (h : j < gs.length) : kept (gs.take (j + 1)) = kept (gs.take j) ++ (if checkM gs[j] then [gs[j]] else []) := by
  rw [List.take_succ_eq_append_getElem h]
  simp only [kept, List.filter_append, List.filter_cons, List.filter_nil]
theorem cLaid (gs : List RecM) (l : List V) (hl : l = recsV gs) (hgs : gs.length ≤ 1000) (ho : ∀ a ∈ gs, RecOk a) : CallR Try.prog 38 [.slice l] fun rs => ∃ ob kb, rs = [.o 1 ob, .v (.slice kb)] ∧ ob = bytesV (framesB 0 (kept gs)) ∧ kb = recsV (kept gs) := by
  obtain ⟨ob, hob⟩ : ∃ ob, ob = bytesV (framesB 0 (kept gs)) := ⟨_, rfl⟩
  obtain ⟨kb, hkb⟩ : ∃ kb, kb = recsV (kept gs) := ⟨_, rfl⟩
  refine .of _ ⟨ob, kb, rfl, hob, hkb⟩ ?_
  refine FnR.of' T_ok M_ok (fn := Try.f38) (by kernel_rfl) rfl rfl rfl rfl (Nat.le_of_ble_eq_true rfl) fun A hA => ?_
  cbv
  refine loopF hA (ι := Int × List V × List V) (fun p => { n := 47, sl := [(0, .v (.slice l)), (4, .own 37), (5, .own 44), (6, .v (.int .i64 p.1))], ob := [(37, .row 1 p.2.1 true), (44, .row 8 p.2.2 true)] })
    (fun p => ∃ j : Nat, p.1 = j ∧ j ≤ gs.length ∧ p.2.1 = bytesV (framesB 0 (kept (gs.take j))) ∧ p.2.2 = recsV (kept (gs.take j))) (fun p => gs.length - p.1.toNat) (_, _, _) ((weak_nils _ 4 37 1 true rfl).trans ((weak_nils _ 5 44 8 true rfl).trans (weakI rfl ⟨rfl, rfl, rfl, rfl, trivial⟩ ⟨rfl, rfl, trivial⟩))) ⟨0, rfl, Nat.zero_le _, rfl, rfl⟩ ?_
  rintro ⟨i, x, y⟩ ⟨j, hi, hj, hx, hy⟩
  dsimp only at hi hx hy
  have hkg : ∀ a ∈ kept (gs.take j), Good a := kept_good fun a ha => ho a (List.mem_of_mem_take ha)
  have hkl : (kept (gs.take j)).length ≤ j := by have := kept_len (gs.take j); rw [List.length_take] at this; omega
  have hfl := framesB_len (kept (gs.take j)) 0 hkg
  cbv
  refine condI hA (fun hc => ?_) (fun hc => ?_)
  · have hjl := ltRs hA (natEq hi) hl hc
    have hgj := ho _ (List.getElem_mem hjl)
    have ht := kept_take hjl
    cbv
    refine getRN hA hl (natEq hi) hjl ?_
    rintro g lp hg hlp
    cbv
    refine callI hA (cPut g lp hlp (hg ▸ hgj)) ?_
    intro rs_ h_
    obtain ⟨pb, e1, q_1, hpb, he1⟩ := h_
    subst q_1
    cbv
    refine condI hA (fun h1 => ?_) (fun h1 => ?_)
    · have h1 := ine_err hA h1
      have hck : checkM (gs[j]'hjl) = false := by
        cases hq : checkM (gs[j]'hjl) with
        | false => rfl
        | true => rw [he1, hg] at h1; simp [putE, hq] at h1
      rw [hck] at ht
      exact ⟨(_, _, _), weakI rfl ⟨rfl, rfl, rfl, rfl, trivial⟩ ⟨rfl, rfl, trivial⟩, ⟨j + 1, upI hA (natEq hi) (by omega), hjl, hx.trans (by rw [ht]; simp), hy.trans (by rw [ht]; simp)⟩, upM hA (natEq hi) hjl (by omega)⟩
    · have h1 := ine_ok hA h1
      have hck : checkM (gs[j]'hjl) = true := by
        cases hq : checkM (gs[j]'hjl) with
        | true => rfl
        | false => rw [he1, hg] at h1; simp [putE, hq] at h1
      rw [hck] at ht
      simp only [if_true] at ht
      cbv
      have hseq := wU' hA (lenR hA hy) (by omega)
      refine callI hA (cFrame _ _ _ pb hseq (by omega) hpb) ?_
      intro rs_ h_
      obtain ⟨fb, e2, q_1, hfb, he2⟩ := h_
      subst q_1
      cbv
      have hsm := putB_small hgj
      have hfb : fb = bytesV (frameL (kept (gs.take j)).length (putB (gs[j]'hjl))) := by rw [hfb, hg]; unfold frameB; rw [if_neg (by omega)]
      refine chkI hA (by kernel_rfl) ?_
      cbv
      refine getRN hA hl (natEq hi) hjl ?_
      rintro g2 lp2 hg2 hlp2
      cbv
      refine sizedI hA (bytesV_flat hfb) ?_
      cbv
      refine roomI hA (room_of hx hfb (by rw [frameL_len]; omega)) ?_
      cbv
      have hg1 : [V.agg [.int .u8 g2.k, .slice lp2, .int .i64 g2.sz, .int .u32 g2.sm, .int .i64 g2.mi, .int .i64 g2.mo, .int .u32 g2.si, .int .u32 g2.so]] = recsV [gs[j]'hjl] := by
        rw [hlp2, hg2]; rfl
      refine sizedI hA (by simp [V.flat]) ?_
      cbv
      refine roomI hA (by rw [hy, recsV_len]; simp; omega) ?_
      cbv
      refine ⟨(_, _, _), weakI rfl ⟨rfl, rfl, rfl, rfl, trivial⟩ ⟨rfl, rfl, trivial⟩, ⟨j + 1, upI hA (natEq hi) (by omega), hjl, (app_of hA hx hfb).trans ?_, (app_rs hA hy hg1).trans (by rw [ht])⟩, upM hA (natEq hi) hjl (by omega)⟩
      rw [ht, framesB_snoc, Nat.zero_add]
  · have hjl := geL hA (natEq hi) (lenRs hl) hc hj
    cbv
    subst hjl
    rw [List.take_length] at hx hy
    refine retI hA ?_
    exact ⟨rfl, congrArg (fun q => some (AObj.row 1 q true)) (hx.trans hob.symm), congrArg (fun q => some (V.slice q)) (hy.trans hkb.symm), trivial⟩
end Go.Proofs.Ytinckcpmkocakaa.AM

/-
  Contracts, part 6: the law SumTurned.
-/
set_option linter.unusedVariables false
set_option linter.unusedSimpArgs false
namespace Go.Proofs.Ytinckcpmkocakaa.AM
open Go Go.RowKit
set_option maxRecDepth 100000
set_option maxHeartbeats 4000000

theorem one_zero {n : Nat} (hn : n < 4294967296) (h : one n = 0) : n = 0 := by
  unfold one at h
  split at h
  · have h2 : n / 2 = 3988292384 := by
      have := congrArg (· ^^^ 3988292384) h
      simpa [Nat.xor_assoc] using this
    omega
  · omega
theorem one_inj {a b : Nat} (ha : a < 4294967296) (hb : b < 4294967296) (h : one a = one b) : a = b := by
  have h1 : one (a ^^^ b) = 0 := by rw [one_xor, h, Nat.xor_self]
  have h2 := one_zero (Nat.xor_lt_two_pow (n := 32) ha hb) h1
  have := congrArg (a ^^^ ·) h2
  simp only [← Nat.xor_assoc, Nat.xor_self, Nat.zero_xor, Nat.xor_zero] at this
  exact this.symm
theorem ones_inj : ∀ (k : Nat) {a b : Nat}, a < 4294967296 → b < 4294967296 → ones k a = ones k b → a = b
  | 0, _, _, _, _, h => h
  | k + 1, a, b, ha, hb, h => one_inj ha hb (ones_inj k (one_lt ha) (one_lt hb) h)
theorem xor_left {a b c : Nat} (h : a ^^^ b = a ^^^ c) : b = c := by
  have := congrArg (a ^^^ ·) h
  simpa only [← Nat.xor_assoc, Nat.xor_self, Nat.zero_xor] using this
theorem xor_right {a b c : Nat} (h : b ^^^ a = c ^^^ a) : b = c := xor_left (a := a) (by rw [Nat.xor_comm, h, Nat.xor_comm])
theorem addN_inj : ∀ (b : List UInt8) {x y : Nat}, x < 4294967296 → y < 4294967296 → addN x b = addN y b → x = y
  | [], _, _, _, _, h => h
  | c :: b, x, y, hx, hy, h => by
    have hc := c.toNat_lt
    have h1 : x ^^^ c.toNat < 4294967296 := Nat.xor_lt_two_pow (n := 32) hx (by omega)
    have h2 : y ^^^ c.toNat < 4294967296 := Nat.xor_lt_two_pow (n := 32) hy (by omega)
    have h3 := addN_inj b (ones_lt 8 h1) (ones_lt 8 h2) h
    exact xor_right (ones_inj 8 h1 h2 h3)
theorem addN_set {x : Nat} (hx : x < 4294967296) (b : List UInt8) (k : Nat) (hk : k < b.length) (c : UInt8) (h : addN x (b.set k c) = addN x b) : c = b[k] := by
  have e1 : b.set k c = b.take k ++ c :: b.drop (k + 1) := by
    rw [List.set_eq_take_append_cons_drop, if_pos hk]
  have e2 : b = b.take k ++ b[k] :: b.drop (k + 1) := by simp
  rw [e1] at h
  conv at h => rhs; rw [e2]
  rw [addN_append, addN_append] at h
  have hlt := addN_lt hx (b.take k)
  have h3 := c.toNat_lt
  have h4 := (b[k]).toNat_lt
  have h1 : addN x (b.take k) ^^^ c.toNat < 4294967296 := Nat.xor_lt_two_pow (n := 32) hlt (by omega)
  have h2 : addN x (b.take k) ^^^ (b[k]).toNat < 4294967296 := Nat.xor_lt_two_pow (n := 32) hlt (by omega)
  have h5 := ones_inj 8 h1 h2 (addN_inj (b.drop (k + 1)) (ones_lt 8 h1) (ones_lt 8 h2) h)
  exact UInt8.toNat_inj.1 (xor_left h5)
theorem sumN_set (b : List UInt8) (k : Nat) (hk : k < b.length) (c : UInt8) : (sumN 0 (b.set k c) = sumN 0 b) ↔ c = b[k] := by
  refine ⟨fun h => ?_, fun h => by rw [h]; simp⟩
  rw [sumN_of, sumN_of] at h
  exact addN_set (by decide) b k hk c (xor_right h)
theorem bytesV_set (b : List UInt8) (k : Nat) (c : UInt8) : (bytesV b).set k (.int .u8 (c.toNat : Nat)) = bytesV (b.set k c) := by simp [bytesV]
theorem xor_byte (c : UInt8) (n : Nat) (hn : n < 256) : c.toNat ^^^ n = (UInt8.ofNat (c.toNat ^^^ n)).toNat := by
  have := c.toNat_lt
  have h : c.toNat ^^^ n < 256 := Nat.xor_lt_two_pow (n := 8) (by omega) hn
  rw [UInt8.toNat_ofNat']; omega
theorem idx_turned {a : Int} {n m k : Nat} (ha : a = (n : Int)) (hn : n < 65536) (hk : k = n % m) : (IntKind.i64.wrap a).tmod (m : Int) = (k : Int) := by
  rw [ha, wrap_i64 (by omega) (by omega), hk]; rfl
theorem bd_idx {x : Int} {k n : Nat} (hx : x = (k : Int)) (hk : k < n) : 0 ≤ x ∧ x < (n : Int) := by omega
theorem len_app (l : List V) (b : List UInt8) (hl : l = bytesV b) : ([] ++ l).length = b.length := by subst hl; simp [bytesV]

theorem c6 (b : List UInt8) (l : List V) (a : Int) (n : Nat) (y : Int) (m : Nat) (hl : l = bytesV b) (hb : b.length ≤ 140737488355328) (ha : a = n) (hn : n < 65536) (hy : y = m) (hm : m < 256) : CallR Try.prog 6 [.slice l, .int .u16 a, .int .u8 y] fun rs => rs = [.v (.bool true)] := by
  refine .of [.v (.bool true)] rfl ?_
  have hlen : l.length = b.length := by rw [hl]; simp [bytesV]
  refine FnR.of' T_ok M_ok (fn := Try.f6) (by kernel_rfl) rfl rfl rfl rfl (Nat.le_of_ble_eq_true rfl) fun A hA => ?_
  cbv
  refine condI hA (fun hc => ?_) (fun hc => ?_)
  · cbv
    refine callI hA (c16 [] _ rfl (by decide)) ?_
    intro rs_ h_
    obtain ⟨r, q_1, hr⟩ := h_
    subst q_1
    cbv
    have e1 : A.ieq r 0 = true := by rw [hA, hr]; decide +kernel
    refine condT hA e1 ?_
    cbv
    refine callI hA (c18) ?_
    intro rs_ h_
    subst h_
    cbv
    refine retI hA ?_
    simp only [retOk, rsOk, retIds, idsD, idsDs, softOb, toV, toVs, List.append_nil, List.nil_append, Option.some.injEq, V.int.injEq, V.bool.injEq, V.slice.injEq, V.agg.injEq, V.str.injEq, true_and, and_true, hA, std]
  · have hpos : 0 < b.length := by
      rw [hA] at hc
      have : ¬ ((l.length : Int) = 0) := by simpa [std] using hc
      omega
    obtain ⟨k, hkv⟩ : ∃ k, k = n % b.length := ⟨_, rfl⟩
    have hkl : k < b.length := by rw [hkv]; exact Nat.mod_lt n hpos
    replace ha := natEq ha
    replace hy := natEq hy
    have hsz := bytesV_flat hl
    cbv
    refine sizedI hA hsz ?_
    cbv
    refine roomI hA (by change (([] : List V).length + l.length) * 1 ≤ _ ∧ _; rw [hlen]; simp; omega) ?_
    cbv
    have happ : A.app [] l = bytesV b := by rw [hA]; exact hl
    have hll : A.lenL (A.app [] l) = (b.length : Int) := by rw [happ, hA]; simp only [std]; rw [bytesV_len]
    have hk : A.tmod (A.wrap .i64 a) (A.lenL (A.app [] l)) = (k : Int) := by
      rw [hll, hA]; exact idx_turned ha hn hkv
    have hin : 0 ≤ A.tmod (A.wrap .i64 a) (A.lenL (A.app [] l)) ∧ A.tmod (A.wrap .i64 a) (A.lenL (A.app [] l)) < (A.app [] l).length := by
      rw [happ, bytesV_len]; rw [happ] at hk; exact bd_idx hk hkl
    refine nzI hA (by change A.lenL (A.app [] l) ≠ 0; rw [hll]; omega) ?_
    cbv
    refine inRI hA hin ?_
    cbv
    refine getBN hA happ hk hkl ?_
    rintro c hcv
    cbv
    refine inRI hA hin ?_
    cbv
    refine inRI hA hin ?_
    cbv
    have hset : A.setL (A.app [] l) (A.tmod (A.wrap .i64 a) (A.lenL (A.app [] l))) (.int .u8 (A.bits .xor .u8 c y)) = bytesV (b.set k (UInt8.ofNat ((b[k]'hkl).toNat ^^^ m))) := by
      have h1 : A.bits .xor .u8 c y = (((UInt8.ofNat ((b[k]'hkl).toNat ^^^ m)).toNat : Nat) : Int) := by
        rw [hA, hcv, hy]; simp only [std]
        rw [bits_xor_u8_nat _ _ (b[k]'hkl).toNat_lt hm]; exact congrArg Nat.cast (xor_byte _ _ hm)
      rw [h1, hk, happ, hA]; simp only [std]
      rw [Int.toNat_natCast, bytesV_set]
    refine callI hA (c16 _ _ hset (by simpa using hb)) ?_
    intro rs_ h_
    obtain ⟨r1, q_1, hr1⟩ := h_
    subst q_1
    cbv
    refine callI hA (c16 b l hl hb) ?_
    intro rs_ h_
    obtain ⟨r2, q_1, hr2⟩ := h_
    subst q_1
    cbv
    have e1 : A.beq (A.ieq r1 r2) (A.ieq y 0) = true := by
      rw [hA, hr1, hr2, hy]; simp only [std]
      have h1 := sumN_set b k hkl (UInt8.ofNat ((b[k]'hkl).toNat ^^^ m))
      have h2 : (UInt8.ofNat ((b[k]'hkl).toNat ^^^ m) = b[k]'hkl) ↔ m = 0 := by
        rw [← UInt8.toNat_inj, ← xor_byte _ _ hm]
        refine ⟨fun h => xor_left (a := (b[k]'hkl).toNat) (by simpa using h), fun h => by rw [h]; simp⟩
      rw [h2] at h1
      by_cases hm0 : m = 0
      · have := h1.2 hm0; rw [this]; simp [hm0]
      · have : ¬ _ := fun h => hm0 (h1.1 h)
        simp only [beq_iff_eq]
        rw [beq_eq_false_iff_ne.2 (fun h => this (by exact_mod_cast h)), beq_eq_false_iff_ne.2 (fun h => hm0 (by exact_mod_cast h))]
    refine condT hA e1 ?_
    cbv
    refine callI hA (c18) ?_
    intro rs_ h_
    subst h_
    cbv
    refine retI hA ?_
    simp only [retOk, rsOk, retIds, idsD, idsDs, softOb, toV, toVs, List.append_nil, List.nil_append, Option.some.injEq, V.int.injEq, V.bool.injEq, V.slice.injEq, V.agg.injEq, V.str.injEq, true_and, and_true, hA, std]
end Go.Proofs.Ytinckcpmkocakaa.AM
