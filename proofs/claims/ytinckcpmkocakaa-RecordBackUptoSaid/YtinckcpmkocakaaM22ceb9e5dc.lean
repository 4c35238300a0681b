/-
  Contracts: lists compared and searched.
-/
import Derived.Test.YtinckcpmkocakaaM217e681462
set_option linter.unusedVariables false
set_option linter.unusedSimpArgs false
namespace Go.Proofs.Ytinckcpmkocakaa.AM
open Go Go.RowKit
set_option maxRecDepth 100000
set_option maxHeartbeats 4000000

section
variable {A : Prim} {P : Program} {R : List (Nat × AObj) → List D → Prop} (hA : A = std P R)
include hA
theorem ltL {i : Int} {j n : Nat} {l : List V} (hi : i = (j : Int)) (hl : l.length = n) (h : A.ilt i (A.lenL l) = true) : j < n := by
  subst hA; have := of_decide_eq_true h; simp only [std] at this; omega
theorem geL {i : Int} {j n : Nat} {l : List V} (hi : i = (j : Int)) (hl : l.length = n) (h : A.ilt i (A.lenL l) = false) (hj : j ≤ n) : j = n := by
  subst hA; have := of_decide_eq_false h; simp only [std] at this; omega
theorem upI {i : Int} {j : Nat} (hi : i = (j : Int)) (hj : j ≤ 140737488355328) : A.wrap .i64 (A.add i 1) = ((j + 1 : Nat) : Int) := by subst hA; exact i64_up hi hj
theorem upM {i : Int} {j n : Nat} (hi : i = (j : Int)) (hj : j < n) (hn : n ≤ 140737488355328) : n - (A.wrap .i64 (A.add i 1)).toNat < n - i.toNat := by
  rw [upI hA hi (by omega), hi]; omega
end
theorem lenB {l : List V} {b : List UInt8} (h : l = bytesV b) : l.length = b.length := by rw [h, bytesV_len]
theorem lenS' {l : List V} {b : List (List UInt8)} (h : l = strsV b) : l.length = b.length := by rw [h, strsV_len]
theorem lenLs {l : List V} {b : List (List UInt8)} (h : l = listsV b) : l.length = b.length := by rw [h, listsV_len]
theorem eq_of_take {α : Type} {a b : List α} (hl : a.length = b.length) (h : a.take a.length = b.take a.length) : a = b := by
  rwa [List.take_length, hl, List.take_length] at h
theorem take_step {α : Type} {a b : List α} {j : Nat} (ha : j < a.length) (hb : j < b.length) (h : a.take j = b.take j) (he : a[j] = b[j]) : a.take (j + 1) = b.take (j + 1) := by
  rw [List.take_succ_eq_append_getElem ha, List.take_succ_eq_append_getElem hb, h, he]

theorem cEqualB (a b : List UInt8) (la lb : List V) (ha : la = bytesV a) (hb : lb = bytesV b) (hal : a.length ≤ 140737488355328) : CallR Try.prog 55 [.slice la, .slice lb] fun rs => ∃ c, rs = [.v (.bool c)] ∧ c = (a == b) := by
  obtain ⟨c, hcv⟩ : ∃ c, c = (a == b) := ⟨_, rfl⟩
  refine .of _ ⟨c, rfl, hcv⟩ ?_
  refine FnR.of' T_ok M_ok (fn := Try.f55) (by kernel_rfl) rfl rfl rfl rfl (Nat.le_of_ble_eq_true rfl) fun A hA => ?_
  cbv
  refine condI hA (fun h1 => ?_) (fun h1 => ?_)
  · cbv
    refine retI hA ?_
    have : ¬ a = b := fun e => by
      rw [hA] at h1
      subst e; subst ha; subst hb
      exact absurd h1 (by simp [std])
    simp only [retOk, rsOk, retIds, idsD, idsDs, softOb, toV, Option.some.injEq, V.bool.injEq, and_true]
    exact (hcv.trans (beq_eq_false_iff_ne.2 this)).symm
  · have hlen : a.length = b.length := by
      have h : (A.ine (A.lenL la) (A.lenL lb)) = false := h1
      rw [hA, ha, hb] at h; simp only [std, bytesV_len, bne_eq_false_iff_eq] at h
      exact_mod_cast h
    cbv
    refine loopF hA (ι := Int) (fun i => { n := 26, sl := [(0, .v (.slice la)), (1, .v (.slice lb)), (12, .v (.int .i64 (A.lenL la))), (13, .v (.int .i64 i))], ob := [] })
      (fun i => ∃ j : Nat, i = j ∧ j ≤ a.length ∧ a.take j = b.take j) (fun i => a.length - i.toNat) 0 (weakI rfl ⟨rfl, rfl, rfl, rfl, trivial⟩ trivial) ⟨0, rfl, Nat.zero_le _, by simp⟩ ?_
    rintro i ⟨j, hi, hj, ht⟩
    cbv
    refine condI hA (fun hc => ?_) (fun hc => ?_)
    · have hja := ltL hA (natEq hi) (lenB ha) hc
      have hjb : j < b.length := hlen ▸ hja
      cbv
      refine chkI hA (by kernel_rfl) ?_
      cbv
      refine getBN hA ha (natEq hi) hja ?_
      rintro x hx
      cbv
      refine getBN hA hb (natEq hi) hjb ?_
      rintro y hy
      cbv
      refine condI hA (fun h2 => ?_) (fun h2 => ?_)
      · cbv
        refine retI hA ?_
        have : ¬ a = b := fun e => by
          subst e
          rw [hA, natEq hx, natEq hy] at h2
          exact absurd h2 (by simp [std])
        simp only [retOk, rsOk, retIds, idsD, idsDs, softOb, toV, Option.some.injEq, V.bool.injEq, and_true]
        exact (hcv.trans (beq_eq_false_iff_ne.2 this)).symm
      · have he : a[j]'hja = b[j]'hjb := by
          rw [hA, natEq hx, natEq hy] at h2
          have : (((a[j]'hja).toNat : Nat) : Int) = ((b[j]'hjb).toNat : Nat) := by simpa [std] using h2
          exact UInt8.toNat_inj.1 (by exact_mod_cast this)
        refine ⟨_, weakI rfl ⟨rfl, rfl, rfl, rfl, trivial⟩ trivial, ⟨j + 1, upI hA (natEq hi) (by omega), hja, take_step hja hjb ht he⟩, upM hA (natEq hi) hja hal⟩
    · have hja := geL hA (natEq hi) (lenB ha) hc hj
      cbv
      refine retI hA ?_
      have : a = b := by rw [hja] at ht; exact eq_of_take hlen ht
      simp only [retOk, rsOk, retIds, idsD, idsDs, softOb, toV, Option.some.injEq, V.bool.injEq, and_true]
      exact (hcv.trans (beq_iff_eq.2 this)).symm

theorem cEqualS (a b : List (List UInt8)) (la lb : List V) (ha : la = strsV a) (hb : lb = strsV b) (hal : a.length ≤ 140737488355328) : CallR Try.prog 62 [.slice la, .slice lb] fun rs => ∃ c, rs = [.v (.bool c)] ∧ c = (a == b) := by
  obtain ⟨c, hcv⟩ : ∃ c, c = (a == b) := ⟨_, rfl⟩
  refine .of _ ⟨c, rfl, hcv⟩ ?_
  refine FnR.of' T_ok M_ok (fn := Try.f62) (by kernel_rfl) rfl rfl rfl rfl (Nat.le_of_ble_eq_true rfl) fun A hA => ?_
  cbv
  refine condI hA (fun h1 => ?_) (fun h1 => ?_)
  · cbv
    refine retI hA ?_
    have : ¬ a = b := fun e => by
      rw [hA] at h1
      subst e; subst ha; subst hb
      exact absurd h1 (by simp [std])
    simp only [retOk, rsOk, retIds, idsD, idsDs, softOb, toV, Option.some.injEq, V.bool.injEq, and_true]
    exact (hcv.trans (beq_eq_false_iff_ne.2 this)).symm
  · have hlen : a.length = b.length := by
      have h : (A.ine (A.lenL la) (A.lenL lb)) = false := h1
      rw [hA, ha, hb] at h; simp only [std, strsV_len, bne_eq_false_iff_eq] at h
      exact_mod_cast h
    cbv
    refine loopF hA (ι := Int) (fun i => { n := 26, sl := [(0, .v (.slice la)), (1, .v (.slice lb)), (12, .v (.int .i64 (A.lenL la))), (13, .v (.int .i64 i))], ob := [] })
      (fun i => ∃ j : Nat, i = j ∧ j ≤ a.length ∧ a.take j = b.take j) (fun i => a.length - i.toNat) 0 (weakI rfl ⟨rfl, rfl, rfl, rfl, trivial⟩ trivial) ⟨0, rfl, Nat.zero_le _, by simp⟩ ?_
    rintro i ⟨j, hi, hj, ht⟩
    cbv
    refine condI hA (fun hc => ?_) (fun hc => ?_)
    · have hja := ltL hA (natEq hi) (lenS' ha) hc
      have hjb : j < b.length := hlen ▸ hja
      cbv
      refine chkI hA (by kernel_rfl) ?_
      cbv
      refine getSN hA ha (natEq hi) hja ?_
      rintro x hx
      cbv
      refine getSN hA hb (natEq hi) hjb ?_
      rintro y hy
      cbv
      refine condI hA (fun h2 => ?_) (fun h2 => ?_)
      · cbv
        refine retI hA ?_
        have : ¬ a = b := fun e => by
          subst e
          rw [hA, hx, hy] at h2
          exact absurd h2 (by simp [std])
        simp only [retOk, rsOk, retIds, idsD, idsDs, softOb, toV, Option.some.injEq, V.bool.injEq, and_true]
        exact (hcv.trans (beq_eq_false_iff_ne.2 this)).symm
      · have he : a[j]'hja = b[j]'hjb := by
          rw [hA, hx, hy] at h2
          simpa [std] using h2
        refine ⟨_, weakI rfl ⟨rfl, rfl, rfl, rfl, trivial⟩ trivial, ⟨j + 1, upI hA (natEq hi) (by omega), hja, take_step hja hjb ht he⟩, upM hA (natEq hi) hja hal⟩
    · have hja := geL hA (natEq hi) (lenS' ha) hc hj
      cbv
      refine retI hA ?_
      have : a = b := by rw [hja] at ht; exact eq_of_take hlen ht
      simp only [retOk, rsOk, retIds, idsD, idsDs, softOb, toV, Option.some.injEq, V.bool.injEq, and_true]
      exact (hcv.trans (beq_iff_eq.2 this)).symm

theorem cSame11 (a b : List (List UInt8)) (la lb : List V) (ha : la = strsV a) (hb : lb = strsV b) (hal : a.length ≤ 140737488355328) : CallR Try.prog 51 [.slice la, .slice lb] fun rs => ∃ c, rs = [.v (.bool c)] ∧ c = (a == b) := by
  obtain ⟨c, hcv⟩ : ∃ c, c = (a == b) := ⟨_, rfl⟩
  refine .of _ ⟨c, rfl, hcv⟩ ?_
  refine FnR.of' T_ok M_ok (fn := Try.f51) (by kernel_rfl) rfl rfl rfl rfl (Nat.le_of_ble_eq_true rfl) fun A hA => ?_
  cbv
  refine condI hA (fun h1 => ?_) (fun h1 => ?_)
  · cbv
    refine retI hA ?_
    have : ¬ a = b := fun e => by
      rw [hA] at h1
      subst e; subst ha; subst hb
      exact absurd h1 (by simp [std])
    simp only [retOk, rsOk, retIds, idsD, idsDs, softOb, toV, Option.some.injEq, V.bool.injEq, and_true]
    exact (hcv.trans (beq_eq_false_iff_ne.2 this)).symm
  · have hlen : a.length = b.length := by
      have h : (A.ine (A.lenL la) (A.lenL lb)) = false := h1
      rw [hA, ha, hb] at h; simp only [std, strsV_len, bne_eq_false_iff_eq] at h
      exact_mod_cast h
    cbv
    refine loopF hA (ι := Int) (fun i => { n := 26, sl := [(0, .v (.slice la)), (1, .v (.slice lb)), (5, .v (.int .i64 i))], ob := [] })
      (fun i => ∃ j : Nat, i = j ∧ j ≤ a.length ∧ a.take j = b.take j) (fun i => a.length - i.toNat) 0 (weakI rfl ⟨rfl, rfl, rfl, trivial⟩ trivial) ⟨0, rfl, Nat.zero_le _, by simp⟩ ?_
    rintro i ⟨j, hi, hj, ht⟩
    cbv
    refine condI hA (fun hc => ?_) (fun hc => ?_)
    · have hja := ltL hA (natEq hi) (lenS' ha) hc
      have hjb : j < b.length := hlen ▸ hja
      cbv
      refine chkI hA (by kernel_rfl) ?_
      cbv
      refine getSN hA ha (natEq hi) hja ?_
      rintro x hx
      cbv
      refine getSN hA hb (natEq hi) hjb ?_
      rintro y hy
      cbv
      refine condI hA (fun h2 => ?_) (fun h2 => ?_)
      · cbv
        refine retI hA ?_
        have : ¬ a = b := fun e => by
          subst e
          rw [hA, hx, hy] at h2
          exact absurd h2 (by simp [std])
        simp only [retOk, rsOk, retIds, idsD, idsDs, softOb, toV, Option.some.injEq, V.bool.injEq, and_true]
        exact (hcv.trans (beq_eq_false_iff_ne.2 this)).symm
      · have he : a[j]'hja = b[j]'hjb := by
          rw [hA, hx, hy] at h2
          simpa [std] using h2
        refine ⟨_, weakI rfl ⟨rfl, rfl, rfl, trivial⟩ trivial, ⟨j + 1, upI hA (natEq hi) (by omega), hja, take_step hja hjb ht he⟩, upM hA (natEq hi) hja hal⟩
    · have hja := geL hA (natEq hi) (lenS' ha) hc hj
      cbv
      refine retI hA ?_
      have : a = b := by rw [hja] at ht; exact eq_of_take hlen ht
      simp only [retOk, rsOk, retIds, idsD, idsDs, softOb, toV, Option.some.injEq, V.bool.injEq, and_true]
      exact (hcv.trans (beq_iff_eq.2 this)).symm

end Go.Proofs.Ytinckcpmkocakaa.AM

/-
  Contracts: marks compared.
-/
set_option linter.unusedVariables false
set_option linter.unusedSimpArgs false
namespace Go.Proofs.Ytinckcpmkocakaa.AM
open Go Go.RowKit
set_option maxRecDepth 100000
set_option maxHeartbeats 4000000

theorem run_part1 {t : Nat} (hk : isAggT (tyOf t).k = false) (hkn : known (tyOf t).k = true) (cs : Array Value) (off : Nat) (v : Value) (w : World) (h : cs[off]? = some v) : (part t cs off).run Try.prog w = .ok v w := by
  simp [part, ty_isAgg T_ok (known_ne' hkn), hk, h]
theorem eqMark (a1 a2 a3 a4 b1 b2 b3 b4 : Int) : EqOk Try.prog 42 [.int .i64 a1, .int .i64 a2, .int .u32 a3, .int .u32 a4] [.int .i64 b1, .int .i64 b2, .int .u32 b3, .int .u32 b4] (a1 == b1 && (a2 == b2 && (a3 == b3 && a4 == b4))) := by
  intro ok w u v hu hv
  obtain ⟨cs, rfl, h1, _, h2⟩ := rep_agg hu
  obtain ⟨ds, rfl, k1, _, k2⟩ := rep_agg hv
  match cs, h1, h2 with
  | [c1, c2, c3, c4], _, h2 =>
    match ds, k1, k2 with
    | [d1, d2, d3, d4], _, k2 =>
      have e1 := rep_int (h2 0 (by simp) (by simp))
      have e2 := rep_int (h2 1 (by simp) (by simp))
      have e3 := rep_int (h2 2 (by simp) (by simp))
      have e4 := rep_int (h2 3 (by simp) (by simp))
      have f1 := rep_int (k2 0 (by simp) (by simp))
      have f2 := rep_int (k2 1 (by simp) (by simp))
      have f3 := rep_int (k2 2 (by simp) (by simp))
      have f4 := rep_int (k2 3 (by simp) (by simp))
      simp only [List.getElem_cons_zero, List.getElem_cons_succ] at e1 e2 e3 e4 f1 f2 f3 f4
      subst e1 e2 e3 e4 f1 f2 f3 f4
      refine ⟨fun op x y => ?_, ?_⟩
      · have st : Try.prog.eqGuardType Try.prog.depth 42 = false := by kernel_rfl
        unfold eqGuard
        cases op <;> simp [program, Sem.run, st]
      · have h : ∀ d, (Op.equalIn (d + 2) 42 (.agg #[.int .i64 a1, .int .i64 a2, .int .u32 a3, .int .u32 a4]) (.agg #[.int .i64 b1, .int .i64 b2, .int .u32 b3, .int .u32 b4])).run Try.prog w = .ok (a1 == b1 && (a2 == b2 && (a3 == b3 && a4 == b4))) w := fun d => by
          have p := fun t hk hkn cs off v h => run_part1 (t := t) hk hkn cs off v w h
          have st : Try.prog.stoodInHeld 42 = false := by kernel_rfl
          simp [Op.equalIn, run_underlying Try.underlying42, st, run_underlying Try.underlying3, run_underlying Try.underlying23, p 3 rfl rfl, p 23 rfl rfl]
          by_cases q1 : a1 = b1 <;> by_cases q2 : a2 = b2 <;> by_cases q3 : a3 = b3 <;> by_cases q4 : a4 = b4 <;> simp [q1, q2, q3, q4]
        exact h 9998
end Go.Proofs.Ytinckcpmkocakaa.AM

/-
  Contracts: records compared; numbers laid.
-/
set_option linter.unusedVariables false
set_option linter.unusedSimpArgs false
namespace Go.Proofs.Ytinckcpmkocakaa.AM
open Go Go.RowKit
set_option maxRecDepth 100000
set_option maxHeartbeats 4000000

/-- A record. -/
structure RecM where
  k : Int
  path : List (List UInt8)
  sz : Int
  sm : Int
  mi : Int
  mo : Int
  si : Int
  so : Int
deriving DecidableEq
def sameM (a b : RecM) : Bool := a.k == b.k && (a.path == b.path && (a.sz == b.sz && (a.sm == b.sm && (a.mi == b.mi && (a.mo == b.mo && (a.si == b.si && a.so == b.so))))))
theorem sameM_iff (a b : RecM) : sameM a b = true ↔ a = b := by
  cases a; cases b; simp [sameM]
def recCells (k : Int) (l : List V) (sz sm mi mo si so : Int) : List V := [.int .u8 k, .slice l, .int .i64 sz, .int .u32 sm, .int .i64 mi, .int .i64 mo, .int .u32 si, .int .u32 so]
section
variable {A : Prim} {P : Program} {R : List (Nat × AObj) → List D → Prop} (hA : A = std P R)
include hA
theorem eqT {a b : Int} (h : A.ieq a b = true) : a = b := by subst hA; simpa [std] using h
theorem eqF {a b : Int} (h : A.ieq a b = false) : ¬ a = b := by subst hA; simpa [std] using h
end
theorem cSame12 (a b : RecM) (la lb : List V) (ha : la = strsV a.path) (hb : lb = strsV b.path) (hal : a.path.length ≤ 140737488355328) : CallR Try.prog 30 [.agg [.int .u8 a.k, .slice la, .int .i64 a.sz, .int .u32 a.sm, .int .i64 a.mi, .int .i64 a.mo, .int .u32 a.si, .int .u32 a.so], .agg [.int .u8 b.k, .slice lb, .int .i64 b.sz, .int .u32 b.sm, .int .i64 b.mi, .int .i64 b.mo, .int .u32 b.si, .int .u32 b.so]] fun rs => ∃ c, rs = [.v (.bool c)] ∧ c = sameM a b := by
  obtain ⟨c, hcv⟩ : ∃ c, c = sameM a b := ⟨_, rfl⟩
  refine .of _ ⟨c, rfl, hcv⟩ ?_
  obtain ⟨k, p, sz, sm, mi, mo, si, so⟩ := a
  obtain ⟨k', p', sz', sm', mi', mo', si', so'⟩ := b
  dsimp only at *
  refine FnR.of' T_ok M_ok (fn := Try.f30) (by kernel_rfl) rfl rfl rfl rfl (Nat.le_of_ble_eq_true rfl) fun A hA => ?_
  cbv
  refine condI hA (fun h1 => ?_) (fun h1 => ?_)
  · replace h1 := eqT hA h1
    cbv
    refine callI hA (cSame11 p p' la lb ha hb hal) ?_
    intro rs_ h_
    obtain ⟨c2, q_1, hc2⟩ := h_
    subst q_1
    cbv
    refine condI hA (fun h2 => ?_) (fun h2 => ?_)
    · rw [h2] at hc2
      replace hc2 := beq_iff_eq.1 hc2.symm
      cbv
      refine condI hA (fun h3 => ?_) (fun h3 => ?_)
      · replace h3 := eqT hA h3
        cbv
        refine condI hA (fun h4 => ?_) (fun h4 => ?_)
        · replace h4 := eqT hA h4
          cbv
          refine eqAI hA _ (eqMark mi mo si so mi' mo' si' so') ?_
          obtain ⟨c3, hc3⟩ : ∃ c3, c3 = (mi == mi' && (mo == mo' && (si == si' && so == so'))) := ⟨_, rfl⟩
          rw [← hc3]
          cbv
          refine retI hA ?_
          simp only [retOk, rsOk, retIds, idsD, idsDs, softOb, toV, Option.some.injEq, V.bool.injEq, and_true]
          rw [hcv, hc3]
          simp [sameM, h1, hc2, h3, h4]
        · replace h4 := eqF hA h4
          cbv
          refine retI hA ?_
          simp only [retOk, rsOk, retIds, idsD, idsDs, softOb, toV, Option.some.injEq, V.bool.injEq, and_true]
          rw [hcv]; simp [sameM, h4]
      · replace h3 := eqF hA h3
        cbv
        refine retI hA ?_
        simp only [retOk, rsOk, retIds, idsD, idsDs, softOb, toV, Option.some.injEq, V.bool.injEq, and_true]
        rw [hcv]; simp [sameM, h3]
    · rw [h2] at hc2
      replace hc2 := beq_eq_false_iff_ne.1 hc2.symm
      cbv
      refine retI hA ?_
      simp only [retOk, rsOk, retIds, idsD, idsDs, softOb, toV, Option.some.injEq, V.bool.injEq, and_true]
      rw [hcv]; simp [sameM, hc2]
  · replace h1 := eqF hA h1
    cbv
    refine retI hA ?_
    simp only [retOk, rsOk, retIds, idsD, idsDs, softOb, toV, Option.some.injEq, V.bool.injEq, and_true]
    rw [hcv]; simp [sameM, h1]
end Go.Proofs.Ytinckcpmkocakaa.AM

/-
  Contracts: records compared, II; four bytes.
-/
set_option linter.unusedVariables false
set_option linter.unusedSimpArgs false
namespace Go.Proofs.Ytinckcpmkocakaa.AM
open Go Go.RowKit
set_option maxRecDepth 100000
set_option maxHeartbeats 4000000

theorem cSameR (a b : RecM) (la lb : List V) (ha : la = strsV a.path) (hb : lb = strsV b.path) (hal : a.path.length ≤ 140737488355328) : CallR Try.prog 37 [.agg [.int .u8 a.k, .slice la, .int .i64 a.sz, .int .u32 a.sm, .int .i64 a.mi, .int .i64 a.mo, .int .u32 a.si, .int .u32 a.so], .agg [.int .u8 b.k, .slice lb, .int .i64 b.sz, .int .u32 b.sm, .int .i64 b.mi, .int .i64 b.mo, .int .u32 b.si, .int .u32 b.so]] fun rs => ∃ c, rs = [.v (.bool c)] ∧ c = sameM a b := by
  obtain ⟨c, hcv⟩ : ∃ c, c = sameM a b := ⟨_, rfl⟩
  refine .of _ ⟨c, rfl, hcv⟩ ?_
  obtain ⟨k, p, sz, sm, mi, mo, si, so⟩ := a
  obtain ⟨k', p', sz', sm', mi', mo', si', so'⟩ := b
  dsimp only at *
  refine FnR.of' T_ok M_ok (fn := Try.f37) (by kernel_rfl) rfl rfl rfl rfl (Nat.le_of_ble_eq_true rfl) fun A hA => ?_
  cbv
  refine condI hA (fun h1 => ?_) (fun h1 => ?_)
  · replace h1 := eqT hA h1
    cbv
    refine callI hA (cEqualS p p' la lb ha hb hal) ?_
    intro rs_ h_
    obtain ⟨c2, q_1, hc2⟩ := h_
    subst q_1
    cbv
    refine condI hA (fun h2 => ?_) (fun h2 => ?_)
    · rw [h2] at hc2
      replace hc2 := beq_iff_eq.1 hc2.symm
      cbv
      refine condI hA (fun h3 => ?_) (fun h3 => ?_)
      · replace h3 := eqT hA h3
        cbv
        refine condI hA (fun h4 => ?_) (fun h4 => ?_)
        · replace h4 := eqT hA h4
          cbv
          refine eqAI hA _ (eqMark mi mo si so mi' mo' si' so') ?_
          obtain ⟨c3, hc3⟩ : ∃ c3, c3 = (mi == mi' && (mo == mo' && (si == si' && so == so'))) := ⟨_, rfl⟩
          rw [← hc3]
          cbv
          refine retI hA ?_
          simp only [retOk, rsOk, retIds, idsD, idsDs, softOb, toV, Option.some.injEq, V.bool.injEq, and_true]
          rw [hcv, hc3]
          simp [sameM, h1, hc2, h3, h4]
        · replace h4 := eqF hA h4
          cbv
          refine retI hA ?_
          simp only [retOk, rsOk, retIds, idsD, idsDs, softOb, toV, Option.some.injEq, V.bool.injEq, and_true]
          rw [hcv]; simp [sameM, h4]
      · replace h3 := eqF hA h3
        cbv
        refine retI hA ?_
        simp only [retOk, rsOk, retIds, idsD, idsDs, softOb, toV, Option.some.injEq, V.bool.injEq, and_true]
        rw [hcv]; simp [sameM, h3]
    · rw [h2] at hc2
      replace hc2 := beq_eq_false_iff_ne.1 hc2.symm
      cbv
      refine retI hA ?_
      simp only [retOk, rsOk, retIds, idsD, idsDs, softOb, toV, Option.some.injEq, V.bool.injEq, and_true]
      rw [hcv]; simp [sameM, hc2]
  · replace h1 := eqF hA h1
    cbv
    refine retI hA ?_
    simp only [retOk, rsOk, retIds, idsD, idsDs, softOb, toV, Option.some.injEq, V.bool.injEq, and_true]
    rw [hcv]; simp [sameM, h1]


/-- Four bytes of a number. -/
def fourB (n : Nat) : List UInt8 := [UInt8.ofNat (n / 16777216 % 256), UInt8.ofNat (n / 65536 % 256), UInt8.ofNat (n / 256 % 256), UInt8.ofNat (n % 256)]
theorem shr_u32_k (a k : Nat) (hk : k ≤ 32) : Int.fdiv (a : Int) (2 ^ (min (Int.toNat (k : Int)) IntKind.u32.bits)) = ((a / 2 ^ k : Nat) : Int) := by
  have h : min (Int.toNat (k : Int)) IntKind.u32.bits = k := by
    have : IntKind.u32.bits = 32 := rfl
    rw [this, Int.toNat_natCast]; omega
  rw [h, Int.fdiv_eq_ediv_of_nonneg _ (Int.pow_nonneg (by omega))]
  rw [show ((2 : Int) ^ k) = ((2 ^ k : Nat) : Int) from by simp]
  rfl
theorem keyFour {v : Int} {n : Nat} {l : List V} (hv : v = n) (hl : l = bytesV (fourB n)) {A : Prim} {R : List (Nat × AObj) → List D → Prop} (hA : A = std Try.prog R) : [V.int .u8 (A.wrap .u8 (A.shr .u32 v 24)), .int .u8 (A.wrap .u8 (A.shr .u32 v 16)), .int .u8 (A.wrap .u8 (A.shr .u32 v 8)), .int .u8 (A.wrap .u8 v)] = l := by
  rw [hA, hl, hv]
  simp only [std]
  rw [show (24 : Int) = ((24 : Nat) : Int) from rfl, show (16 : Int) = ((16 : Nat) : Int) from rfl, show (8 : Int) = ((8 : Nat) : Int) from rfl, shr_u32_k n 24 (by omega), shr_u32_k n 16 (by omega), shr_u32_k n 8 (by omega), wrap_u8, wrap_u8, wrap_u8, wrap_u8]
  rw [byteV (x := _) (n := n / 2 ^ 24) rfl, byteV (x := _) (n := n / 2 ^ 16) rfl, byteV (x := _) (n := n / 2 ^ 8) rfl, byteV (x := _) (n := n) rfl]
  rfl
theorem cFour (v : Int) (n : Nat) (hv : v = n) : CallR Try.prog 59 [.int .u32 v] fun rs => ∃ l, rs = [.o 1 l] ∧ l = bytesV (fourB n) := by
  obtain ⟨l, hl⟩ : ∃ l, l = bytesV (fourB n) := ⟨_, rfl⟩
  refine .of [.o 1 l] ⟨l, rfl, hl⟩ ?_
  refine FnR.of' T_ok M_ok (fn := Try.f59) (by kernel_rfl) rfl rfl rfl rfl (Nat.le_of_ble_eq_true rfl) fun A hA => ?_
  cbv
  refine nnegI hA (by decide) ?_
  cbv
  refine nnegI hA (by decide) ?_
  cbv
  refine nnegI hA (by decide) ?_
  cbv
  refine retI hA ?_
  exact ⟨rfl, congrArg (fun q => some (AObj.row 1 q true)) (keyFour hv hl hA), trivial⟩
theorem cFour12 (v : Int) (n : Nat) (hv : v = n) : CallR Try.prog 61 [.int .u32 v] fun rs => ∃ l, rs = [.o 1 l] ∧ l = bytesV (fourB n) := by
  obtain ⟨l, hl⟩ : ∃ l, l = bytesV (fourB n) := ⟨_, rfl⟩
  refine .of [.o 1 l] ⟨l, rfl, hl⟩ ?_
  refine FnR.of' T_ok M_ok (fn := Try.f61) (by kernel_rfl) rfl rfl rfl rfl (Nat.le_of_ble_eq_true rfl) fun A hA => ?_
  cbv
  refine nnegI hA (by decide) ?_
  cbv
  refine nnegI hA (by decide) ?_
  cbv
  refine nnegI hA (by decide) ?_
  cbv
  refine retI hA ?_
  exact ⟨rfl, congrArg (fun q => some (AObj.row 1 q true)) (keyFour hv hl hA), trivial⟩
end Go.Proofs.Ytinckcpmkocakaa.AM

/-
  Contracts: a record's check, part 1.
-/
set_option linter.unusedVariables false
set_option linter.unusedSimpArgs false
namespace Go.Proofs.Ytinckcpmkocakaa.AM
open Go Go.RowKit
set_option maxRecDepth 100000
set_option maxHeartbeats 4000000

def inM (n a b : Int) : Bool := decide (a ≤ n) && decide (n ≤ b)
theorem cIn (n a b : Int) : CallR Try.prog 47 [.int .i64 n, .int .i64 a, .int .i64 b] fun rs => ∃ c, rs = [.v (.bool c)] ∧ c = inM n a b := by
  obtain ⟨c, hcv⟩ : ∃ c, c = inM n a b := ⟨_, rfl⟩
  refine .of _ ⟨c, rfl, hcv⟩ ?_
  refine FnR.of' T_ok M_ok (fn := Try.f47) (by kernel_rfl) rfl rfl rfl rfl (Nat.le_of_ble_eq_true rfl) fun A hA => ?_
  cbv
  refine condI hA (fun h1 => ?_) (fun h1 => ?_)
  · cbv
    refine retI hA ?_
    simp only [retOk, rsOk, retIds, idsD, idsDs, softOb, toV, Option.some.injEq, V.bool.injEq, and_true]
    rw [hcv, hA] at *
    have h1 : decide (a ≤ n) = true := h1
    simp only [std, inM, h1, Bool.true_and]
  · cbv
    refine retI hA ?_
    simp only [retOk, rsOk, retIds, idsD, idsDs, softOb, toV, Option.some.injEq, V.bool.injEq, and_true]
    rw [hcv, hA] at *
    have h1 : decide (a ≤ n) = false := h1
    simp only [inM, h1, Bool.false_and]
def badM (s : List UInt8) : Bool := !(inM s.length 1 48)
theorem cBad (s : List UInt8) : CallR Try.prog 48 [.str s, .ref [.clo 47 []]] fun rs => ∃ c, rs = [.v (.bool c)] ∧ c = badM s := by
  obtain ⟨c, hcv⟩ : ∃ c, c = badM s := ⟨_, rfl⟩
  refine .of _ ⟨c, rfl, hcv⟩ ?_
  refine FnR.of' T_ok M_ok (fn := Try.f48) (by kernel_rfl) rfl rfl rfl rfl (Nat.le_of_ble_eq_true rfl) fun A hA => ?_
  cbv
  refine callI hA (cIn (A.lenS s) 1 48) ?_
  intro rs_ h_
  obtain ⟨d, q_1, hd⟩ := h_
  subst q_1
  cbv
  refine retI hA ?_
  simp only [retOk, rsOk, retIds, idsD, idsDs, softOb, toV, Option.some.injEq, V.bool.injEq, and_true]
  rw [hcv, hA, hd, hA]; rfl
def idxM {α : Type} (p : α → Bool) (l : List α) : Int := match l.findIdx? p with
  | some i => i
  | none => -1
theorem idxM_some {α : Type} {p : α → Bool} {l : List α} {j : Nat} (hj : j < l.length) (h : p l[j] = true) (hb : ∀ m (hm : m < l.length), m < j → p l[m] = false) : idxM p l = j := by
  have : l.findIdx? p = some j := by
    rw [List.findIdx?_eq_some_iff_getElem]
    exact ⟨hj, h, fun m hm => by simp [hb m (by omega) hm]⟩
  simp [idxM, this]
theorem idxM_none {α : Type} {p : α → Bool} {l : List α} (hb : ∀ m (hm : m < l.length), p l[m] = false) : idxM p l = -1 := by
  have : l.findIdx? p = none := by
    rw [List.findIdx?_eq_none_iff]
    intro x hx
    obtain ⟨i, hi, rfl⟩ := List.getElem_of_mem hx
    exact hb i hi
  simp [idxM, this]
theorem idxM_any {α : Type} (p : α → Bool) (l : List α) : decide (0 ≤ idxM p l) = l.any p := by
  unfold idxM
  cases h : l.findIdx? p with
  | none =>
    rw [List.findIdx?_eq_none_iff] at h
    have : l.any p = false := by rw [List.any_eq_false]; intro x hx; simp [h x hx]
    rw [this]; rfl
  | some i =>
    rw [List.findIdx?_eq_some_iff_getElem] at h
    obtain ⟨h1, h2, _⟩ := h
    have : l.any p = true := List.any_eq_true.2 ⟨_, List.getElem_mem h1, h2⟩
    rw [this]; simp
theorem cIdxS (ss : List (List UInt8)) (l : List V) (hl : l = strsV ss) (hs : ss.length ≤ 140737488355328) : CallR Try.prog 66 [.slice l, .clo 48 [.ref [.clo 47 []]]] fun rs => ∃ r : Int, rs = [.v (.int .i64 r)] ∧ r = idxM badM ss := by
  obtain ⟨r, hr⟩ : ∃ r, r = idxM badM ss := ⟨_, rfl⟩
  refine .of _ ⟨r, rfl, hr⟩ ?_
  refine FnR.of' T_ok M_ok (fn := Try.f66) (by kernel_rfl) rfl rfl rfl rfl (Nat.le_of_ble_eq_true rfl) fun A hA => ?_
  cbv
  refine loopF hA (ι := Int) (fun i => { n := 19, sl := [(0, .v (.slice l)), (1, .v (.clo 48 [.ref [.clo 47 []]])), (7, .v (.int .i64 (A.lenL l))), (8, .v (.int .i64 i))], ob := [] })
    (fun i => ∃ j : Nat, i = j ∧ j ≤ ss.length ∧ ∀ m (hm : m < ss.length), m < j → badM ss[m] = false) (fun i => ss.length - i.toNat) 0 (weakI rfl ⟨rfl, rfl, rfl, rfl, trivial⟩ trivial) ⟨0, rfl, Nat.zero_le _, fun _ _ h => by omega⟩ ?_
  rintro i ⟨j, hi, hj, hb⟩
  cbv
  refine condI hA (fun hc => ?_) (fun hc => ?_)
  · have hjl := ltL hA (natEq hi) (lenS' hl) hc
    cbv
    refine getSN hA hl (natEq hi) hjl ?_
    rintro x hx
    cbv
    refine callI hA (cBad x) ?_
    intro rs_ h_
    obtain ⟨c, q_1, hcv⟩ := h_
    subst q_1
    cbv
    rw [hx] at hcv
    refine condI hA (fun h2 => ?_) (fun h2 => ?_)
    · cbv
      refine retI hA ?_
      simp only [retOk, rsOk, retIds, idsD, idsDs, softOb, toV, Option.some.injEq, V.int.injEq, true_and, and_true]
      rw [hr, natEq hi]
      exact (idxM_some hjl (hcv.symm.trans h2) hb).symm
    · refine ⟨_, weakI rfl ⟨rfl, rfl, rfl, rfl, trivial⟩ trivial, ⟨j + 1, upI hA (natEq hi) (by omega), hjl, fun m hm hmj => ?_⟩, upM hA (natEq hi) hjl hs⟩
      by_cases e : m = j
      · subst e; exact hcv.symm.trans h2
      · exact hb m hm (by omega)
  · have hjl := geL hA (natEq hi) (lenS' hl) hc hj
    cbv
    refine retI hA ?_
    simp only [retOk, rsOk, retIds, idsD, idsDs, softOb, toV, Option.some.injEq, V.int.injEq, true_and, and_true]
    rw [hr]
    exact (idxM_none fun m hm => hb m hm (by omega)).symm
theorem cContS (ss : List (List UInt8)) (l : List V) (hl : l = strsV ss) (hs : ss.length ≤ 140737488355328) : CallR Try.prog 49 [.slice l, .clo 48 [.ref [.clo 47 []]]] fun rs => ∃ c, rs = [.v (.bool c)] ∧ c = ss.any badM := by
  obtain ⟨c, hcv⟩ : ∃ c, c = ss.any badM := ⟨_, rfl⟩
  refine .of _ ⟨c, rfl, hcv⟩ ?_
  refine FnR.of' T_ok M_ok (fn := Try.f49) (by kernel_rfl) rfl rfl rfl rfl (Nat.le_of_ble_eq_true rfl) fun A hA => ?_
  cbv
  refine callI hA (cIdxS ss l hl hs) ?_
  intro rs_ h_
  obtain ⟨r, q_1, hr⟩ := h_
  subst q_1
  cbv
  refine retI hA ?_
  simp only [retOk, rsOk, retIds, idsD, idsDs, softOb, toV, Option.some.injEq, V.bool.injEq, and_true]
  rw [hcv, hA, hr]; exact idxM_any badM ss
end Go.Proofs.Ytinckcpmkocakaa.AM

/-
  Contracts: a record's check, part 2.
-/
set_option linter.unusedVariables false
set_option linter.unusedSimpArgs false
namespace Go.Proofs.Ytinckcpmkocakaa.AM
open Go Go.RowKit
set_option maxRecDepth 100000
set_option maxHeartbeats 4000000

def markZ (r : RecM) : Bool := r.mi == 0 && (r.mo == 0 && (r.si == 0 && r.so == 0))
def pathOk (p : List (List UInt8)) : Bool := inM p.length 1 8 && !(p.any badM)
/-- May it be a record? -/
def checkM (r : RecM) : Bool :=
  if r.k = 1 then pathOk r.path && (inM r.sz 0 8192 && markZ r)
  else if r.k = 2 then r.path == [] && (r.sz == 0 && (r.sm == 0 && (inM r.mi 1 24576 && inM r.mo 1 24576)))
  else if r.k = 3 then r.path == [] && (r.sz == 0 && (r.sm == 0 && markZ r))
  else false
def errM (c : Bool) (e : Int) : Int := if c then 0 else e
theorem notT {A : Prim} {P : Program} {R : List (Nat × AObj) → List D → Prop} (hA : A = std P R) {c : Bool} (h : A.not c = true) : c = false := by subst hA; simpa [std] using h
theorem notF {A : Prim} {P : Program} {R : List (Nat × AObj) → List D → Prop} (hA : A = std P R) {c : Bool} (h : A.not c = false) : c = true := by subst hA; simpa [std] using h
theorem checkSame (k sz sm mi mo si so : Int) (p : List (List UInt8)) : checkM ⟨k, p, sz, sm, mi, mo, si, so⟩ = if k = 1 then inM p.length 1 8 && (!(p.any badM) && (inM sz 0 8192 && sameM ⟨1, p, sz, sm, mi, mo, si, so⟩ ⟨1, p, sz, sm, 0, 0, 0, 0⟩)) else if k = 2 then inM mi 1 24576 && (inM mo 1 24576 && sameM ⟨2, p, sz, sm, mi, mo, si, so⟩ ⟨2, [], 0, 0, mi, mo, si, so⟩) else if k = 3 then sameM ⟨3, p, sz, sm, mi, mo, si, so⟩ ⟨3, [], 0, 0, 0, 0, 0, 0⟩ else false := by
  unfold checkM
  split
  · simp [sameM, pathOk, markZ, Bool.and_assoc]
  · split
    · simp only [sameM, beq_self_eq_true, Bool.true_and, Bool.and_true]
      cases p == [] <;> cases sz == 0 <;> cases sm == 0 <;> simp
    · split
      · simp [sameM, markZ]
      · rfl
theorem cCheck (a : RecM) (l : List V) (ha : l = strsV a.path) (hal : a.path.length ≤ 140737488355328) : CallR Try.prog 28 [.agg [.int .u8 a.k, .slice l, .int .i64 a.sz, .int .u32 a.sm, .int .i64 a.mi, .int .i64 a.mo, .int .u32 a.si, .int .u32 a.so]] fun rs => ∃ e : Int, rs = [.v (.int .i64 e)] ∧ e = errM (checkM a) 2 := by
  obtain ⟨e, he⟩ : ∃ e, e = errM (checkM a) 2 := ⟨_, rfl⟩
  refine .of _ ⟨e, rfl, he⟩ ?_
  obtain ⟨k, p, sz, sm, mi, mo, si, so⟩ := a
  dsimp only at *
  rw [checkSame] at he
  have hlen := lenS' ha
  refine FnR.of' T_ok M_ok (fn := Try.f28) (by kernel_rfl) rfl rfl rfl rfl (Nat.le_of_ble_eq_true rfl) fun A hA => ?_
  cbv
  refine condI hA (fun h1 => ?_) (fun h1 => ?_)
  · replace h1 := eqT hA h1
    subst h1
    rw [if_pos rfl] at he
    cbv
    refine callI hA (cIn (A.lenL l) 1 8) ?_
    intro rs_ h_
    obtain ⟨c1, q_1, hc1⟩ := h_
    subst q_1
    cbv
    have hc1 : c1 = inM p.length 1 8 := by rw [hc1, hA]; simp only [std]; rw [hlen]
    refine condI hA (fun h2 => ?_) (fun h2 => ?_)
    · replace h2 := notT hA h2
      cbv
      refine retI hA ?_
      simp only [retOk, rsOk, retIds, idsD, idsDs, softOb, toV, Option.some.injEq, V.int.injEq, true_and, and_true]
      rw [he]; simp [errM, ← hc1, h2]
    · replace h2 := notF hA h2
      cbv
      refine callI hA (cContS p l ha hal) ?_
      intro rs_ h_
      obtain ⟨c2, q_1, hc2⟩ := h_
      subst q_1
      cbv
      refine condI hA (fun h3 => ?_) (fun h3 => ?_)
      · cbv
        refine retI hA ?_
        simp only [retOk, rsOk, retIds, idsD, idsDs, softOb, toV, Option.some.injEq, V.int.injEq, true_and, and_true]
        rw [he]; simp [errM, ← hc2, h3]
      · cbv
        refine callI hA (cIn sz 0 8192) ?_
        intro rs_ h_
        obtain ⟨c3, q_1, hc3⟩ := h_
        subst q_1
        cbv
        refine condI hA (fun h4 => ?_) (fun h4 => ?_)
        · replace h4 := notT hA h4
          cbv
          refine retI hA ?_
          simp only [retOk, rsOk, retIds, idsD, idsDs, softOb, toV, Option.some.injEq, V.int.injEq, true_and, and_true]
          rw [he]; simp [errM, ← hc3, h4]
        · replace h4 := notF hA h4
          cbv
          refine chkI hA (by kernel_rfl) ?_
          cbv
          refine callI hA (cSameR ⟨1, p, sz, sm, mi, mo, si, so⟩ ⟨1, p, sz, sm, 0, 0, 0, 0⟩ l l ha ha hal) ?_
          intro rs_ h_
          obtain ⟨c4, q_1, hc4⟩ := h_
          subst q_1
          cbv
          refine condI hA (fun h5 => ?_) (fun h5 => ?_)
          · replace h5 := notT hA h5
            cbv
            refine retI hA ?_
            simp only [retOk, rsOk, retIds, idsD, idsDs, softOb, toV, Option.some.injEq, V.int.injEq, true_and, and_true]
            rw [he]; simp [errM, ← hc4, h5]
          · replace h5 := notF hA h5
            cbv
            refine retI hA ?_
            simp only [retOk, rsOk, retIds, idsD, idsDs, softOb, toV, Option.some.injEq, V.int.injEq, true_and, and_true]
            rw [he]; simp [errM, ← hc1, ← hc2, ← hc3, ← hc4, h2, h3, h4, h5]
  · replace h1 := eqF hA h1
    rw [if_neg h1] at he
    cbv
    refine condI hA (fun g1 => ?_) (fun g1 => ?_)
    · replace g1 := eqT hA g1
      subst g1
      rw [if_pos rfl] at he
      cbv
      refine callI hA (cIn mi 1 24576) ?_
      intro rs_ h_
      obtain ⟨c1, q_1, hc1⟩ := h_
      subst q_1
      cbv
      refine condI hA (fun h2 => ?_) (fun h2 => ?_)
      · replace h2 := notT hA h2
        cbv
        refine retI hA ?_
        simp only [retOk, rsOk, retIds, idsD, idsDs, softOb, toV, Option.some.injEq, V.int.injEq, true_and, and_true]
        rw [he]; simp [errM, ← hc1, h2]
      · replace h2 := notF hA h2
        cbv
        refine callI hA (cIn mo 1 24576) ?_
        intro rs_ h_
        obtain ⟨c2, q_1, hc2⟩ := h_
        subst q_1
        cbv
        refine condI hA (fun h3 => ?_) (fun h3 => ?_)
        · replace h3 := notT hA h3
          cbv
          refine retI hA ?_
          simp only [retOk, rsOk, retIds, idsD, idsDs, softOb, toV, Option.some.injEq, V.int.injEq, true_and, and_true]
          rw [he]; simp [errM, ← hc2, h3]
        · replace h3 := notF hA h3
          cbv
          refine callI hA (cSameR ⟨2, p, sz, sm, mi, mo, si, so⟩ ⟨2, [], 0, 0, mi, mo, si, so⟩ l [] ha rfl hal) ?_
          intro rs_ h_
          obtain ⟨c4, q_1, hc4⟩ := h_
          subst q_1
          cbv
          refine condI hA (fun h5 => ?_) (fun h5 => ?_)
          · replace h5 := notT hA h5
            cbv
            refine retI hA ?_
            simp only [retOk, rsOk, retIds, idsD, idsDs, softOb, toV, Option.some.injEq, V.int.injEq, true_and, and_true]
            rw [he]; simp [errM, ← hc4, h5]
          · replace h5 := notF hA h5
            cbv
            refine retI hA ?_
            simp only [retOk, rsOk, retIds, idsD, idsDs, softOb, toV, Option.some.injEq, V.int.injEq, true_and, and_true]
            rw [he]; simp [errM, ← hc1, ← hc2, ← hc4, h2, h3, h5]
    · replace g1 := eqF hA g1
      rw [if_neg g1] at he
      cbv
      refine condI hA (fun f1 => ?_) (fun f1 => ?_)
      · replace f1 := eqT hA f1
        subst f1
        rw [if_pos rfl] at he
        cbv
        refine callI hA (cSameR ⟨3, p, sz, sm, mi, mo, si, so⟩ ⟨3, [], 0, 0, 0, 0, 0, 0⟩ l [] ha rfl hal) ?_
        intro rs_ h_
        obtain ⟨c4, q_1, hc4⟩ := h_
        subst q_1
        cbv
        refine condI hA (fun h5 => ?_) (fun h5 => ?_)
        · replace h5 := notT hA h5
          cbv
          refine retI hA ?_
          simp only [retOk, rsOk, retIds, idsD, idsDs, softOb, toV, Option.some.injEq, V.int.injEq, true_and, and_true]
          rw [he]; simp [errM, ← hc4, h5]
        · replace h5 := notF hA h5
          cbv
          refine retI hA ?_
          simp only [retOk, rsOk, retIds, idsD, idsDs, softOb, toV, Option.some.injEq, V.int.injEq, true_and, and_true]
          rw [he]; simp [errM, ← hc4, h5]
      · replace f1 := eqF hA f1
        rw [if_neg f1] at he
        cbv
        refine retI hA ?_
        simp only [retOk, rsOk, retIds, idsD, idsDs, softOb, toV, Option.some.injEq, V.int.injEq, true_and, and_true]
        rw [he]; simp [errM, f1]
end Go.Proofs.Ytinckcpmkocakaa.AM
