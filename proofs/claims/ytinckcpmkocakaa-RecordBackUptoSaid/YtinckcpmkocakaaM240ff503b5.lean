/-
  Contracts: the reference's check, part 2.
-/
import Derived.Test.YtinckcpmkocakaaM23979cf001
set_option linter.unusedVariables false
set_option linter.unusedSimpArgs false
namespace Go.Proofs.Ytinckcpmkocakaa.AM
open Go Go.RowKit
set_option maxRecDepth 100000
set_option maxHeartbeats 4000000

theorem cCheck12 (a : RecM) (l : List V) (ha : l = strsV a.path) : CallR Try.prog 29 [.agg [.int .u8 a.k, .slice l, .int .i64 a.sz, .int .u32 a.sm, .int .i64 a.mi, .int .i64 a.mo, .int .u32 a.si, .int .u32 a.so]] fun rs => ∃ e : Int, rs = [.v (.int .i64 e)] ∧ e = errM (checkM a) 2 := by
  obtain ⟨e, he⟩ : ∃ e, e = errM (checkM a) 2 := ⟨_, rfl⟩
  refine .of _ ⟨e, rfl, he⟩ ?_
  obtain ⟨k, p, sz, sm, mi, mo, si, so⟩ := a
  dsimp only at *
  refine FnR.of' T_ok M_ok (fn := Try.f29) (by kernel_rfl) rfl rfl rfl rfl (Nat.le_of_ble_eq_true rfl) fun A hA => ?_
  cbv
  refine condI hA (fun h1 => ?_) (fun h1 => ?_)
  · replace h1 := eqT hA h1
    subst h1
    cbv
    refine callI hA (cPath12 p l ha) ?_
    intro rs_ h_
    obtain ⟨c1, q_1, hc1⟩ := h_
    subst q_1
    cbv
    refine condI hA (fun q1 => ?_) (fun q1 => ?_)
    · replace q1 := hc1.symm.trans q1
      cbv
      refine condI hA (fun q2 => ?_) (fun q2 => ?_)
      · replace q2 := leT hA q2
        cbv
        refine condI hA (fun q3 => ?_) (fun q3 => ?_)
        · replace q3 := leT hA q3
          cbv
          obtain ⟨c4, hc4⟩ : ∃ c4, c4 = (mi == 0 && (mo == 0 && (si == 0 && so == 0))) := ⟨_, rfl⟩
          refine eqAI hA c4 (hc4 ▸ eqMark mi mo si so 0 0 0 0) ?_
          cbv
          refine condI hA (fun q4 => ?_) (fun q4 => ?_)
          · replace q4 := notT hA q4
            replace q4 := hc4.symm.trans q4
            cbv
            refine retI hA ?_
            simp only [retOk, rsOk, retIds, idsD, idsDs, softOb, toV, Option.some.injEq, V.int.injEq, true_and, and_true]
            rw [he]; simp [errM, checkM, inM, markZ, q1, q2, q3, q4]
          · replace q4 := notF hA q4
            replace q4 := hc4.symm.trans q4
            cbv
            refine retI hA ?_
            simp only [retOk, rsOk, retIds, idsD, idsDs, softOb, toV, Option.some.injEq, V.int.injEq, true_and, and_true]
            rw [he]; simp [errM, checkM, inM, markZ, q1, q2, q3, q4]
        · replace q3 := leF hA q3
          cbv
          refine retI hA ?_
          simp only [retOk, rsOk, retIds, idsD, idsDs, softOb, toV, Option.some.injEq, V.int.injEq, true_and, and_true]
          rw [he]; simp [errM, checkM, inM, markZ, q1, q2, q3]
      · replace q2 := leF hA q2
        cbv
        refine retI hA ?_
        simp only [retOk, rsOk, retIds, idsD, idsDs, softOb, toV, Option.some.injEq, V.int.injEq, true_and, and_true]
        rw [he]; simp [errM, checkM, inM, markZ, q1, q2]
    · replace q1 := hc1.symm.trans q1
      cbv
      refine retI hA ?_
      simp only [retOk, rsOk, retIds, idsD, idsDs, softOb, toV, Option.some.injEq, V.int.injEq, true_and, and_true]
      rw [he]; simp [errM, checkM, inM, markZ, q1]
  · replace h1 := eqF hA h1
    cbv
    refine condI hA (fun g1 => ?_) (fun g1 => ?_)
    · replace g1 := eqT hA g1
      subst g1
      cbv
      refine condI hA (fun q1 => ?_) (fun q1 => ?_)
      · replace q1 := lenNil hA ha q1
        cbv
        refine condI hA (fun q2 => ?_) (fun q2 => ?_)
        · replace q2 := eqT hA q2
          cbv
          refine condI hA (fun q3 => ?_) (fun q3 => ?_)
          · replace q3 := eqT hA q3
            cbv
            refine condI hA (fun q4 => ?_) (fun q4 => ?_)
            · replace q4 := leT hA q4
              cbv
              refine condI hA (fun q5 => ?_) (fun q5 => ?_)
              · replace q5 := leT hA q5
                cbv
                refine condI hA (fun q6 => ?_) (fun q6 => ?_)
                · replace q6 := leT hA q6
                  cbv
                  refine condI hA (fun q7 => ?_) (fun q7 => ?_)
                  · replace q7 := notT hA q7
                    replace q7 := leF hA q7
                    cbv
                    refine retI hA ?_
                    simp only [retOk, rsOk, retIds, idsD, idsDs, softOb, toV, Option.some.injEq, V.int.injEq, true_and, and_true]
                    rw [he]; simp [errM, checkM, inM, markZ, q1, q2, q3, q4, q5, q6, q7]
                  · replace q7 := notF hA q7
                    replace q7 := leT hA q7
                    cbv
                    refine retI hA ?_
                    simp only [retOk, rsOk, retIds, idsD, idsDs, softOb, toV, Option.some.injEq, V.int.injEq, true_and, and_true]
                    rw [he]; simp [errM, checkM, inM, markZ, q1, q2, q3, q4, q5, q6, q7]
                · replace q6 := leF hA q6
                  cbv
                  refine retI hA ?_
                  simp only [retOk, rsOk, retIds, idsD, idsDs, softOb, toV, Option.some.injEq, V.int.injEq, true_and, and_true]
                  rw [he]; simp [errM, checkM, inM, markZ, q1, q2, q3, q4, q5, q6]
              · replace q5 := leF hA q5
                cbv
                refine retI hA ?_
                simp only [retOk, rsOk, retIds, idsD, idsDs, softOb, toV, Option.some.injEq, V.int.injEq, true_and, and_true]
                rw [he]; simp [errM, checkM, inM, markZ, q1, q2, q3, q4, q5]
            · replace q4 := leF hA q4
              cbv
              refine retI hA ?_
              simp only [retOk, rsOk, retIds, idsD, idsDs, softOb, toV, Option.some.injEq, V.int.injEq, true_and, and_true]
              rw [he]; simp [errM, checkM, inM, markZ, q1, q2, q3, q4]
          · replace q3 := eqF hA q3
            cbv
            refine retI hA ?_
            simp only [retOk, rsOk, retIds, idsD, idsDs, softOb, toV, Option.some.injEq, V.int.injEq, true_and, and_true]
            rw [he]; simp [errM, checkM, inM, markZ, q1, q2, q3]
        · replace q2 := eqF hA q2
          cbv
          refine retI hA ?_
          simp only [retOk, rsOk, retIds, idsD, idsDs, softOb, toV, Option.some.injEq, V.int.injEq, true_and, and_true]
          rw [he]; simp [errM, checkM, inM, markZ, q1, q2]
      · replace q1 := lenNe hA ha q1
        cbv
        refine retI hA ?_
        simp only [retOk, rsOk, retIds, idsD, idsDs, softOb, toV, Option.some.injEq, V.int.injEq, true_and, and_true]
        rw [he]; simp [errM, checkM, inM, markZ, q1]
    · replace g1 := eqF hA g1
      cbv
      refine condI hA (fun f1 => ?_) (fun f1 => ?_)
      · replace f1 := eqT hA f1
        subst f1
        cbv
        refine condI hA (fun q1 => ?_) (fun q1 => ?_)
        · replace q1 := lenNil hA ha q1
          cbv
          refine condI hA (fun q2 => ?_) (fun q2 => ?_)
          · replace q2 := eqT hA q2
            cbv
            refine condI hA (fun q3 => ?_) (fun q3 => ?_)
            · replace q3 := eqT hA q3
              cbv
              obtain ⟨c4, hc4⟩ : ∃ c4, c4 = (mi == 0 && (mo == 0 && (si == 0 && so == 0))) := ⟨_, rfl⟩
              refine eqAI hA c4 (hc4 ▸ eqMark mi mo si so 0 0 0 0) ?_
              cbv
              refine condI hA (fun q4 => ?_) (fun q4 => ?_)
              · replace q4 := notT hA q4
                replace q4 := hc4.symm.trans q4
                cbv
                refine retI hA ?_
                simp only [retOk, rsOk, retIds, idsD, idsDs, softOb, toV, Option.some.injEq, V.int.injEq, true_and, and_true]
                rw [he]; simp [errM, checkM, inM, markZ, q1, q2, q3, q4]
              · replace q4 := notF hA q4
                replace q4 := hc4.symm.trans q4
                cbv
                refine retI hA ?_
                simp only [retOk, rsOk, retIds, idsD, idsDs, softOb, toV, Option.some.injEq, V.int.injEq, true_and, and_true]
                rw [he]; simp [errM, checkM, inM, markZ, q1, q2, q3, q4]
            · replace q3 := eqF hA q3
              cbv
              refine retI hA ?_
              simp only [retOk, rsOk, retIds, idsD, idsDs, softOb, toV, Option.some.injEq, V.int.injEq, true_and, and_true]
              rw [he]; simp [errM, checkM, inM, markZ, q1, q2, q3]
          · replace q2 := eqF hA q2
            cbv
            refine retI hA ?_
            simp only [retOk, rsOk, retIds, idsD, idsDs, softOb, toV, Option.some.injEq, V.int.injEq, true_and, and_true]
            rw [he]; simp [errM, checkM, inM, markZ, q1, q2]
        · replace q1 := lenNe hA ha q1
          cbv
          refine retI hA ?_
          simp only [retOk, rsOk, retIds, idsD, idsDs, softOb, toV, Option.some.injEq, V.int.injEq, true_and, and_true]
          rw [he]; simp [errM, checkM, inM, markZ, q1]
      · replace f1 := eqF hA f1
        cbv
        refine retI hA ?_
        simp only [retOk, rsOk, retIds, idsD, idsDs, softOb, toV, Option.some.injEq, V.int.injEq, true_and, and_true]
        rw [he]; simp [errM, checkM, h1, g1, f1]
end Go.Proofs.Ytinckcpmkocakaa.AM

/-
  Contracts: the reference's pack.
-/
set_option linter.unusedVariables false
set_option linter.unusedSimpArgs false
namespace Go.Proofs.Ytinckcpmkocakaa.AM
open Go Go.RowKit
set_option maxRecDepth 100000
set_option maxHeartbeats 4000000

theorem numB_pos {n : Nat} (h : 0 < n) : numB n = numB (n / 256) ++ [UInt8.ofNat (n % 256)] := by
  unfold numB; rw [leB_pos h, List.reverse_cons]
theorem numB_zero : numB 0 = [] := by unfold numB; rw [leB_zero]; rfl
theorem tmod_nat (a b : Nat) : Int.tmod (a : Int) (b : Int) = ((a % b : Nat) : Int) := rfl
theorem tdiv_nat (a b : Nat) : Int.tdiv (a : Int) (b : Int) = ((a / b : Nat) : Int) := rfl
theorem wrap_u64n {n : Nat} (h : n < 18446744073709551616) : IntKind.u64.wrap (n : Int) = (n : Int) := by
  rw [wrap_u64 (by omega) (by omega)]; simp
theorem cNum12 (v : Int) (n : Nat) (hv : v = n) (hn : n < 18446744073709551616) : CallR Try.prog 46 [.int .u64 v] fun rs => ∃ l, rs = [.v (.slice l)] ∧ l = bytesV (numB n) := by
  obtain ⟨l, hl⟩ : ∃ l, l = bytesV (numB n) := ⟨_, rfl⟩
  refine .of _ ⟨l, rfl, hl⟩ ?_
  refine FnR.of' T_ok M_ok (fn := Try.f46) (by kernel_rfl) rfl rfl rfl rfl (Nat.le_of_ble_eq_true rfl) fun A hA => ?_
  cbv
  refine loopF hA (ι := Int × List V) (fun p => { n := 15, sl := [(0, .v (.int .u64 p.1)), (3, .own 11)], ob := [(11, .row 1 p.2 true)] })
    (fun p => ∃ (k : Nat) (a : List UInt8), p.1 = k ∧ k ≤ n ∧ numB k ++ a = numB n ∧ p.2 = bytesV a ∧ a.length + (leB k).length ≤ 8) (fun p => p.1.toNat) (v, []) ((weak_nils _ 3 11 1 true rfl).trans (weakI rfl ⟨rfl, rfl, trivial⟩ ⟨rfl, trivial⟩)) ⟨n, [], hv, Nat.le_refl _, by simp, rfl, by simpa using leB_len 8 n (by simpa using hn)⟩ ?_
  rintro ⟨x, y⟩ ⟨k, a, hx, hkn, ha, hy, hal⟩
  dsimp only at hx hy
  cbv
  refine condI hA (fun hc => ?_) (fun hc => ?_)
  · have hk0 : 0 < k := pos_of (natEq hx) (ltT hA hc)
    cbv
    refine nzI hA (by decide) ?_
    cbv
    have hb : [V.int .u8 (A.wrap .u8 (A.tmod x 256))] = bytesV [UInt8.ofNat (k % 256)] := by
      have : A.wrap .u8 (A.tmod x 256) = ((k % 256 : Nat) : Int) := by
        rw [hA, natEq hx]; simp only [std]
        rw [show (256 : Int) = ((256 : Nat) : Int) from rfl, tmod_nat, wrap_u8, Nat.mod_mod]
      rw [byteV this]; rfl
    refine roomI hA (room_of hb hy (by simp; omega)) ?_
    cbv
    refine nzI hA (by decide) ?_
    cbv
    have hd : A.wrap .u64 (A.tdiv x 256) = ((k / 256 : Nat) : Int) := by
      rw [hA, natEq hx]; simp only [std]
      rw [show (256 : Int) = ((256 : Nat) : Int) from rfl, tdiv_nat, wrap_u64n (by omega)]
    refine ⟨(_, _), weakI rfl ⟨rfl, rfl, trivial⟩ ⟨rfl, trivial⟩, ⟨k / 256, [UInt8.ofNat (k % 256)] ++ a, hd, by omega, ?_, app_of hA hb hy, ?_⟩, ?_⟩
    · rw [← ha, numB_pos hk0]; simp
    · rw [leB_pos hk0] at hal; simp at hal; simp; omega
    · change (A.wrap .u64 (A.tdiv x 256)).toNat < x.toNat
      rw [hd, natEq hx]; simp only [Int.toNat_natCast]; omega
  · have hk0 : k = 0 := zero_of (natEq hx) (ltF hA hc)
    cbv
    refine retI hA ?_
    subst hk0
    rw [numB_zero, List.nil_append] at ha
    exact ⟨congrArg (fun q => some (V.slice q)) (by rw [hy, hl, ha]), trivial⟩
theorem bigGt {A : Prim} {P : Program} {R : List (Nat × AObj) → List D → Prop} (hA : A = std P R) {f : List V} {b : List UInt8} (hf : f = bytesV b) (h : A.ilt 1024 (A.lenL f) = true) : bigM b = true := by
  have := ltT hA h; rw [hA] at this; simp only [std] at this; rw [hf, bytesV_len] at this; exact decide_eq_true this
theorem bigLe {A : Prim} {P : Program} {R : List (Nat × AObj) → List D → Prop} (hA : A = std P R) {f : List V} {b : List UInt8} (hf : f = bytesV b) (h : A.ilt 1024 (A.lenL f) = false) : bigM b = false := by
  have := ltF hA h; rw [hA] at this; simp only [std] at this; rw [hf, bytesV_len] at this; exact decide_eq_false this
theorem cPack12 (fs : List (List UInt8)) (l : List V) (hl : l = listsV fs) (hfs : fs.length ≤ 1000000) : CallR Try.prog 45 [.slice l] fun rs => ∃ (r : List V) (e : Int), rs = [.v (.slice r), .v (.int .i64 e)] ∧ r = bytesV (packB fs) ∧ e = packE fs := by
  obtain ⟨r, hr⟩ : ∃ r, r = bytesV (packB fs) := ⟨_, rfl⟩
  obtain ⟨e, he⟩ : ∃ e, e = packE fs := ⟨_, rfl⟩
  refine .of [.v (.slice r), .v (.int .i64 e)] ⟨r, e, rfl, hr, he⟩ ?_
  refine FnR.of' T_ok M_ok (fn := Try.f45) (by kernel_rfl) rfl rfl rfl rfl (Nat.le_of_ble_eq_true rfl) fun A hA => ?_
  cbv
  refine loopF hA (ι := Int × List V) (fun p => { n := 35, sl := [(0, .v (.slice l)), (4, .own 33), (5, .v (.int .i64 p.1))], ob := [(33, .row 1 p.2 true)] })
    (fun p => ∃ j : Nat, p.1 = j ∧ j ≤ fs.length ∧ (∀ m (hm : m < fs.length), m < j → bigM fs[m] = false) ∧ p.2 = bytesV (packL (fs.take j))) (fun p => fs.length - p.1.toNat) (_, _) ((weak_nils _ 4 33 1 true rfl).trans (weakI rfl ⟨rfl, rfl, rfl, trivial⟩ ⟨rfl, trivial⟩)) ⟨0, rfl, Nat.zero_le _, fun _ _ h => by omega, rfl⟩ ?_
  rintro ⟨i, x⟩ ⟨j, hi, hj, hb, hx⟩
  dsimp only at hi hx
  cbv
  refine condI hA (fun hc => ?_) (fun hc => ?_)
  · have hjl := ltL hA (natEq hi) (lenLs hl) hc
    cbv
    refine getLN hA hl (natEq hi) hjl ?_
    rintro f hf
    cbv
    refine condI hA (fun h1 => ?_) (fun h1 => ?_)
    · have h1 := bigGt hA hf h1
      have : fs.any bigM = true := List.any_eq_true.2 ⟨_, List.getElem_mem hjl, h1⟩
      cbv
      refine retI hA ?_
      refine ⟨congrArg (fun q => some (V.slice q)) ?_, congrArg (fun q => some (V.int .i64 q)) ?_, trivial⟩
      · rw [hr]; simp [packB, this, bytesV]
      · rw [he]; simp [packE, this]
    · have h1 := bigLe hA hf h1
      have hb' : ∀ m (hm : m < fs.length), m < j + 1 → bigM fs[m] = false := fun m hm hmj => by
        by_cases e : m = j
        · subst e; exact h1
        · exact hb m hm (by omega)
      have hf1 : fs[j].length ≤ 1024 := by
        unfold bigM at h1; have := of_decide_eq_false h1; omega
      have hal : (packL (fs.take j)).length ≤ j * 1026 := by
        have := packL_len (fs := fs.take j) fun f hf => by
          obtain ⟨m, hm, rfl⟩ := List.getElem_of_mem hf
          rw [List.length_take] at hm
          rw [List.getElem_take]
          exact hb m (by omega) (by omega)
        rw [List.length_take, Nat.min_eq_left (by omega)] at this; exact this
      cbv
      refine chkI hA (by kernel_rfl) ?_
      cbv
      have hfl : A.lenL f = (fs[j].length : Nat) := by rw [hA]; simp only [std]; rw [hf, bytesV_len]
      refine nzI hA (by decide) ?_
      cbv
      refine nzI hA (by decide) ?_
      cbv
      refine getLN hA hl (natEq hi) hjl ?_
      rintro f2 hf2
      cbv
      have k1 : [V.int .u8 (A.wrap .u8 (A.wrap .i64 (A.tdiv (A.lenL f) 256))), .int .u8 (A.wrap .u8 (A.tmod (A.lenL f) 256))] = bytesV [UInt8.ofNat (fs[j].length / 256 % 256), UInt8.ofNat (fs[j].length % 256)] := by
        rw [hfl, hA]
        simp only [std]
        rw [show (256 : Int) = ((256 : Nat) : Int) from rfl, tdiv_nat, tmod_nat, wrap_i64 (by omega) (by omega), wrap_u8, wrap_u8, Nat.mod_mod, byteV (n := fs[j].length / 256) rfl, byteV (n := fs[j].length) rfl]
        rfl
      refine sizedI hA (bytesV_flat k1) ?_
      cbv
      refine roomI hA (room_of hx k1 (by simp; omega)) ?_
      cbv
      have k2 := app_of hA hx k1
      refine sizedI hA (bytesV_flat hf2) ?_
      cbv
      refine roomI hA (room_of k2 hf2 (by simp; omega)) ?_
      cbv
      refine ⟨(_, _), weakI rfl ⟨rfl, rfl, rfl, trivial⟩ ⟨rfl, trivial⟩, ⟨j + 1, upI hA (natEq hi) (by omega), hjl, hb', ?_⟩, upM hA (natEq hi) hjl (by omega)⟩
      refine (app_of hA k2 hf2).trans ?_
      rw [packL_take hjl]; simp
  · have hjl := geL hA (natEq hi) (lenLs hl) hc hj
    have h1 : fs.any bigM = false := any_of fun x hx => by
      obtain ⟨m, hm, rfl⟩ := List.getElem_of_mem hx
      exact hb m hm (by omega)
    cbv
    refine retI hA ?_
    subst hjl
    rw [List.take_length] at hx
    refine ⟨congrArg (fun q => some (V.slice q)) ?_, congrArg (fun q => some (V.int .i64 q)) ?_, trivial⟩
    · rw [hx, hr]; simp [packB, h1]
    · rw [he]; simp [packE, h1]
theorem cTexts12 (ps : List (List UInt8)) (l : List V) (hl : l = strsV ps) (hps : ps.length ≤ 1000000) (hp : ∀ p ∈ ps, p.length ≤ 140737488355328) : CallR Try.prog 44 [.slice l] fun rs => ∃ (r : List V) (e : Int), rs = [.v (.slice r), .v (.int .i64 e)] ∧ r = bytesV (packB ps) ∧ e = packE ps := by
  obtain ⟨r, hr⟩ : ∃ r, r = bytesV (packB ps) := ⟨_, rfl⟩
  obtain ⟨e, he⟩ : ∃ e, e = packE ps := ⟨_, rfl⟩
  refine .of [.v (.slice r), .v (.int .i64 e)] ⟨r, e, rfl, hr, he⟩ ?_
  refine FnR.of' T_ok M_ok (fn := Try.f44) (by kernel_rfl) rfl rfl rfl rfl (Nat.le_of_ble_eq_true rfl) fun A hA => ?_
  cbv
  refine loopF hA (ι := Int × List V) (fun p => { n := 24, sl := [(0, .v (.slice l)), (4, .own 19), (5, .v (.int .i64 p.1))], ob := [(19, .row 1 p.2 true)] })
    (fun p => ∃ j : Nat, p.1 = j ∧ j ≤ ps.length ∧ p.2 = listsV (ps.take j)) (fun p => ps.length - p.1.toNat) (_, _) ((weak_nils _ 4 19 1 true rfl).trans (weakI rfl ⟨rfl, rfl, rfl, trivial⟩ ⟨rfl, trivial⟩)) ⟨0, rfl, Nat.zero_le _, rfl⟩ ?_
  rintro ⟨i, x⟩ ⟨j, hi, hj, hx⟩
  dsimp only at hi hx
  cbv
  refine condI hA (fun hc => ?_) (fun hc => ?_)
  · have hjl := ltL hA (natEq hi) (lenS' hl) hc
    cbv
    refine getSN hA hl (natEq hi) hjl ?_
    rintro s hs
    cbv
    refine catOkI hA (by rw [hs]; have := hp _ (List.getElem_mem hjl); simp; omega) ?_
    cbv
    have hb : [V.slice (A.s2b s)] = listsV [ps[j]'hjl] := by rw [hA, hs]; rfl
    refine roomI hA (by rw [hx, listsV_len]; simp; omega) ?_
    cbv
    refine ⟨(_, _), weakI rfl ⟨rfl, rfl, rfl, trivial⟩ ⟨rfl, trivial⟩, ⟨j + 1, upI hA (natEq hi) (by omega), hjl, ?_⟩, upM hA (natEq hi) hjl (by omega)⟩
    refine (app_ls hA hx hb).trans ?_
    rw [List.take_succ_eq_append_getElem hjl]
  · have hjl := geL hA (natEq hi) (lenS' hl) hc hj
    cbv
    subst hjl
    rw [List.take_length] at hx
    refine callI hA (cPack12 ps x hx hps) ?_
    intro rs_ h_
    obtain ⟨r2, e2, q_1, hr2, he2⟩ := h_
    subst q_1
    cbv
    refine retI hA ?_
    exact ⟨congrArg (fun q => some (V.slice q)) (hr2.trans hr.symm), congrArg (fun q => some (V.int .i64 q)) (he2.trans he.symm), trivial⟩
end Go.Proofs.Ytinckcpmkocakaa.AM

/-
  Contracts: the reference's put.
-/
set_option linter.unusedVariables false
set_option linter.unusedSimpArgs false
namespace Go.Proofs.Ytinckcpmkocakaa.AM
open Go Go.RowKit
set_option maxRecDepth 100000
set_option maxHeartbeats 4000000

theorem cPut12 (a : RecM) (l : List V) (ha : l = strsV a.path) (hr : RecOk a) : CallR Try.prog 27 [.agg [.int .u8 a.k, .slice l, .int .i64 a.sz, .int .u32 a.sm, .int .i64 a.mi, .int .i64 a.mo, .int .u32 a.si, .int .u32 a.so]] fun rs => ∃ (r : List V) (e : Int), rs = [.v (.slice r), .v (.int .i64 e)] ∧ r = bytesV (putB a) ∧ e = putE a := by
  obtain ⟨r, hrr⟩ : ∃ r, r = bytesV (putB a) := ⟨_, rfl⟩
  obtain ⟨e, he⟩ : ∃ e, e = putE a := ⟨_, rfl⟩
  refine .of [.v (.slice r), .v (.int .i64 e)] ⟨r, e, rfl, hrr, he⟩ ?_
  obtain ⟨a0, hae⟩ : ∃ a0, a0 = a := ⟨_, rfl⟩
  obtain ⟨k, p, sz, sm, mi, mo, si, so⟩ := a
  dsimp only at ha
  refine FnR.of' T_ok M_ok (fn := Try.f27) (by kernel_rfl) rfl rfl rfl rfl (Nat.le_of_ble_eq_true rfl) fun A hA => ?_
  cbv
  refine callI hA (cCheck12 ⟨k, p, sz, sm, mi, mo, si, so⟩ l ha) ?_
  intro rs_ h_
  obtain ⟨e1, q_1, he1⟩ := h_
  subst q_1
  cbv
  rw [← hae] at he1 hr hrr he
  refine condI hA (fun h1 => ?_) (fun h1 => ?_)
  · have h1 := ine_err hA h1
    have hck : checkM a0 = false := by
      cases hq : checkM a0 with
      | false => rfl
      | true => rw [hq] at he1; exact absurd he1 h1
    cbv
    refine retI hA ?_
    refine ⟨congrArg (fun q => some (V.slice q)) ?_, congrArg (fun q => some (V.int .i64 q)) ?_, trivial⟩
    · rw [hrr]; simp [putB, hck, bytesV]
    · rw [he, he1]; simp [putE, errM, hck]
  · have h1 := ine_ok hA h1
    have hck : checkM a0 = true := by
      cases hq : checkM a0 with
      | true => rfl
      | false => rw [hq, h1] at he1; cases he1
    obtain ⟨g1, g2, g3, g4, g5⟩ := check_rng hck
    have hpp := pack_path hck
    have hap : a0.path = p := by rw [hae]
    have hak : a0.k = k := by rw [hae]
    have hsz : a0.sz = sz := by rw [hae]
    have hsm : a0.sm = sm := by rw [hae]
    have hmi : a0.mi = mi := by rw [hae]
    have hmo : a0.mo = mo := by rw [hae]
    have hsi : a0.si = si := by rw [hae]
    have hso : a0.so = so := by rw [hae]
    cbv
    refine callI hA (cTexts12 p l ha (by rw [← hap]; omega) (by rw [← hap]; exact hr.ps)) ?_
    intro rs_ h_
    obtain ⟨t, e2, q_1, ht, he2⟩ := h_
    subst q_1
    cbv
    rw [← hap] at ht he2
    rw [hpp.1] at ht
    refine chkI hA (by kernel_rfl) ?_
    cbv
    obtain ⟨k0, k1, sm0, sm1, si0, si1, so0, so1, pl, ps⟩ := hr
    rw [hak] at k0 k1
    rw [hsm] at sm0 sm1
    rw [hsi] at si0 si1
    rw [hso] at so0 so1
    rw [hsz] at g1
    rw [hmi] at g2
    rw [hmo] at g3
    refine callI hA (cNum12 (A.wrap .u64 k) k.toNat (wrapK hA (by omega) (by omega)) (by omega)) ?_
    intro rs_ h_
    obtain ⟨b1, q_1, hb1⟩ := h_
    subst q_1
    cbv
    refine callI hA (cNum12 (A.wrap .u64 sz) sz.toNat (wrapK hA (by omega) (by omega)) (by omega)) ?_
    intro rs_ h_
    obtain ⟨b2, q_1, hb2⟩ := h_
    subst q_1
    cbv
    refine callI hA (cNum12 (A.wrap .u64 sm) sm.toNat (wrapK hA (by omega) (by omega)) (by omega)) ?_
    intro rs_ h_
    obtain ⟨b3, q_1, hb3⟩ := h_
    subst q_1
    cbv
    refine callI hA (cNum12 (A.wrap .u64 mi) mi.toNat (wrapK hA (by omega) (by omega)) (by omega)) ?_
    intro rs_ h_
    obtain ⟨b4, q_1, hb4⟩ := h_
    subst q_1
    cbv
    refine callI hA (cNum12 (A.wrap .u64 mo) mo.toNat (wrapK hA (by omega) (by omega)) (by omega)) ?_
    intro rs_ h_
    obtain ⟨b5, q_1, hb5⟩ := h_
    subst q_1
    cbv
    refine callI hA (cNum12 (A.wrap .u64 si) si.toNat (wrapK hA (by omega) (by omega)) (by omega)) ?_
    intro rs_ h_
    obtain ⟨b6, q_1, hb6⟩ := h_
    subst q_1
    cbv
    refine callI hA (cNum12 (A.wrap .u64 so) so.toNat (wrapK hA (by omega) (by omega)) (by omega)) ?_
    intro rs_ h_
    obtain ⟨b7, q_1, hb7⟩ := h_
    subst q_1
    cbv
    have hx : [V.slice b1, V.slice t, V.slice b2, V.slice b3, V.slice b4, V.slice b5, V.slice b6, V.slice b7] = listsV (fieldsM a0) := by
      rw [hb1, ht, hb2, hb3, hb4, hb5, hb6, hb7, hae]; rfl
    refine callI hA (cPack12 (fieldsM a0) _ hx (by simp [fieldsM, numsOf])) ?_
    intro rs_ h_
    obtain ⟨r2, e3, q_1, hr2, he3⟩ := h_
    subst q_1
    cbv
    have hr : RecOk a0 := ⟨hak ▸ k0, hak ▸ k1, hsm ▸ sm0, hsm ▸ sm1, hsi ▸ si0, hsi ▸ si1, hso ▸ so0, hso ▸ so1, pl, ps⟩
    have hpf := pack_fields hr hck
    rw [hpf.1] at hr2
    rw [hpf.2] at he3
    refine retI hA ?_
    exact ⟨congrArg (fun q => some (V.slice q)) (hr2.trans hrr.symm), congrArg (fun q => some (V.int .i64 q)) (he3.trans he.symm), trivial⟩
end Go.Proofs.Ytinckcpmkocakaa.AM

/-
  Contracts: unpacking.
-/
set_option linter.unusedVariables false
set_option linter.unusedSimpArgs false
namespace Go.Proofs.Ytinckcpmkocakaa.AM
open Go Go.RowKit
set_option maxRecDepth 100000
set_option maxHeartbeats 4000000

theorem bits_or_i64_nat (a b : Nat) (ha : a < 4294967296) (hb : b < 4294967296) : bits .or .i64 (a : Int) (b : Int) = ((a ||| b : Nat) : Int) := by
  have hx : a ||| b < 2 ^ 32 := Nat.or_lt_two_pow (by omega) (by omega)
  have h1 : (BitVec.ofInt 64 (a : Int)).toNat = a := by
    rw [BitVec.ofInt_natCast, BitVec.toNat_ofNat]; exact Nat.mod_eq_of_lt (by omega)
  have h2 : (BitVec.ofInt 64 (b : Int)).toNat = b := by
    rw [BitVec.ofInt_natCast, BitVec.toNat_ofNat]; exact Nat.mod_eq_of_lt (by omega)
  show IntKind.i64.wrap ((BitVec.ofInt 64 (a : Int) ||| BitVec.ofInt 64 (b : Int)).toNat : Int) = _
  rw [BitVec.toNat_or, h1, h2]
  exact wrap_i64 (by omega) (by omega)
theorem or_256 (a b : Nat) (hb : b < 256) : a * 256 ||| b = a * 256 + b := by
  have := Nat.shiftLeft_add_eq_or_of_lt (i := 8) (b := b) (by simpa using hb) a
  rw [Nat.shiftLeft_eq] at this
  exact this.symm
def unpackM : List UInt8 → Option (List (List UInt8))
  | [] => some []
  | [_] => none
  | x :: y :: r => if 1024 < x.toNat * 256 + y.toNat ∨ r.length < x.toNat * 256 + y.toNat then none else match unpackM (r.drop (x.toNat * 256 + y.toNat)) with
    | some fs => some (r.take (x.toNat * 256 + y.toNat) :: fs)
    | none => none
termination_by b => b.length
decreasing_by simp only [List.length_drop, List.length_cons]; omega
def unpackL (b : List UInt8) : List (List UInt8) := match unpackM b with
  | some fs => fs
  | none => []
def unpackE (b : List UInt8) : Int := match unpackM b with
  | some _ => 0
  | none => 4
def upTo (a : List (List UInt8)) : Option (List (List UInt8)) → Option (List (List UInt8))
  | some fs => some (a ++ fs)
  | none => none
theorem cClone (l : List V) (hs : ∀ x ∈ l, x.flat.length = 1) (hl : l.length ≤ 140737488355328) : CallR Try.prog 67 [.slice l] fun rs => rs = [.v (.slice l)] := by
  refine .of _ rfl ?_
  refine FnR.of' T_ok M_ok (fn := Try.f67) (by kernel_rfl) rfl rfl rfl rfl (Nat.le_of_ble_eq_true rfl) fun A hA => ?_
  cbv
  by_cases h : l = []
  · subst h
    refine nilqU hA ?_
    cbv
    constructor
    · refine retI hA ?_
      exact ⟨rfl, trivial⟩
    · refine sizedI hA (by simp) ?_
      cbv
      refine roomI hA (by simp) ?_
      cbv
      refine retI hA ?_
      exact ⟨congrArg (fun q => some (V.slice q)) (by rw [hA]; rfl), trivial⟩
  · refine nilqI hA h ?_
    cbv
    refine sizedI hA hs ?_
    cbv
    refine roomI hA (by simpa using hl) ?_
    cbv
    refine retI hA ?_
    exact ⟨congrArg (fun q => some (V.slice q)) (by rw [hA]; rfl), trivial⟩
theorem unpackM_cons (x y : UInt8) (r : List UInt8) : unpackM (x :: y :: r) = if 1024 < x.toNat * 256 + y.toNat ∨ r.length < x.toNat * 256 + y.toNat then none else match unpackM (r.drop (x.toNat * 256 + y.toNat)) with
    | some fs => some (r.take (x.toNat * 256 + y.toNat) :: fs)
    | none => none := by rw [unpackM]
theorem unpackM_short {b : List UInt8} (h0 : 0 < b.length) (h : b.length < 2) : unpackM b = none := by
  match b, h0, h with
  | [_], _, _ => rw [unpackM]
theorem bGtT {A : Prim} {P : Program} {R : List (Nat × AObj) → List D → Prop} (hA : A = std P R) {f : List V} {b : List UInt8} {n : Int} {m : Nat} (hf : f = bytesV b) (hn : n = m) (h : A.ilt n (A.lenL f) = true) : m < b.length := by
  have := ltT hA h; rw [hA, hn] at this; simp only [std] at this; rw [hf, bytesV_len] at this; omega
theorem bGtF {A : Prim} {P : Program} {R : List (Nat × AObj) → List D → Prop} (hA : A = std P R) {f : List V} {b : List UInt8} {n : Int} {m : Nat} (hf : f = bytesV b) (hn : n = m) (h : A.ilt n (A.lenL f) = false) : ¬ m < b.length := by
  have := ltF hA h; rw [hA, hn] at this; simp only [std] at this; rw [hf, bytesV_len] at this; omega
theorem bLtT {A : Prim} {P : Program} {R : List (Nat × AObj) → List D → Prop} (hA : A = std P R) {f : List V} {b : List UInt8} {n : Int} {m : Nat} (hf : f = bytesV b) (hn : n = m) (h : A.ilt (A.lenL f) n = true) : b.length < m := by
  have := ltT hA h; rw [hA, hn] at this; simp only [std] at this; rw [hf, bytesV_len] at this; omega
theorem bLtF {A : Prim} {P : Program} {R : List (Nat × AObj) → List D → Prop} (hA : A = std P R) {f : List V} {b : List UInt8} {n : Int} {m : Nat} (hf : f = bytesV b) (hn : n = m) (h : A.ilt (A.lenL f) n = false) : ¬ b.length < m := by
  have := ltF hA h; rw [hA, hn] at this; simp only [std] at this; rw [hf, bytesV_len] at this; omega
theorem bLeT {A : Prim} {P : Program} {R : List (Nat × AObj) → List D → Prop} (hA : A = std P R) {f : List V} {b : List UInt8} {n : Int} {m : Nat} (hf : f = bytesV b) (hn : n = m) (h : A.ile n (A.lenL f) = true) : m ≤ b.length := by
  have := leT hA h; rw [hA, hn] at this; simp only [std] at this; rw [hf, bytesV_len] at this; omega
theorem bLeF {A : Prim} {P : Program} {R : List (Nat × AObj) → List D → Prop} (hA : A = std P R) {f : List V} {b : List UInt8} {n : Int} {m : Nat} (hf : f = bytesV b) (hn : n = m) (h : A.ile n (A.lenL f) = false) : ¬ m ≤ b.length := by
  have := leF hA h; rw [hA, hn] at this; simp only [std] at this; rw [hf, bytesV_len] at this; omega
theorem nGtT {A : Prim} {P : Program} {R : List (Nat × AObj) → List D → Prop} (hA : A = std P R) {k n : Int} {c m : Nat} (hk : k = c) (hn : n = m) (h : A.ilt k n = true) : c < m := by
  have := ltT hA h; rw [hk, hn] at this; omega
theorem nGtF {A : Prim} {P : Program} {R : List (Nat × AObj) → List D → Prop} (hA : A = std P R) {k n : Int} {c m : Nat} (hk : k = c) (hn : n = m) (h : A.ilt k n = false) : ¬ c < m := by
  have := ltF hA h; rw [hk, hn] at this; omega
theorem sub_of {lo hi : Int} {a c : Nat} {l : List V} {b : List UInt8} (hlo : lo = a) (hhi : hi = c) (hl : l = bytesV b) (h1 : a ≤ c) (h2 : c ≤ b.length) : 0 ≤ lo ∧ lo ≤ hi ∧ hi ≤ l.length := by
  subst hlo hhi hl; rw [bytesV_len]; omega
theorem lenI {A : Prim} {P : Program} {R : List (Nat × AObj) → List D → Prop} (hA : A = std P R) {f : List V} {b : List UInt8} (hf : f = bytesV b) : A.lenL f = (b.length : Nat) := by
  rw [hA]; simp only [std]; rw [hf, bytesV_len]
theorem shl8 {A : Prim} {P : Program} {R : List (Nat × AObj) → List D → Prop} (hA : A = std P R) {n : Int} {m : Nat} (hn : n = m) (hm : m < 256) : A.shl .i64 (A.wrap .i64 n) 8 = ((m * 256 : Nat) : Int) := by
  rw [hA, hn]; simp only [std]
  have e1 : IntKind.i64.wrap (m : Int) = (m : Int) := wrap_i64 (by omega) (by omega)
  have e2 : (2 : Int) ^ (min (Int.toNat 8) IntKind.i64.bits) = 256 := by decide
  rw [e1, e2, show (m : Int) * 256 = ((m * 256 : Nat) : Int) from by simp]
  exact wrap_i64 (by omega) (by omega)
theorem len16 {A : Prim} {P : Program} {R : List (Nat × AObj) → List D → Prop} (hA : A = std P R) {n m : Int} {x y : Nat} (hn : n = x) (hm : m = y) (hx : x < 256) (hy : y < 256) : A.bits .or .i64 (A.shl .i64 (A.wrap .i64 n) 8) (A.wrap .i64 m) = ((x * 256 + y : Nat) : Int) := by
  rw [shl8 hA hn hx, hA, hm]; simp only [std]
  rw [wrap_i64 (by omega) (by omega), bits_or_i64_nat _ _ (by omega) (by omega), or_256 _ _ hy]
theorem cUnpack (b : List UInt8) (l : List V) (hl : l = bytesV b) (hb : b.length ≤ 4000000000) : CallR Try.prog 52 [.slice l] fun rs => ∃ (r : List V) (e : Int), rs = [.v (.slice r), .v (.int .i64 e)] ∧ r = listsV (unpackL b) ∧ e = unpackE b := by
  obtain ⟨r, hr⟩ : ∃ r, r = listsV (unpackL b) := ⟨_, rfl⟩
  obtain ⟨e, he⟩ : ∃ e, e = unpackE b := ⟨_, rfl⟩
  refine .of [.v (.slice r), .v (.int .i64 e)] ⟨r, e, rfl, hr, he⟩ ?_
  refine FnR.of' T_ok M_ok (fn := Try.f52) (by kernel_rfl) rfl rfl rfl rfl (Nat.le_of_ble_eq_true rfl) fun A hA => ?_
  cbv
  refine loopF hA (ι := List V × List V) (fun p => { n := 43, sl := [(0, .v (.slice p.1)), (4, .own 35)], ob := [(35, .row 1 p.2 true)] })
    (fun p => ∃ (b' : List UInt8) (a : List (List UInt8)), p.1 = bytesV b' ∧ p.2 = listsV a ∧ a.length + b'.length ≤ 4000000000 ∧ unpackM b = upTo a (unpackM b')) (fun p => p.1.length) (_, _) ((weak_nils _ 4 35 1 true rfl).trans (weakI rfl ⟨rfl, rfl, trivial⟩ ⟨rfl, trivial⟩)) ⟨b, [], hl, rfl, by simpa using hb, by unfold upTo; cases unpackM b <;> simp⟩ ?_
  rintro ⟨y, x⟩ ⟨b', a, hy, hx, hab, hu⟩
  dsimp only at hy hx
  have bad : unpackM b' = none → ([] : List V) = r ∧ (4 : Int) = e := fun h => by
    rw [h] at hu
    rw [hr, he]
    simp [unpackL, unpackE, hu, upTo, listsV]
  cbv
  refine condI hA (fun hc => ?_) (fun hc => ?_)
  · have h2 := bLeT hA (m := 2) hy rfl hc
    match b', h2, hy, hab, hu, bad with
    | c :: d :: t, _, hy, hab, hu, bad =>
    rw [unpackM_cons] at hu bad
    obtain ⟨n, hn⟩ : ∃ n : Nat, n = c.toNat * 256 + d.toNat := ⟨_, rfl⟩
    rw [← hn] at hu bad
    have hc8 : c.toNat < 256 := c.toNat_lt
    have hd8 : d.toNat < 256 := d.toNat_lt
    cbv
    refine chkI hA (by kernel_rfl) ?_
    cbv
    refine getBN hA hy (j := 0) rfl (by simp) ?_
    rintro v0 hv0
    cbv
    refine nnegI hA (by decide) ?_
    cbv
    refine getBN hA hy (j := 1) rfl (by simp) ?_
    rintro v1 hv1
    cbv
    have hn16 : A.bits .or .i64 (A.shl .i64 (A.wrap .i64 v0) 8) (A.wrap .i64 v1) = ((n : Nat) : Int) := by
      rw [hn]; exact len16 hA hv0 hv1 hc8 hd8
    obtain ⟨m, hm⟩ : ∃ m : Int, m = A.bits .or .i64 (A.shl .i64 (A.wrap .i64 v0) 8) (A.wrap .i64 v1) := ⟨_, rfl⟩
    have hmn : m = (n : Int) := hm.trans hn16
    refine sizedI hA (bytesV_flat hy) ?_
    cbv
    refine subLN hA (sub_of (a := 2) rfl (lenI hA hy) hy (by simp) (by simp)) ?_
    rintro y2 hy2
    have hy2 : y2 = bytesV t := cutFrom (k := 2) rfl hy (lenI hA hy) hy2
    cbv
    refine condI hA (fun g1 => ?_) (fun g1 => ?_)
    · have g1 : 1024 < n := nGtT hA (c := 1024) rfl hn16 g1
      have q := bad (if_pos (.inl g1))
      cbv
      refine retI hA ?_
      exact ⟨congrArg (fun q => some (V.slice q)) q.1, congrArg (fun q => some (V.int .i64 q)) q.2, trivial⟩
    · have g1 : ¬ 1024 < n := nGtF hA (c := 1024) rfl hn16 g1
      cbv
      refine condI hA (fun g2 => ?_) (fun g2 => ?_)
      · have g2 := bLtT hA hy2 hn16 g2
        have q := bad (if_pos (.inr g2))
        cbv
        refine retI hA ?_
        exact ⟨congrArg (fun q => some (V.slice q)) q.1, congrArg (fun q => some (V.int .i64 q)) q.2, trivial⟩
      · have g2 := bLtF hA hy2 hn16 g2
        cbv
        refine sizedI hA (bytesV_flat hy2) ?_
        cbv
        refine subLN hA (sub_of (a := 0) rfl hn16 hy2 (by omega) (by omega)) ?_
        rintro z hz
        have hz : z = bytesV (t.take n) := cutTo hn16 hy2 hz
        cbv
        refine callI hA (cClone z (bytesV_flat hz) (by rw [hz, bytesV_len, List.length_take]; simp at hab; omega)) ?_
        intro rs_ h_
        subst h_
        cbv
        have hz1 : [V.slice z] = listsV [t.take n] := by rw [hz]; rfl
        refine roomI hA (by rw [hx, listsV_len]; simp; simp at hab; omega) ?_
        cbv
        refine sizedI hA (bytesV_flat hy2) ?_
        cbv
        refine subLN hA (sub_of hn16 (lenI hA hy2) hy2 (by omega) (Nat.le_refl _)) ?_
        rintro y3 hy3
        have hy3 : y3 = bytesV (t.drop n) := cutFrom hn16 hy2 (lenI hA hy2) hy3
        rw [if_neg (by omega)] at hu
        refine ⟨(_, _), weakI rfl ⟨rfl, rfl, trivial⟩ ⟨rfl, trivial⟩, ⟨t.drop n, a ++ [t.take n], hy3, app_ls hA hx hz1, ?_, ?_⟩, ?_⟩
        · simp at hab ⊢; omega
        · rw [hu]
          cases unpackM (t.drop n) <;> simp [upTo]
        · change y3.length < y.length
          rw [hy3, hy, bytesV_len, bytesV_len]; simp; omega
  · have h2 := bLeF hA (m := 2) hy rfl hc
    cbv
    refine condI hA (fun g1 => ?_) (fun g1 => ?_)
    · have g1 := bGtT hA (m := 0) hy rfl g1
      have q := bad (unpackM_short g1 (by omega))
      cbv
      refine retI hA ?_
      exact ⟨congrArg (fun q => some (V.slice q)) q.1, congrArg (fun q => some (V.int .i64 q)) q.2, trivial⟩
    · have g1 := bGtF hA (m := 0) hy rfl g1
      have hb0 : b' = [] := List.length_eq_zero_iff.1 (by omega)
      rw [hb0, show unpackM [] = some [] from by rw [unpackM]] at hu
      cbv
      refine retI hA ?_
      refine ⟨congrArg (fun q => some (V.slice q)) ?_, congrArg (fun q => some (V.int .i64 q)) ?_, trivial⟩
      · rw [hx, hr]; simp [unpackL, hu, upTo]
      · rw [he]; simp [unpackE, hu, upTo]
end Go.Proofs.Ytinckcpmkocakaa.AM
