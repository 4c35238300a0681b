/-
  Contracts: slices.Grow at nil; slices.Concat.
-/
import Derived.Test.YtinckcpmkocakaaM264833eff6
import Derived.Shelf.Spec.SlicesGrow
import Derived.Test.YtinckcpmkocakaaM217e681462
set_option linter.unusedVariables false
set_option linter.unusedSimpArgs false
namespace Go.Proofs.Ytinckcpmkocakaa.AM
open Go Go.RowKit
set_option maxRecDepth 100000
set_option maxHeartbeats 4000000

/-- The library's own contract of slices.Grow, at this program. -/
def growRen : Go.Shelf.Ren := ⟨fun | 4 => 68 | n => n, fun | 0 => 0 | 3 => 3 | 4 => 4 | 9 => 9 | 20 => 20 | 22 => 22 | 25 => 5 | n => n, fun n => n⟩
theorem growLays : Lays8.n4 Try.prog growRen where
  mixed := by kernel_rfl
  f4 := ⟨"slices.Grow[[]byte,byte]", rfl, (by kernel_rfl)⟩
  t0 := Try.underlying0
  a0 := Try.isAgg0
  z0 := Try.sizeOf0
  v0 := Try.zeroValue0
  t3 := Try.underlying3
  a3 := Try.isAgg3
  z3 := Try.sizeOf3
  v3 := Try.zeroValue3
  t4 := Try.underlying4
  a4 := Try.isAgg4
  z4 := Try.sizeOf4
  v4 := Try.zeroValue4
  t9 := Try.underlying9
  a9 := Try.isAgg9
  z9 := Try.sizeOf9
  v9 := Try.zeroValue9
  t20 := Try.underlying20
  a20 := Try.isAgg20
  z20 := Try.sizeOf20
  v20 := Try.zeroValue20
  t22 := Try.underlying22
  a22 := Try.isAgg22
  z22 := Try.sizeOf22
  v22 := Try.zeroValue22
theorem cGrow (v : Int) (n : Nat) (hv : v = n) (hn : n ≤ 1000000000) : CallR Try.prog 68 [.nils, .int .i64 v] fun rs => rs = [.o 1 []] := by
  refine ⟨_, ⟨⟨_, Try.func68, rfl, rfl⟩, fun w ok vs hok hl hr => ?_⟩, rfl⟩
  match vs, hl, hr with
  | [a, b], _, hr =>
    have h0 := hr 0 (by simp) (by simp)
    have h1 := hr 1 (by simp) (by simp)
    simp only [List.getElem_cons_zero, List.getElem_cons_succ] at h0 h1
    have ha : a = .slice none 0 0 := by cases h0; rfl
    have hb : b = .int .i64 v := rep_int h1
    subst ha hb hv
    rcases Nat.eq_zero_or_pos n with hz | hz
    · subst hz
      refine (Any8.slices_Grow_room growLays none 0 0 0 w (by omega) (by omega) (by omega) (by omega)).mono fun e w' ⟨he, hw⟩ => ?_
      subst he hw
      exact ⟨[.slice none 0 0], [none], ok, rfl, Below.refl _ _, fun _ _ h => h, EnvEq.refl _, fun _ _ h => .inl h, rfl, rfl, fun i h _ _ => by
        match i, h with
        | 0, _ => exact .inl ⟨rfl, rfl, rfl⟩, fun i j b h1 _ => by
        match i, h1 with
        | 0, h1 => simp at h1⟩
    · refine (Any8.slices_Grow_grow growLays Try.t5 (.int .u8 0) (by kernel_rfl) rfl (by decide) none 0 0 n [] w (by omega) (by omega) (by rw [show TypeInfo.bytes Try.t5 = 1 from rfl]; omega) (by omega) rfl (fun _ => rfl) (by simp)).mono fun e w' ⟨he, hw⟩ => ?_
      have hc := grownCap_ge w (0 + n) 0 (growRen.t 25)
      have hm := grownCap_le_maxLen w (0 + n) 0 (growRen.t 25) (by unfold maxLen; omega)
      obtain ⟨G, hG⟩ : ∃ G, G = grownCap w (0 + n) 0 (growRen.t 25) := ⟨_, rfl⟩
      rw [← hG] at he hw hc hm
      subst he
      refine ⟨[_], [some w.heap.size], ok, rfl, ?_, fun _ _ h => h, EnvEq.refl _, fun _ _ h => .inl h, rfl, rfl, fun i h _ _ => ?_, fun i j b h1 h2 => ?_⟩
      · rw [hw]; exact ((Below.refl _ w).drew).alloc (Nat.le_refl _) _
      · match i, h with
        | 0, _ =>
          refine .inr ⟨w.heap.size, G, _, _, rfl, Nat.le_refl _, rfl, by rw [hw]; exact heap_alloc_new w.drew _, ?_, Nat.zero_le _, hm, ⟨fun i h => by simp at h, fun i h => by simp at h, fun i h => by simp at h⟩, fun o ho => absurd (hok _ _ ho) (by omega)⟩
          simp [Builtin.zeroCells, Value.cells]
          omega
      · match i, j, h1, h2 with
        | 0, 0, _, _ => rfl
        | 0, _ + 1, _, h2 => simp at h2
        | _ + 1, _, h1, _ => simp at h1
theorem flat_take {fs : List (List UInt8)} {j : Nat} (h : j < fs.length) : (fs.take (j + 1)).flatten = (fs.take j).flatten ++ fs[j] := by
  rw [List.take_succ_eq_append_getElem h, List.flatten_append]; simp
theorem flat_le {fs : List (List UInt8)} (j : Nat) : (fs.take j).flatten.length ≤ fs.flatten.length := by
  conv => rhs; rw [← List.take_append_drop j fs, List.flatten_append, List.length_append]
  omega
theorem addI {A : Prim} {P : Program} {R : List (Nat × AObj) → List D → Prop} (hA : A = std P R) {a b : Int} {m n : Nat} (ha : a = m) (hb : b = n) (hm : m + n ≤ 4000000000000000000) : A.wrap .i64 (A.add a b) = ((m + n : Nat) : Int) := by
  rw [hA, ha, hb]; simp only [std]
  rw [show (m : Int) + (n : Int) = ((m + n : Nat) : Int) from by simp]; exact wrap_i64 (by omega) (by omega)
theorem ltNat {A : Prim} {P : Program} {R : List (Nat × AObj) → List D → Prop} (hA : A = std P R) {a : Int} {m : Nat} (ha : a = m) : A.ilt a 0 = false := by
  rw [hA, ha]; simp only [std]; exact decide_eq_false (by omega)
theorem cConcat (fs : List (List UInt8)) (l : List V) (hl : l = listsV fs) (hfs : fs.length ≤ 1000000) (hb : fs.flatten.length ≤ 1000000000) : CallR Try.prog 60 [.slice l] fun rs => ∃ r, rs = [.v (.slice r)] ∧ r = bytesV fs.flatten := by
  obtain ⟨r, hr⟩ : ∃ r, r = bytesV fs.flatten := ⟨_, rfl⟩
  refine .of _ ⟨r, rfl, hr⟩ ?_
  refine FnR.of' T_ok M_ok (fn := Try.f60) (by kernel_rfl) rfl rfl rfl rfl (Nat.le_of_ble_eq_true rfl) fun A hA => ?_
  cbv
  refine loopF hA (ι := Int × Int) (fun p => { n := 36, sl := [(0, .v (.slice l)), (3, .v (.int .i64 p.2)), (9, .v (.slice l)), (10, .v (.int .i64 (A.lenL l))), (11, .v (.int .i64 p.1))], ob := [] })
    (fun p => ∃ j : Nat, p.1 = j ∧ j ≤ fs.length ∧ p.2 = ((fs.take j).flatten.length : Nat)) (fun p => fs.length - p.1.toNat) (_, _) (weakI rfl ⟨rfl, rfl, rfl, rfl, rfl, trivial⟩ trivial) ⟨0, rfl, Nat.zero_le _, rfl⟩ ?_
  rintro ⟨i, n⟩ ⟨j, hi, hj, hn⟩
  dsimp only at hi hn
  cbv
  refine condI hA (fun hc => ?_) (fun hc => ?_)
  · have hjl := ltL hA (natEq hi) (lenLs hl) hc
    cbv
    refine getLN hA hl (natEq hi) hjl ?_
    rintro f hf
    cbv
    have hle := flat_le (fs := fs) (j + 1)
    rw [flat_take hjl, List.length_append] at hle
    have ha := addI hA (natEq hn) (lenI hA hf) (by omega)
    refine condF hA (ltNat hA ha) ?_
    cbv
    exact ⟨(_, _), weakI rfl ⟨rfl, rfl, rfl, rfl, rfl, trivial⟩ trivial, ⟨j + 1, upI hA (natEq hi) (by omega), hjl, ha.trans (by rw [flat_take hjl, List.length_append])⟩, upM hA (natEq hi) hjl (by omega)⟩
  · have hjl := geL hA (natEq hi) (lenLs hl) hc hj
    cbv
    subst hjl
    rw [List.take_length] at hn
    refine callI hA (cGrow n _ (natEq hn) hb) ?_
    intro rs_ h_
    subst h_
    cbv
    clear hi hj hc hn
    refine loopF hA (ι := Int × List V) (fun p => { n := 36, sl := [(6, .own 33), (25, .v (.slice l)), (26, .v (.int .i64 (A.lenL l))), (27, .v (.int .i64 p.1))], ob := [(33, .row 1 p.2 true)] })
      (fun p => ∃ j : Nat, p.1 = j ∧ j ≤ fs.length ∧ p.2 = bytesV (fs.take j).flatten) (fun p => fs.length - p.1.toNat) (_, _) ((weak_ren _ 6 1192 33 1 _ true rfl rfl).trans (weakI rfl ⟨rfl, rfl, rfl, rfl, trivial⟩ ⟨rfl, trivial⟩)) ⟨0, rfl, Nat.zero_le _, rfl⟩ ?_
    rintro ⟨i, x⟩ ⟨j, hi, hj, hx⟩
    dsimp only at hi hx
    cbv
    refine condI hA (fun hc => ?_) (fun hc => ?_)
    · have hjl := ltL hA (natEq hi) (lenLs hl) hc
      cbv
      refine getLN hA hl (natEq hi) hjl ?_
      rintro f hf
      cbv
      have hle := flat_le (fs := fs) (j + 1)
      rw [flat_take hjl, List.length_append] at hle
      refine sizedI hA (bytesV_flat hf) ?_
      cbv
      refine roomI hA (room_of hx hf (by omega)) ?_
      cbv
      exact ⟨(_, _), weakI rfl ⟨rfl, rfl, rfl, rfl, trivial⟩ ⟨rfl, trivial⟩, ⟨j + 1, upI hA (natEq hi) (by omega), hjl, (app_of hA hx hf).trans (by rw [flat_take hjl])⟩, upM hA (natEq hi) hjl (by omega)⟩
    · have hjl := geL hA (natEq hi) (lenLs hl) hc hj
      cbv
      subst hjl
      rw [List.take_length] at hx
      refine retI hA ?_
      exact ⟨congrArg (fun q => some (V.slice q)) (hx.trans hr.symm), trivial⟩
end Go.Proofs.Ytinckcpmkocakaa.AM

/-
  Contracts, part 1: the sum.
-/
set_option linter.unusedVariables false
set_option linter.unusedSimpArgs false
namespace Go.Proofs.Ytinckcpmkocakaa.AM
open Go Go.RowKit
set_option maxRecDepth 100000

def tabV : List V := (List.range 256).map fun i => .int .u32 (eight i)
theorem c39 : CallR Try.prog 39 [] fun rs => ∃ l, rs = [.v (.agg l)] ∧ l = tabV := by
  refine ⟨[.v (.agg tabV)], ?_, _, rfl, rfl⟩
  generalize hl : tabV = l
  refine FnR.of' T_ok M_ok (fn := Try.f39) (by kernel_rfl) rfl rfl rfl rfl (Nat.le_of_ble_eq_true rfl) fun A hA => ?_
  cbv
  refine retI hA ?_
  simp only [retOk, rsOk, retIds, idsD, idsDs, softOb, toV, toVs, List.append_nil, List.nil_append, Option.some.injEq, V.int.injEq, V.bool.injEq, V.slice.injEq, V.agg.injEq, V.str.injEq, true_and, and_true, hA, std]
  subst hl
  kernel_rfl
theorem c20 (s : Int) (n : Nat) (hs : s = n) (hn : n < 4294967296) : CallR Try.prog 20 [.int .u32 s] fun rs => ∃ r : Int, rs = [.v (.int .u32 r)] ∧ r = (n ^^^ 4294967295 : Nat) := by
  obtain ⟨r, hr⟩ : ∃ r : Int, r = (n ^^^ 4294967295 : Nat) := ⟨_, rfl⟩
  refine ⟨[.v (.int .u32 r)], ?_, _, rfl, hr⟩
  refine FnR.of' T_ok M_ok (fn := Try.f20) (by kernel_rfl) rfl rfl rfl rfl (Nat.le_of_ble_eq_true rfl) fun A hA => ?_
  cbv
  refine retI hA ?_
  simp only [retOk, rsOk, retIds, idsD, idsDs, softOb, toV, toVs, List.append_nil, List.nil_append, Option.some.injEq, V.int.injEq, V.bool.injEq, V.slice.injEq, V.agg.injEq, V.str.injEq, true_and, and_true, hA, std]
  rw [hr, hs, inot_u32 n hn]
theorem c19 (s : Int) (n : Nat) (hs : s = n) (hn : n < 4294967296) : CallR Try.prog 19 [.int .u32 s] fun rs => ∃ r : Int, rs = [.v (.int .u32 r)] ∧ r = (n ^^^ 4294967295 : Nat) := by
  obtain ⟨r, hr⟩ : ∃ r : Int, r = (n ^^^ 4294967295 : Nat) := ⟨_, rfl⟩
  refine ⟨[.v (.int .u32 r)], ?_, _, rfl, hr⟩
  refine FnR.of' T_ok M_ok (fn := Try.f19) (by kernel_rfl) rfl rfl rfl rfl (Nat.le_of_ble_eq_true rfl) fun A hA => ?_
  cbv
  refine retI hA ?_
  simp only [retOk, rsOk, retIds, idsD, idsDs, softOb, toV, toVs, List.append_nil, List.nil_append, Option.some.injEq, V.int.injEq, V.bool.injEq, V.slice.injEq, V.agg.injEq, V.str.injEq, true_and, and_true, hA, std]
  rw [hr, hs, inot_u32 n hn]
theorem c21 : CallR Try.prog 21 [] fun rs => ∃ r : Int, rs = [.v (.int .u32 r)] ∧ r = (4294967295 : Nat) := by
  obtain ⟨r, hr⟩ : ∃ r : Int, r = (4294967295 : Nat) := ⟨_, rfl⟩
  refine ⟨[.v (.int .u32 r)], ?_, _, rfl, hr⟩
  refine FnR.of' T_ok M_ok (fn := Try.f21) (by kernel_rfl) rfl rfl rfl rfl (Nat.le_of_ble_eq_true rfl) fun A hA => ?_
  cbv
  refine callI hA (c19 0 0 rfl (by decide)) ?_
  rintro _ ⟨q, rfl, hq⟩
  cbv
  refine retI hA ?_
  simp only [retOk, rsOk, retIds, idsD, idsDs, softOb, toV, toVs, List.append_nil, List.nil_append, Option.some.injEq, V.int.injEq, V.bool.injEq, V.slice.injEq, V.agg.injEq, V.str.injEq, true_and, and_true, hA, std]
  rw [hq, hr]; rfl
theorem c22 (s : Int) (n : Nat) (b : List UInt8) (l : List V) (hs : s = n) (hn : n < 4294967296) (hl : l = bytesV b) (hb : b.length ≤ 140737488355328) : CallR Try.prog 22 [.int .u32 s, .slice l] fun rs => ∃ r : Int, rs = [.v (.int .u32 r)] ∧ r = (addN n b : Nat) := by
  obtain ⟨r, hr⟩ : ∃ r : Int, r = (addN n b : Nat) := ⟨_, rfl⟩
  refine ⟨[.v (.int .u32 r)], ?_, _, rfl, hr⟩
  have hlen : l.length = b.length := by rw [hl]; simp [bytesV]
  refine FnR.of' T_ok M_ok (fn := Try.f22) (by kernel_rfl) rfl rfl rfl rfl (Nat.le_of_ble_eq_true rfl) fun A hA => ?_
  cbv
  refine loopF hA (ι := Int × Int) (fun p => { n := 24, sl := [(0, .v (.int .u32 p.2)), (7, .v (.slice l)), (8, .v (.int .i64 (A.lenL l))), (9, .v (.int .i64 p.1))], ob := [] })
    (fun p => ∃ j : Nat, p.1 = j ∧ j ≤ b.length ∧ p.2 = (addN n (b.take j) : Nat)) (fun p => b.length - p.1.toNat) (_, _) (weakI rfl ⟨rfl, rfl, rfl, rfl, trivial⟩ trivial) ⟨0, rfl, Nat.zero_le _, by simpa [addN] using hs⟩ ?_
  rintro ⟨i, x⟩ ⟨j, hi, hj, hx⟩
  replace hi : i = (j : Int) := hi
  replace hx : x = ((addN n (b.take j) : Nat) : Int) := hx
  cbv
  refine condI hA (fun hc => ?_) (fun hc => ?_)
  · have hjl : j < b.length := by
      rw [hA] at hc
      simp only [std, decide_eq_true_eq, hlen] at hc
      rw [hi] at hc
      exact_mod_cast hc
    cbv
    obtain ⟨c, hcv⟩ : ∃ c : Int, c = ((b[j]'hjl).toNat : Nat) := ⟨_, rfl⟩
    have hc256 := (b[j]'hjl).toNat_lt
    refine getII hA c (by rw [hcv]; exact bytesV_at hl hi hjl) ?_
    cbv
    refine callI hA c39 ?_
    rintro _ ⟨t, rfl, ht⟩
    cbv
    have hxlt := addN_lt hn (b.take j)
    have hidx : A.bits .xor .u8 (A.wrap .u8 x) c = ((addN n (b.take j) % 256 ^^^ (b[j]'hjl).toNat : Nat) : Int) := by
      rw [hA, hx, hcv]
      simp only [std]
      have : IntKind.u8.wrap ((addN n (b.take j) : Nat) : Int) = ((addN n (b.take j) % 256 : Nat) : Int) := by
        simp only [IntKind.wrap, IntKind.bits, IntKind.signed, Bool.false_and, Bool.false_eq_true, if_false]
        omega
      rw [this, bits_xor_u8_nat _ _ (by omega) (by omega)]
    have hilt : addN n (b.take j) % 256 ^^^ (b[j]'hjl).toNat < 256 := Nat.xor_lt_two_pow (n := 8) (by omega) (by omega)
    refine inRI hA (by
      change 0 ≤ A.bits .xor .u8 (A.wrap .u8 x) c ∧ A.bits .xor .u8 (A.wrap .u8 x) c < _
      rw [hidx]; simp; omega) ?_
    cbv
    obtain ⟨e, he⟩ : ∃ e : Int, e = (eight (addN n (b.take j) % 256 ^^^ (b[j]'hjl).toNat) : Nat) := ⟨_, rfl⟩
    refine getII hA e (by
      change 0 ≤ A.bits .xor .u8 (A.wrap .u8 x) c ∧ t[(A.bits .xor .u8 (A.wrap .u8 x) c).toNat]? = _
      rw [hidx, ht, he]
      simp [tabV, hilt]) ?_
    cbv
    refine nnegI hA (by decide) ?_
    cbv
    have hi2 : i = Int.ofNat j := hi
    rw [Int.ofNat_eq_natCast] at hi2
    refine ⟨(_, _), weakI rfl ⟨rfl, rfl, rfl, rfl, trivial⟩ trivial, ⟨j + 1, ?_, hjl, ?_⟩, ?_⟩
    · change A.wrap .i64 (A.add i 1) = _
      rw [hA, hi2]; simp only [std]
      rw [wrap_i64 (by omega) (by omega)]; rfl
    · change A.bits .xor .u32 e (A.shr .u32 x 8) = _
      rw [addN_take hjl, step_eq _ _ hc256, hA, he, hx]
      simp only [std]
      rw [shr_u32, bits_xor_u32_nat _ _ (show eight _ < _ from ones_lt 8 (by omega)) (by omega)]
      rfl
    · change b.length - (A.wrap .i64 (A.add i 1)).toNat < b.length - i.toNat
      rw [hA, hi2]; simp only [std]
      rw [wrap_i64 (by omega) (by omega)]; omega
  · have hjl : j = b.length := by
      rw [hA] at hc
      simp only [std, decide_eq_false_iff_not, hlen] at hc
      rw [hi] at hc
      have : ¬ j < b.length := fun h => hc (by exact_mod_cast h)
      omega
    cbv
    refine retI hA ?_
    simp only [retOk, rsOk, retIds, idsD, idsDs, softOb, toV, toVs, List.append_nil, List.nil_append, Option.some.injEq, V.int.injEq, V.bool.injEq, V.slice.injEq, V.agg.injEq, V.str.injEq, true_and, and_true, hA, std]
    rw [hr, hx, hjl, List.take_length]
end Go.Proofs.Ytinckcpmkocakaa.AM

/-
  Contracts, part 2: the sum and its witness.
-/
set_option linter.unusedVariables false
set_option linter.unusedSimpArgs false
namespace Go.Proofs.Ytinckcpmkocakaa.AM
open Go Go.RowKit
set_option maxRecDepth 100000

theorem ones_succ : ∀ (k n : Nat), ones (k + 1) n = one (ones k n)
  | 0, n => rfl
  | k + 1, n => by rw [ones, ones_succ k]; rfl
def sumN (n : Nat) (b : List UInt8) : Nat := addN (n ^^^ 4294967295) b ^^^ 4294967295
theorem xlt {n : Nat} (hn : n < 4294967296) : n ^^^ 4294967295 < 4294967296 := Nat.xor_lt_two_pow (n := 32) hn (by decide)

theorem c16 (b : List UInt8) (l : List V) (hl : l = bytesV b) (hb : b.length ≤ 140737488355328) : CallR Try.prog 16 [.slice l] fun rs => ∃ r : Int, rs = [.v (.int .u32 r)] ∧ r = (sumN 0 b : Nat) := by
  obtain ⟨r, hr⟩ : ∃ r : Int, r = (sumN 0 b : Nat) := ⟨_, rfl⟩
  refine ⟨[.v (.int .u32 r)], ?_, _, rfl, hr⟩
  refine FnR.of' T_ok M_ok (fn := Try.f16) (by kernel_rfl) rfl rfl rfl rfl (Nat.le_of_ble_eq_true rfl) fun A hA => ?_
  cbv
  refine callI hA c21 ?_
  rintro _ ⟨s, rfl, hs⟩
  cbv
  refine callI hA (c22 s _ b l hs (by decide) hl hb) ?_
  rintro _ ⟨t, rfl, ht⟩
  cbv
  refine callI hA (c20 t _ ht (addN_lt (by decide) b)) ?_
  rintro _ ⟨u, rfl, hu⟩
  cbv
  refine retI hA ?_
  simp only [retOk, rsOk, retIds, idsD, idsDs, softOb, toV, toVs, List.append_nil, List.nil_append, Option.some.injEq, V.int.injEq, V.bool.injEq, V.slice.injEq, V.agg.injEq, V.str.injEq, true_and, and_true, hA, std]
  rw [hu, hr]; rfl

theorem rem_two (x : Nat) (hx : x < 4294967296) : (Int.tmod (x : Int) 2 == 1) = decide (x % 2 = 1) := by
  have : Int.tmod (x : Int) 2 = ((x % 2 : Nat) : Int) := rfl
  rw [this]
  rcases Nat.mod_two_eq_zero_or_one x with h | h <;> rw [h] <;> rfl
theorem quo_two (x : Nat) (hx : x < 4294967296) : IntKind.u32.wrap (Int.tdiv (x : Int) 2) = ((x / 2 : Nat) : Int) := by
  have : Int.tdiv (x : Int) 2 = ((x / 2 : Nat) : Int) := rfl
  rw [this]
  simp only [IntKind.wrap, IntKind.bits, IntKind.signed, Bool.false_and, Bool.false_eq_true, if_false]
  omega

theorem c23 (s : Int) (n : Nat) (b : List UInt8) (l : List V) (hs : s = n) (hn : n < 4294967296) (hl : l = bytesV b) (hb : b.length ≤ 140737488355328) : CallR Try.prog 23 [.int .u32 s, .slice l] fun rs => ∃ r : Int, rs = [.v (.int .u32 r)] ∧ r = (sumN n b : Nat) := by
  obtain ⟨r, hr⟩ : ∃ r : Int, r = (sumN n b : Nat) := ⟨_, rfl⟩
  refine ⟨[.v (.int .u32 r)], ?_, _, rfl, hr⟩
  have hlen : l.length = b.length := by rw [hl]; simp [bytesV]
  refine FnR.of' T_ok M_ok (fn := Try.f23) (by kernel_rfl) rfl rfl rfl rfl (Nat.le_of_ble_eq_true rfl) fun A hA => ?_
  cbv
  refine loopF hA (ι := Int × Int) (fun p => { n := 37, sl := [(1, .v (.slice l)), (5, .v (.int .u32 p.2)), (6, .v (.int .i64 p.1))], ob := [] })
    (fun p => ∃ j : Nat, p.1 = j ∧ j ≤ b.length ∧ p.2 = (addN (n ^^^ 4294967295) (b.take j) : Nat)) (fun p => b.length - p.1.toNat) (_, _) (weakI rfl ⟨rfl, rfl, rfl, trivial⟩ trivial) ⟨0, rfl, Nat.zero_le _, by
      change A.bits .xor .u32 s 4294967295 = _
      rw [hA, hs]; simp only [std]
      rw [show (4294967295 : Int) = ((4294967295 : Nat) : Int) from rfl, bits_xor_u32_nat _ _ hn (by decide)]; rfl⟩ ?_
  rintro ⟨i, x⟩ ⟨j, hi, hj, hx⟩
  have hi2 : i = Int.ofNat j := hi
  have hx2 : x = Int.ofNat (addN (n ^^^ 4294967295) (b.take j)) := hx
  rw [Int.ofNat_eq_natCast] at hi2 hx2
  cbv
  refine condI hA (fun hc => ?_) (fun hc => ?_)
  · have hjl : j < b.length := by
      rw [hA] at hc
      simp only [std, decide_eq_true_eq, hlen] at hc
      rw [hi2] at hc
      exact_mod_cast hc
    cbv
    obtain ⟨c, hcv⟩ : ∃ c : Int, c = ((b[j]'hjl).toNat : Nat) := ⟨_, rfl⟩
    have hc256 := (b[j]'hjl).toNat_lt
    have hxlt := addN_lt (xlt hn) (b.take j)
    refine getII hA c (by rw [hcv]; exact bytesV_at hl hi2 hjl) ?_
    cbv
    have hy : addN (n ^^^ 4294967295) (b.take j) ^^^ (b[j]'hjl).toNat < 4294967296 := Nat.xor_lt_two_pow (n := 32) hxlt (by omega)
    refine loopF hA (ι := Int × Int) (fun p => { n := 37, sl := [(1, .v (.slice l)), (5, .v (.int .u32 p.2)), (6, .v (.int .i64 i)), (7, .v (.int .i64 p.1))], ob := [] })
      (fun p => ∃ k : Nat, p.1 = k ∧ k ≤ 8 ∧ p.2 = (ones k (addN (n ^^^ 4294967295) (b.take j) ^^^ (b[j]'hjl).toNat) : Nat)) (fun p => 8 - p.1.toNat) (_, _) (weakI rfl ⟨rfl, rfl, rfl, rfl, trivial⟩ trivial) ⟨0, rfl, Nat.zero_le _, by
        change A.bits .xor .u32 x (A.wrap .u32 c) = _
        rw [hA, hx2, hcv]; simp only [std]
        have : IntKind.u32.wrap (((b[j]'hjl).toNat : Nat) : Int) = (((b[j]'hjl).toNat : Nat) : Int) := by
          simp only [IntKind.wrap, IntKind.bits, IntKind.signed, Bool.false_and, Bool.false_eq_true, if_false]
          omega
        rw [this, bits_xor_u32_nat _ _ hxlt (by omega)]; rfl⟩ ?_
    rintro ⟨m, y⟩ ⟨k, hm, hk, hyv⟩
    have hm2 : m = Int.ofNat k := hm
    have hy2 : y = Int.ofNat (ones k (addN (n ^^^ 4294967295) (b.take j) ^^^ (b[j]'hjl).toNat)) := hyv
    rw [Int.ofNat_eq_natCast] at hm2 hy2
    have hol := ones_lt k hy
    cbv
    refine condI hA (fun hc2 => ?_) (fun hc2 => ?_)
    · have hk8 : k < 8 := by
        rw [hA] at hc2
        simp only [std, decide_eq_true_eq] at hc2
        rw [hm2] at hc2
        exact_mod_cast hc2
      cbv
      refine nzI hA (by decide) ?_
      cbv
      have hodd : A.ieq (A.tmod y 2) 1 = decide (ones k (addN (n ^^^ 4294967295) (b.take j) ^^^ (b[j]'hjl).toNat) % 2 = 1) := by
        rw [hA, hy2]; exact rem_two _ hol
      have hq : A.wrap .u32 (A.tdiv y 2) = ((ones k (addN (n ^^^ 4294967295) (b.take j) ^^^ (b[j]'hjl).toNat) / 2 : Nat) : Int) := by
        rw [hA, hy2]; exact quo_two _ hol
      have hm1 : A.wrap .i64 (A.add m 1) = ((k + 1 : Nat) : Int) := by
        rw [hA, natEq hm2]; simp only [std]
        rw [wrap_i64 (by omega) (by omega)]; rfl
      refine condI hA (fun hc3 => ?_) (fun hc3 => ?_)
      · have h1 : ones k (addN (n ^^^ 4294967295) (b.take j) ^^^ (b[j]'hjl).toNat) % 2 = 1 := of_decide_eq_true (hodd.symm.trans hc3)
        cbv
        refine nzI hA (by decide) ?_
        cbv
        refine ⟨(_, _), weakI rfl ⟨rfl, rfl, rfl, rfl, trivial⟩ trivial, ⟨k + 1, hm1, hk8, ?_⟩, ?_⟩
        · change A.bits .xor .u32 (A.wrap .u32 (A.tdiv y 2)) 3988292384 = _
          rw [hq, hA]; simp only [std]
          rw [show (3988292384 : Int) = ((3988292384 : Nat) : Int) from rfl, bits_xor_u32_nat _ _ (by omega) (by decide), ones_succ, one, if_pos h1]
        · change 8 - (A.wrap .i64 (A.add m 1)).toNat < 8 - m.toNat
          rw [natEq hm1, natEq hm2]; omega
      · have h1 : ¬ ones k (addN (n ^^^ 4294967295) (b.take j) ^^^ (b[j]'hjl).toNat) % 2 = 1 := of_decide_eq_false (hodd.symm.trans hc3)
        cbv
        refine nzI hA (by decide) ?_
        cbv
        refine ⟨(_, _), weakI rfl ⟨rfl, rfl, rfl, rfl, trivial⟩ trivial, ⟨k + 1, hm1, hk8, ?_⟩, ?_⟩
        · change A.wrap .u32 (A.tdiv y 2) = _
          rw [hq, ones_succ, one, if_neg h1]
        · change 8 - (A.wrap .i64 (A.add m 1)).toNat < 8 - m.toNat
          rw [natEq hm1, natEq hm2]; omega
    · have hk8 : k = 8 := by
        rw [hA] at hc2
        simp only [std, decide_eq_false_iff_not] at hc2
        rw [hm2] at hc2
        have : ¬ k < 8 := fun h => hc2 (by exact_mod_cast h)
        omega
      cbv
      have hi1 : A.wrap .i64 (A.add i 1) = ((j + 1 : Nat) : Int) := by
        rw [hA, natEq hi2]; simp only [std]
        rw [wrap_i64 (by omega) (by omega)]; rfl
      refine ⟨(_, _), weakI rfl ⟨rfl, rfl, rfl, trivial⟩ trivial, ⟨j + 1, hi1, hjl, ?_⟩, ?_⟩
      · change y = _
        rw [hy2, hk8, addN_take hjl]; rfl
      · change b.length - (A.wrap .i64 (A.add i 1)).toNat < b.length - i.toNat
        rw [natEq hi1, natEq hi2]; omega
  · have hjl : j = b.length := by
      rw [hA] at hc
      simp only [std, decide_eq_false_iff_not, hlen] at hc
      rw [hi2] at hc
      have : ¬ j < b.length := fun h => hc (by exact_mod_cast h)
      omega
    cbv
    refine retI hA ?_
    simp only [retOk, rsOk, retIds, idsD, idsDs, softOb, toV, toVs, List.append_nil, List.nil_append, Option.some.injEq, V.int.injEq, V.bool.injEq, V.slice.injEq, V.agg.injEq, V.str.injEq, true_and, and_true, hA, std]
    rw [hr, hx2, hjl, List.take_length]
    rw [show (4294967295 : Int) = ((4294967295 : Nat) : Int) from rfl, bits_xor_u32_nat _ _ (addN_lt (xlt hn) b) (by decide)]; rfl

theorem c17 (b : List UInt8) (l : List V) (hl : l = bytesV b) (hb : b.length ≤ 140737488355328) : CallR Try.prog 17 [.slice l] fun rs => ∃ r : Int, rs = [.v (.int .u32 r)] ∧ r = (sumN 0 b : Nat) := by
  obtain ⟨r, hr⟩ : ∃ r : Int, r = (sumN 0 b : Nat) := ⟨_, rfl⟩
  refine ⟨[.v (.int .u32 r)], ?_, _, rfl, hr⟩
  refine FnR.of' T_ok M_ok (fn := Try.f17) (by kernel_rfl) rfl rfl rfl rfl (Nat.le_of_ble_eq_true rfl) fun A hA => ?_
  cbv
  refine callI hA (c23 0 0 b l rfl (by decide) hl hb) ?_
  rintro _ ⟨s, rfl, hs⟩
  cbv
  refine retI hA ?_
  simp only [retOk, rsOk, retIds, idsD, idsDs, softOb, toV, toVs, List.append_nil, List.nil_append, Option.some.injEq, V.int.injEq, V.bool.injEq, V.slice.injEq, V.agg.injEq, V.str.injEq, true_and, and_true, hA, std]
  rw [hs, hr]
end Go.Proofs.Ytinckcpmkocakaa.AM

/-
  Contracts, part 3: the sum's witness, and the law SumOfs.
-/
set_option linter.unusedVariables false
set_option linter.unusedSimpArgs false
namespace Go.Proofs.Ytinckcpmkocakaa.AM
open Go Go.RowKit
set_option maxRecDepth 100000

theorem sum_check : sumN 0 [49, 50, 51, 52, 53, 54, 55, 56, 57] = 3421780262 := by decide +kernel
theorem sum_check2 : addN (addN 4294967295 [49, 50, 51, 52]) [53, 54, 55, 56, 57] ^^^ 4294967295 = 3421780262 := by decide +kernel
theorem c18 : CallR Try.prog 18 [] fun rs => rs = [.v (.bool true)] := by
  refine ⟨[.v (.bool true)], ?_, rfl⟩
  refine FnR.of' T_ok M_ok (fn := Try.f18) (by kernel_rfl) rfl rfl rfl rfl (Nat.le_of_ble_eq_true rfl) fun A hA => ?_
  cbv
  refine callI hA (c16 [49, 50, 51, 52, 53, 54, 55, 56, 57] _ rfl (by decide)) ?_
  rintro _ ⟨r, rfl, hr⟩
  rw [sum_check] at hr
  cbv
  refine condI hA (fun hc => ?_) (fun hc => ?_)
  · cbv
    refine callI hA c21 ?_
    rintro _ ⟨s, rfl, hs⟩
    cbv
    refine callI hA (c22 s _ [49, 50, 51, 52] _ hs (by decide) rfl (by decide)) ?_
    rintro _ ⟨t, rfl, ht⟩
    cbv
    refine callI hA (c22 t _ [53, 54, 55, 56, 57] _ ht (addN_lt (by decide) _) rfl (by decide)) ?_
    rintro _ ⟨u, rfl, hu⟩
    cbv
    refine callI hA (c20 u _ hu (addN_lt (addN_lt (by decide) _) _)) ?_
    rintro _ ⟨v, rfl, hv⟩
    rw [sum_check2] at hv
    cbv
    refine retI hA ?_
    simp only [retOk, rsOk, retIds, idsD, idsDs, softOb, toV, toVs, List.append_nil, List.nil_append, Option.some.injEq, V.int.injEq, V.bool.injEq, V.slice.injEq, V.agg.injEq, V.str.injEq, true_and, and_true, hA, std]
    subst hv
    rfl
  · rw [hA] at hc
    subst hr
    exact absurd hc (by simp [std])

theorem c3 (b : List UInt8) (l : List V) (hl : l = bytesV b) (hb : b.length ≤ 140737488355328) : CallR Try.prog 3 [.slice l] fun rs => rs = [.v (.bool true)] := by
  refine ⟨[.v (.bool true)], ?_, rfl⟩
  have hlen : l.length = b.length := by rw [hl]; simp [bytesV]
  refine FnR.of' T_ok M_ok (fn := Try.f3) (by kernel_rfl) rfl rfl rfl rfl (Nat.le_of_ble_eq_true rfl) fun A hA => ?_
  cbv
  refine sizedI hA (bytesV_flat hl) ?_
  cbv
  refine roomI hA (by simp [hlen]; omega) ?_
  cbv
  have happ : A.app [] l = bytesV b := by rw [hA]; exact hl
  refine callI hA (c16 b _ happ hb) ?_
  rintro _ ⟨r, rfl, hr⟩
  cbv
  refine callI hA (c17 b l hl hb) ?_
  rintro _ ⟨s, rfl, hs⟩
  cbv
  refine condI hA (fun hc => ?_) (fun hc => ?_)
  · cbv
    refine b2sI hA b happ ?_
    cbv
    refine b2sI hA b hl ?_
    cbv
    refine condI hA (fun hc2 => ?_) (fun hc2 => ?_)
    · cbv
      refine callI hA c18 ?_
      rintro _ rfl
      cbv
      refine retI hA ?_
      simp only [retOk, rsOk, retIds, idsD, idsDs, softOb, toV, toVs, List.append_nil, List.nil_append, Option.some.injEq, V.int.injEq, V.bool.injEq, V.slice.injEq, V.agg.injEq, V.str.injEq, true_and, and_true, hA, std]
    · rw [hA] at hc2
      exact absurd hc2 (by simp [std])
  · rw [hA] at hc
    rw [hr, hs] at hc
    exact absurd hc (by simp [std])
end Go.Proofs.Ytinckcpmkocakaa.AM

/-
  Contracts, part 4: the laws SumGoes, SumCuts.
-/
set_option linter.unusedVariables false
set_option linter.unusedSimpArgs false
namespace Go.Proofs.Ytinckcpmkocakaa.AM
open Go Go.RowKit
set_option maxRecDepth 100000
set_option maxHeartbeats 4000000

theorem xx {n : Nat} : n ^^^ 4294967295 ^^^ 4294967295 = n := by rw [Nat.xor_assoc]; simp
theorem i64_upC {i : Int} {j : Nat} (hi : i = j) (hj : j ≤ 140737488355328) : IntKind.i64.wrap (i + 1) = ((j + 1 : Nat) : Int) := by
  rw [hi, wrap_i64 (by omega) (by omega)]; rfl

theorem c4 (v : Int) (n : Nat) (bs : List (List UInt8)) (l : List V) (hv : v = n) (hn : n < 4294967296) (hl : l = listsV bs) (hbs : bs.length * 24 ≤ 140737488355328) (hb : ∀ b ∈ bs, b.length ≤ 140737488355328) : CallR Try.prog 4 [.int .u32 v, .slice l] fun rs => rs = [.v (.bool true)] := by
  refine .of [.v (.bool true)] rfl ?_
  have hlen : l.length = bs.length := by rw [hl]; simp [listsV]
  refine FnR.of' T_ok M_ok (fn := Try.f4) (by kernel_rfl) rfl rfl rfl rfl (Nat.le_of_ble_eq_true rfl) fun A hA => ?_
  cbv
  refine callI hA (c19 v n hv hn) ?_
  intro rs_ h_
  obtain ⟨s, q_1, hs⟩ := h_
  subst q_1
  cbv
  refine callI hA (c20 s _ hs (xlt hn)) ?_
  intro rs_ h_
  obtain ⟨t, q_1, ht⟩ := h_
  subst q_1
  cbv
  rw [xx] at ht
  have hne : A.ine t v = false := by rw [hA, ht, hv]; simp [std]
  refine condF hA hne ?_
  cbv
  refine callI hA (c21) ?_
  intro rs_ h_
  obtain ⟨s0, q_1, hs0⟩ := h_
  subst q_1
  cbv
  refine callI hA (c20 s0 _ hs0 (by decide)) ?_
  intro rs_ h_
  obtain ⟨t0, q_1, ht0⟩ := h_
  subst q_1
  cbv
  have hne0 : A.ine t0 0 = false := by rw [hA, ht0]; rfl
  refine condF hA hne0 ?_
  cbv
  refine loopF hA (ι := Int × Int × Int) (fun p => { n := 43, sl := [(1, .v (.slice l)), (5, .v (.int .u32 p.2.1)), (6, .v (.int .u32 p.2.2)), (7, .v (.int .i64 p.1))], ob := [] })
    (fun p => ∃ j N : Nat, p.1 = j ∧ j ≤ bs.length ∧ N < 4294967296 ∧ p.2.2 = N ∧ p.2.1 = (N ^^^ 4294967295 : Nat)) (fun p => bs.length - p.1.toNat) (_, _, _) (weakI rfl ⟨rfl, rfl, rfl, rfl, trivial⟩ trivial) ⟨0, n, rfl, Nat.zero_le _, hn, hv, hs⟩ ?_
  rintro ⟨i, y, x⟩ ⟨j, N, hi, hj, hN, hx, hy⟩
  replace hi : i = Int.ofNat j := hi
  replace hx : x = Int.ofNat N := hx
  replace hy : y = Int.ofNat (N ^^^ 4294967295) := hy
  cbv
  refine condI hA (fun hc => ?_) (fun hc => ?_)
  · have hjl : j < bs.length := by
      rw [hA] at hc
      simp only [std, decide_eq_true_eq, hlen] at hc
      rw [natEq hi] at hc
      exact_mod_cast hc
    cbv
    obtain ⟨c, hcv⟩ : ∃ c, c = bytesV (bs[j]'hjl) := ⟨_, rfl⟩
    refine chkI hA (by kernel_rfl) ?_
    cbv
    refine getXI hA (.slice c) (by rw [hcv]; exact listsV_at hl (natEq hi) hjl) ?_
    cbv
    refine callI hA (c22 y _ _ _ (natEq hy) (xlt hN) hcv (hb _ (List.getElem_mem hjl))) ?_
    intro rs_ h_
    obtain ⟨r1, q_1, h1⟩ := h_
    subst q_1
    cbv
    refine getXI hA (.slice c) (by rw [hcv]; exact listsV_at hl (natEq hi) hjl) ?_
    cbv
    refine callI hA (c23 x _ _ _ (natEq hx) hN hcv (hb _ (List.getElem_mem hjl))) ?_
    intro rs_ h_
    obtain ⟨r2, q_1, h2⟩ := h_
    subst q_1
    cbv
    refine callI hA (c20 r1 _ (natEq h1) (addN_lt (xlt hN) _)) ?_
    intro rs_ h_
    obtain ⟨r3, q_1, h3⟩ := h_
    subst q_1
    cbv
    have hne3 : A.ine r3 r2 = false := by rw [hA, natEq h3, natEq h2]; simp [std, sumN]
    refine condF hA hne3 ?_
    cbv
    refine ⟨(_, _, _), weakI rfl ⟨rfl, rfl, rfl, rfl, trivial⟩ trivial, ⟨j + 1, _, ?_, hjl, xlt (addN_lt (xlt hN) (bs[j]'hjl)), natEq h2, ?_⟩, ?_⟩
    · change A.wrap .i64 (A.add i 1) = _
      rw [hA]; exact i64_upC (natEq hi) (by omega)
    · rw [xx]; exact natEq h1
    · change bs.length - (A.wrap .i64 (A.add i 1)).toNat < bs.length - i.toNat
      rw [hA]; simp only [std]; rw [i64_upC (natEq hi) (by omega), natEq hi]; omega
  · cbv
    refine callI hA (c18) ?_
    intro rs_ h_
    subst h_
    cbv
    refine retI hA ?_
    simp only [retOk, rsOk, retIds, idsD, idsDs, softOb, toV, toVs, List.append_nil, List.nil_append, Option.some.injEq, V.int.injEq, V.bool.injEq, V.slice.injEq, V.agg.injEq, V.str.injEq, true_and, and_true, hA, std]
end Go.Proofs.Ytinckcpmkocakaa.AM

/-
  Contracts, part 5: the laws SumCuts, SumTurned.
-/
set_option linter.unusedVariables false
set_option linter.unusedSimpArgs false
namespace Go.Proofs.Ytinckcpmkocakaa.AM
open Go Go.RowKit
set_option maxRecDepth 100000
set_option maxHeartbeats 4000000

theorem nz_of {b : Int} {k : Nat} (h : b = ((k + 1 : Nat) : Int)) : b ≠ 0 := by omega
theorem bd_to {x : Int} {k m n : Nat} (hx : x = (k : Int)) (hk : k ≤ m) (hn : n = m) : 0 ≤ (0 : Int) ∧ 0 ≤ x ∧ x ≤ (n : Int) := by omega
theorem bd_fr {x y : Int} {k m n : Nat} (hx : x = (k : Int)) (hy : y = (m : Int)) (hk : k ≤ m) (hn : n = m) : 0 ≤ x ∧ x ≤ y ∧ y ≤ (n : Int) := by omega
theorem mod_w {a b : Int} {n m k : Nat} (ha : a = (n : Int)) (hn : n < 65536) (hb : b = ((m + 1 : Nat) : Int)) (hk : k = n % (m + 1)) : (IntKind.i64.wrap a).tmod b = (k : Int) := by
  rw [ha, wrap_i64 (by omega) (by omega), hb, hk]; rfl
theorem sumN_of (b : List UInt8) : sumN 0 b = addN 4294967295 b ^^^ 4294967295 := by simp [sumN]
theorem c5 (b : List UInt8) (l : List V) (a : Int) (n : Nat) (hl : l = bytesV b) (hb : b.length ≤ 140737488355328) (ha : a = n) (hn : n < 65536) : CallR Try.prog 5 [.slice l, .int .u16 a] fun rs => rs = [.v (.bool true)] := by
  refine .of [.v (.bool true)] rfl ?_
  have hlen : l.length = b.length := by rw [hl]; simp [bytesV]
  obtain ⟨k, hkv⟩ : ∃ k, k = n % (b.length + 1) := ⟨_, rfl⟩
  have hkl : k ≤ b.length := by rw [hkv]; exact Nat.lt_succ_iff.1 (Nat.mod_lt n (Nat.succ_pos _))
  refine FnR.of' T_ok M_ok (fn := Try.f5) (by kernel_rfl) rfl rfl rfl rfl (Nat.le_of_ble_eq_true rfl) fun A hA => ?_
  cbv
  replace ha := natEq ha
  have hw : A.wrap .i64 (A.add (A.lenL l) 1) = ((b.length + 1 : Nat) : Int) := by
    rw [hA]; simp only [std]; rw [hlen]; exact i64_upC rfl (by omega)
  have hk : A.tmod (A.wrap .i64 a) (A.wrap .i64 (A.add (A.lenL l) 1)) = (k : Int) := by
    rw [hw, hA]; exact mod_w ha hn rfl hkv
  refine nzI hA (nz_of (k := b.length) hw) ?_
  cbv
  refine chkI hA (by kernel_rfl) ?_
  cbv
  have hsz := bytesV_flat hl
  have to := bd_to hk hkl hlen
  have hl2 : A.lenL l = (b.length : Nat) := by rw [hA]; simp only [std]; rw [hlen]
  have fr := bd_fr hk hl2 hkl hlen
  refine callI hA (c21) ?_
  intro rs_ h_
  obtain ⟨s0, q_1, hs0⟩ := h_
  subst q_1
  cbv
  refine sizedI hA hsz ?_
  cbv
  refine subLN hA to ?_
  rintro l1 h1
  have h1 := cutTo hk hl h1
  cbv
  refine callI hA (c22 s0 _ _ _ hs0 (by decide) h1 (by simp; omega)) ?_
  intro rs_ h_
  obtain ⟨s, q_1, hs⟩ := h_
  subst q_1
  cbv
  refine chkI hA (by kernel_rfl) ?_
  cbv
  refine callI hA (c20 s _ hs (addN_lt (by decide) _)) ?_
  intro rs_ h_
  obtain ⟨v, q_1, hv⟩ := h_
  subst q_1
  cbv
  refine callI hA (c19 v _ hv (xlt (addN_lt (by decide) _))) ?_
  intro rs_ h_
  obtain ⟨u, q_1, hu⟩ := h_
  subst q_1
  cbv
  rw [xx] at hu
  refine sizedI hA hsz ?_
  cbv
  refine subLN hA fr ?_
  rintro l2 h2
  have h2 := cutFrom hk hl hl2 h2
  cbv
  refine callI hA (c22 u _ _ _ hu (addN_lt (by decide) _) h2 (by simp; omega)) ?_
  intro rs_ h_
  obtain ⟨t, q_1, ht⟩ := h_
  subst q_1
  cbv
  have all : addN (addN 4294967295 (b.take (k))) (b.drop (k)) = addN 4294967295 b := by
    rw [← addN_append, List.take_append_drop]
  rw [all] at ht
  refine sizedI hA hsz ?_
  cbv
  refine subLN hA fr ?_
  rintro l3 h3
  have h3 := cutFrom hk hl hl2 h3
  cbv
  refine callI hA (c22 s _ _ _ hs (addN_lt (by decide) _) h3 (by simp; omega)) ?_
  intro rs_ h_
  obtain ⟨t2, q_1, ht2⟩ := h_
  subst q_1
  cbv
  rw [all] at ht2
  refine callI hA (c20 t2 _ ht2 (addN_lt (by decide) _)) ?_
  intro rs_ h_
  obtain ⟨r1, q_1, hr1⟩ := h_
  subst q_1
  cbv
  refine callI hA (c16 b l hl hb) ?_
  intro rs_ h_
  obtain ⟨r2, q_1, hr2⟩ := h_
  subst q_1
  cbv
  rw [sumN_of] at hr2
  have e1 : A.ieq r1 r2 = true := by rw [hA, hr1, hr2]; simp [std]
  refine condT hA e1 ?_
  cbv
  refine callI hA (c20 t _ ht (addN_lt (by decide) _)) ?_
  intro rs_ h_
  obtain ⟨r3, q_1, hr3⟩ := h_
  subst q_1
  cbv
  refine callI hA (c16 b l hl hb) ?_
  intro rs_ h_
  obtain ⟨r4, q_1, hr4⟩ := h_
  subst q_1
  cbv
  rw [sumN_of] at hr4
  have e2 : A.ieq r3 r4 = true := by rw [hA, hr3, hr4]; simp [std]
  refine condT hA e2 ?_
  cbv
  refine sizedI hA hsz ?_
  cbv
  refine subLN hA to ?_
  rintro l4 h4
  have h4 := cutTo hk hl h4
  cbv
  refine callI hA (c16 _ l4 h4 (by simp; omega)) ?_
  intro rs_ h_
  obtain ⟨r5, q_1, hr5⟩ := h_
  subst q_1
  cbv
  rw [sumN_of] at hr5
  refine callI hA (c20 s _ hs (addN_lt (by decide) _)) ?_
  intro rs_ h_
  obtain ⟨r6, q_1, hr6⟩ := h_
  subst q_1
  cbv
  have e3 : A.ieq r5 r6 = true := by rw [hA, hr5, hr6]; simp [std]
  refine condT hA e3 ?_
  cbv
  refine callI hA (c18) ?_
  intro rs_ h_
  subst h_
  cbv
  refine retI hA ?_
  simp only [retOk, rsOk, retIds, idsD, idsDs, softOb, toV, toVs, List.append_nil, List.nil_append, Option.some.injEq, V.int.injEq, V.bool.injEq, V.slice.injEq, V.agg.injEq, V.str.injEq, true_and, and_true, hA, std]
end Go.Proofs.Ytinckcpmkocakaa.AM
