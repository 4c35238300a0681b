/-
  Plain law: one byte turned in a frame stops the reading there.
-/
import Derived.Test.YtinckcpmkocakaaM2955d6e4ec
set_option linter.unusedVariables false
set_option linter.unusedSimpArgs false
namespace Go.Proofs.Ytinckcpmkocakaa.AM
open Go Go.RowKit
set_option maxRecDepth 100000
set_option maxHeartbeats 4000000

theorem fourB_inj {a b : Nat} (ha : a < 4294967296) (hb : b < 4294967296) (h : fourB a = fourB b) : a = b := by
  simp only [fourB, List.cons.injEq, and_true] at h
  obtain ⟨h1, h2, h3, h4⟩ := h
  have g1 := congrArg UInt8.toNat h1
  have g2 := congrArg UInt8.toNat h2
  have g3 := congrArg UInt8.toNat h3
  have g4 := congrArg UInt8.toNat h4
  rw [u8_back (by omega), u8_back (by omega)] at g1 g2 g3 g4
  omega
theorem crcM_lt (s : Nat) (b : List UInt8) : crcM s b < 4294967296 := xlt (addN_lt (by decide) _)
theorem crcM_set (s : Nat) (b : List UInt8) (k : Nat) (hk : k < b.length) (c : UInt8) (h : crcM s (b.set k c) = crcM s b) : c = b[k] := by
  unfold crcM at h
  have e : fourB s ++ b.set k c = (fourB s ++ b).set (4 + k) c := by
    rw [List.set_append_right _ _ (by simp [fourB_len])]
    simp [fourB_len]
  rw [e] at h
  have := (sumN_set (fourB s ++ b) (4 + k) (by simp [fourB_len]; omega) c).1 h
  rw [this, List.getElem_append_right (by simp [fourB_len])]
  simp [fourB_len]
theorem frameL_take10 (s : Nat) (b : List UInt8) : (frameL s b).take 10 = lenTwo b.length ++ (fourB s ++ fourB (crcM s b)) := rfl
theorem frameL_take6 (s : Nat) (b : List UInt8) : (frameL s b).take 6 = lenTwo b.length ++ fourB s := rfl
theorem frameL_get {s : Nat} {b b' : List UInt8} (hl : b'.length = b.length) {p : Nat} (hp : p < 6) (h : p < (frameL s b).length) (h' : p < (frameL s b').length) : (frameL s b')[p] = (frameL s b)[p] := by
  have e : (frameL s b').take 6 = (frameL s b).take 6 := by rw [frameL_take6, frameL_take6, hl]
  have q : ((frameL s b').take 6)[p]? = ((frameL s b).take 6)[p]? := by rw [e]
  rw [List.getElem?_take, List.getElem?_take, if_pos hp, if_pos hp, List.getElem?_eq_getElem h, List.getElem?_eq_getElem h'] at q
  exact Option.some.inj q
/-- A frame with a byte turned behind its length is none. -/
theorem frame_turned {s : Nat} {b : List UInt8} {p : Nat} (h2 : 2 ≤ p) (hp : p < (frameL s b).length) {c : UInt8} (hc : c ≠ (frameL s b)[p]) : frameL s (((frameL s b).set p c).drop 10) ≠ (frameL s b).set p c := fun h => by
  have hl := frameL_len s b
  have hbl : (((frameL s b).set p c).drop 10).length = b.length := by rw [List.length_drop, List.length_set, hl]; omega
  have hp' : p < (frameL s (((frameL s b).set p c).drop 10)).length := by rw [frameL_len, hbl]; omega
  have hget : (frameL s (((frameL s b).set p c).drop 10))[p] = c := by
    have q : (frameL s (((frameL s b).set p c).drop 10))[p]? = ((frameL s b).set p c)[p]? := by rw [h]
    rw [List.getElem?_eq_getElem hp', List.getElem?_set_self hp] at q
    exact Option.some.inj q
  by_cases h6 : p < 6
  · exact hc (hget.symm.trans (frameL_get hbl h6 hp hp'))
  · by_cases h10 : p < 10
    · have e : ((frameL s b).set p c).drop 10 = b := by rw [List.drop_set_of_lt h10, frameL_drop]
      have : ∀ b' : List UInt8, b' = b → ∀ h' : p < (frameL s b').length, (frameL s b')[p] = (frameL s b)[p] := fun b' hb' h' => by subst hb'; rfl
      exact hc (hget.symm.trans (this _ e hp'))
    · have e : ((frameL s b).set p c).drop 10 = b.set (p - 10) c := by
        rw [List.drop_set, if_neg (by omega), frameL_drop]
      have hk : p - 10 < b.length := by omega
      have et : (frameL s (b.set (p - 10) c)).take 10 = (frameL s b).take 10 := by
        rw [← e, h, List.take_set_of_le (by omega)]
      rw [frameL_take10, frameL_take10, List.length_set] at et
      have e4 : fourB (crcM s (b.set (p - 10) c)) = fourB (crcM s b) := by
        have := List.append_cancel_left et
        exact List.append_cancel_left this
      have := crcM_set s b (p - 10) hk c (fourB_inj (crcM_lt _ _) (crcM_lt _ _) e4)
      refine hc (this.trans ?_)
      have q : (frameL s b)[p]? = b[p - 10]? := by
        have : b = (frameL s b).drop 10 := rfl
        conv => rhs; rw [this]
        rw [List.getElem?_drop]; congr 1; omega
      rw [List.getElem?_eq_getElem hp, List.getElem?_eq_getElem hk] at q
      exact (Option.some.inj q).symm
theorem twoM_set {b : List UInt8} {p : Nat} (h : 2 ≤ p) (c : UInt8) : twoM (b.set p c) = twoM b := by
  match b, p, h with
  | [], _, _ => rfl
  | [x], p + 2, _ => rfl
  | x :: y :: r, p + 2, _ => rfl
theorem step_turned {a : RecM} (hg : Good a) (s : Nat) (t : List UInt8) {p : Nat} (h2 : 2 ≤ p) (hp : p < (frameL s (putB a)).length) {c : UInt8} (hc : c ≠ (frameL s (putB a))[p]) : stepM s ((frameL s (putB a)).set p c ++ t) = none := by
  have hb := putB_small hg.1
  have hl := frameL_len s (putB a)
  have ht : twoM ((frameL s (putB a)).set p c ++ t) = (putB a).length := by
    have e : (frameL s (putB a)).set p c ++ t = (frameL s (putB a) ++ t).set p c := by rw [List.set_append_left _ _ hp]
    rw [e, twoM_set h2, twoM_frame s _ hb]
  have hsl : ((frameL s (putB a)).set p c).length = 10 + (putB a).length := by rw [List.length_set, hl]
  unfold stepM
  rw [ht]
  split
  · rfl
  · split
    · rfl
    · rw [← hsl, List.take_left]
      rw [if_neg fun h => ?_]
      have h1 := h.2.1
      have hbl : (((frameL s (putB a)).set p c).drop 10).length = (putB a).length := by rw [List.length_drop, hsl]; omega
      unfold frameB at h1
      rw [if_neg (by omega)] at h1
      exact frame_turned h2 hp hc h1
theorem framesB_app : ∀ (gs hs : List RecM) (s : Nat), framesB s (gs ++ hs) = framesB s gs ++ framesB (s + gs.length) hs
  | [], hs, s => by simp [framesB]
  | g :: r, hs, s => by
    simp only [List.cons_append, framesB, framesB_app r hs (s + 1), List.append_assoc, List.length_cons]
    rw [show s + 1 + r.length = s + (r.length + 1) from by omega]
/-- The law. -/
theorem scan_turned {gs : List RecM} (h : ∀ a ∈ gs, Good a) {n : Nat} (hn : n < (framesB 0 gs).length) {k : Nat} (hk : k < gs.length) (h1 : (framesB 0 (gs.take k)).length ≤ n) (h3 : n < (framesB 0 (gs.take (k + 1))).length) (h2 : 2 ≤ n - (framesB 0 (gs.take k)).length) {c : UInt8} (hc : c ≠ (framesB 0 gs)[n]) :
    scanM 0 ((framesB 0 gs).set n c) = (gs.take k, (framesB 0 (gs.take k)).length) := by
  have hkl : (gs.take k).length = k := by rw [List.length_take]; omega
  have e1 : gs = gs.take k ++ gs[k] :: gs.drop (k + 1) := by simp
  have e2 : framesB 0 gs = framesB 0 (gs.take k) ++ (frameL k (putB gs[k]) ++ framesB (k + 1) (gs.drop (k + 1))) := by
    conv => lhs; rw [e1]
    rw [framesB_app, hkl, Nat.zero_add]; rfl
  have e3 : framesB 0 (gs.take (k + 1)) = framesB 0 (gs.take k) ++ frameL k (putB gs[k]) := by
    rw [List.take_succ_eq_append_getElem hk, framesB_snoc, hkl, Nat.zero_add]
  rw [e3, List.length_append] at h3
  have hc' : c ≠ (frameL k (putB gs[k]))[n - (framesB 0 (gs.take k)).length]'(by omega) := fun e => by
    apply hc
    rw [e]
    have q : (framesB 0 gs)[n]? = (frameL k (putB gs[k]))[n - (framesB 0 (gs.take k)).length]? := by
      rw [e2, List.getElem?_append_right h1, List.getElem?_append_left (by omega)]
    rw [List.getElem?_eq_getElem hn, List.getElem?_eq_getElem (by omega)] at q
    exact (Option.some.inj q).symm
  rw [e2, List.set_append_right _ _ h1, List.set_append_left _ _ (by omega)]
  rw [scan_frames _ 0 _ fun a ha => h a (List.mem_of_mem_take ha), hkl, Nat.zero_add]
  rw [scanM_none (step_turned (h _ (List.getElem_mem hk)) k _ h2 (by omega) hc')]
  simp
end Go.Proofs.Ytinckcpmkocakaa.AM

/-
  Contracts: the law RecordPrefix.
-/
set_option linter.unusedVariables false
set_option linter.unusedSimpArgs false
namespace Go.Proofs.Ytinckcpmkocakaa.AM
open Go Go.RowKit
set_option maxRecDepth 100000
set_option maxHeartbeats 4000000

theorem nzN {n : Int} {m : Nat} (hn : n = m) (hm : m ≠ 0) : n ≠ 0 := by omega
theorem eqN {A : Prim} {P : Program} {R : List (Nat × AObj) → List D → Prop} (hA : A = std P R) {a b : Int} {m n : Nat} (ha : a = m) (hb : b = n) (h : A.ieq a b = true) : m = n := by
  have := eqT hA h; omega
theorem ltN {A : Prim} {P : Program} {R : List (Nat × AObj) → List D → Prop} (hA : A = std P R) {a b : Int} {m n : Nat} (ha : a = m) (hb : b = n) (h : n ≤ m) : A.ilt a b = false := by
  subst hA ha hb; simp only [std]; exact decide_eq_false (by omega)
theorem ltY {A : Prim} {P : Program} {R : List (Nat × AObj) → List D → Prop} (hA : A = std P R) {a b : Int} {m n : Nat} (ha : a = m) (hb : b = n) (h : m < n) : A.ilt a b = true := by
  subst hA ha hb; simp only [std]; exact decide_eq_true (by omega)
theorem c14 (gs : List RecM) (l : List V) (v : Int) (m : Nat) (t : List UInt8) (lt : List V) (hl : l = recsV gs) (hv : v = m) (hm : m < 65536) (ht : lt = bytesV t) (ho : ∀ a ∈ gs, RecOk a) : CallR Try.prog 14 [.slice l, .int .u16 v, .slice lt] fun rs => rs = [.v (.bool true)] := by
  refine .of _ rfl ?_
  refine FnR.of' T_ok M_ok (fn := Try.f14) (by kernel_rfl) rfl rfl rfl rfl (Nat.le_of_ble_eq_true rfl) fun A hA => ?_
  cbv
  refine condI hA (fun h1 => ?_) (fun h1 => ?_)
  · cbv
    refine callI hA (cAwake) ?_
    intro rs_ h_
    subst h_
    cbv
    refine retI hA ?_
    simp only [retOk, rsOk, retIds, idsD, idsDs, softOb, toV, toVs, List.append_nil, List.nil_append, Option.some.injEq, V.int.injEq, V.bool.injEq, V.slice.injEq, V.agg.injEq, V.str.injEq, true_and, and_true, hA, std]
  · have h12 : gs.length ≤ 12 := by have := nGtF hA (c := 12) rfl (lenR hA hl) h1; omega
    cbv
    refine condI hA (fun h2 => ?_) (fun h2 => ?_)
    · cbv
      refine callI hA (cAwake) ?_
      intro rs_ h_
      subst h_
      cbv
      refine retI hA ?_
      simp only [retOk, rsOk, retIds, idsD, idsDs, softOb, toV, toVs, List.append_nil, List.nil_append, Option.some.injEq, V.int.injEq, V.bool.injEq, V.slice.injEq, V.agg.injEq, V.str.injEq, true_and, and_true, hA, std]
    · have h30 : t.length ≤ 3000 := by have := bGtF hA (m := 3000) ht rfl h2; omega
      cbv
      refine loopF hA (ι := Int) (fun i => { n := 142, sl := [(0, .v (.slice l)), (1, .v (.int .u16 v)), (2, .v (.slice lt)), (7, .v (.int .i64 i))], ob := [] })
        (fun i => ∃ j : Nat, i = j ∧ j ≤ gs.length) (fun i => gs.length - i.toNat) 0 (weakI rfl ⟨rfl, rfl, rfl, rfl, trivial⟩ trivial) ⟨0, rfl, Nat.zero_le _⟩ ?_
      rintro i ⟨j, hi, hj⟩
      cbv
      refine condI hA (fun hc => ?_) (fun hc => ?_)
      · have hjl := ltRs hA (natEq hi) hl hc
        cbv
        refine getRN hA hl (natEq hi) hjl ?_
        rintro x0 p0 hx0 hp0
        cbv
        refine condI hA (fun hz => ?_) (fun hz => ?_)
        · cbv
          refine callI hA (cAwake) ?_
          intro rs_ h_
          subst h_
          cbv
          refine retI hA ?_
          simp only [retOk, rsOk, retIds, idsD, idsDs, softOb, toV, toVs, List.append_nil, List.nil_append, Option.some.injEq, V.int.injEq, V.bool.injEq, V.slice.injEq, V.agg.injEq, V.str.injEq, true_and, and_true, hA, std]
        · exact ⟨_, weakI rfl ⟨rfl, rfl, rfl, rfl, trivial⟩ trivial, ⟨j + 1, upI hA (natEq hi) (by omega), hjl⟩, upM hA (natEq hi) hjl (by omega)⟩
      · cbv
        refine callI hA (cLaid gs l hl (by omega) ho) ?_
        intro rs_ h_
        obtain ⟨ob, kb, q_1, hob, hkb⟩ := h_
        subst q_1
        cbv
        clear hi hj hc
        obtain ⟨ks, hks⟩ : ∃ ks, ks = kept gs := ⟨_, rfl⟩
        have hkg : ∀ a ∈ ks, Good a := hks ▸ kept_good ho
        have hkl : ks.length ≤ 12 := by have := kept_len gs; rw [hks]; omega
        rw [← hks] at hob hkb
        obtain ⟨B, hB⟩ : ∃ B, B = framesB 0 ks := ⟨_, rfl⟩
        have hBl := framesB_len ks 0 hkg
        rw [← hB] at hob hBl
        obtain ⟨n, hn⟩ : ∃ n, n = m % (B.length + 1) := ⟨_, rfl⟩
        have hnB : n ≤ B.length := by have := Nat.mod_lt m (show 0 < B.length + 1 by omega); omega
        have hlen1 := addI hA (lenI hA hob) (b := 1) (n := 1) rfl (by omega)
        refine nzI hA (nzN hlen1 (by omega)) ?_
        cbv
        have hat : A.tmod (A.wrap .i64 v) (A.wrap .i64 (A.add (A.lenL ob) 1)) = ((n : Nat) : Int) := by
          rw [hlen1, wI hA hv (by omega), hA, hn]; rfl
        refine sizedI hA (bytesV_flat hob) ?_
        cbv
        refine subLN hA (sub_of (a := 0) rfl hat hob (by omega) hnB) ?_
        rintro q1 hq1
        have hq1 := cutTo hat hob hq1
        cbv
        refine callI hA (cScan _ q1 hq1 (by rw [List.length_take]; omega)) ?_
        intro rs_ h_
        obtain ⟨r1, e1, q_1, hr1, he1⟩ := h_
        subst q_1
        cbv
        obtain ⟨k, k1, k2, k3, k4⟩ := scan_part ks 0 n hkg (hB ▸ hnB)
        rw [← hB] at k2
        rw [k2] at hr1 he1
        refine roomI hA (by rw [hob, bytesV_len]; simp; omega) ?_
        cbv
        have hw1 : A.app [] ob = bytesV B := by rw [hA, ← hob]; rfl
        refine sizedI hA (bytesV_flat ht) ?_
        cbv
        refine roomI hA (room_of hw1 ht (by omega)) ?_
        cbv
        have hw2 := app_of hA hw1 ht
        refine callI hA (cScan _ _ hw2 (by rw [List.length_append]; omega)) ?_
        intro rs_ h_
        obtain ⟨r2, e2, q_1, hr2, he2⟩ := h_
        subst q_1
        cbv
        have hsf := scan_frames ks 0 t hkg
        rw [← hB] at hsf
        rw [hsf] at hr2 he2
        obtain ⟨tl, htl⟩ : ∃ tl, tl = (scanM (0 + ks.length) t).1 := ⟨_, rfl⟩
        obtain ⟨te, hte⟩ : ∃ te, te = (scanM (0 + ks.length) t).2 := ⟨_, rfl⟩
        dsimp only at hr1 he1 hr2 he2
        rw [← htl] at hr2
        rw [← hte] at he2
        have hk1l : (ks.take k).length ≤ ks.length := by rw [List.length_take]; omega
        refine condF hA (ltN hA hat he1 k3) ?_
        cbv
        refine condF hA (ltN hA (lenR hA hkb) (lenR hA hr1) hk1l) ?_
        cbv
        refine condF hA (ltN hA he2 (lenI hA hob) (by omega)) ?_
        cbv
        refine condF hA (ltN hA (lenR hA hr2) (lenR hA hkb) (by rw [List.length_append]; omega)) ?_
        cbv
        refine condI hA (fun hend => ?_) (fun hend => ?_)
        · have hend : n = B.length := eqN hA hat (lenI hA hob) hend
          have hfull : k = ks.length ∧ (framesB 0 (ks.take k)).length = n := by
            have e0 := scan_frames ks 0 [] hkg
            rw [List.append_nil, scan_nil, ← hB] at e0
            have e1 : scanM 0 (B.take n) = scanM 0 B := by rw [hend, List.take_length]
            rw [k2, e0] at e1
            have q1 := congrArg Prod.fst e1
            have q2 := congrArg Prod.snd e1
            dsimp only at q1 q2
            refine ⟨?_, by omega⟩
            have := congrArg List.length q1
            simp at this; omega
          have hkk : (ks.take k).length = ks.length := by rw [List.length_take]; omega
          cbv
          refine condF hA (ineN hA (a := e1) (he1.trans ((congrArg Nat.cast hfull.2).trans hat.symm))) ?_
          cbv
          refine condF hA (ineN hA (a := A.lenL r1) (b := A.lenL kb) (by rw [lenR hA hr1, lenR hA hkb, hkk])) ?_
          cbv
          refine loopF hA (ι := Int) (fun i => { n := 142, sl := [(9, .v (.slice kb)), (11, .v (.slice r1)), (13, .v (.slice r2)), (15, .v (.int .i64 i))], ob := [] })
            (fun i => ∃ j : Nat, i = j ∧ j ≤ ks.length) (fun i => ks.length - i.toNat) 0 (weakI rfl ⟨rfl, rfl, rfl, rfl, trivial⟩ trivial) ⟨0, rfl, Nat.zero_le _⟩ ?_
          rintro i ⟨j, hi, hj⟩
          cbv
          refine condI hA (fun hc => ?_) (fun hc => ?_)
          · have hjl := ltRs hA (natEq hi) hkb hc
            have hpj : (ks[j]'hjl).path.length ≤ 140737488355328 := (hkg _ (List.getElem_mem hjl)).1.pl
            cbv
            refine chkI hA (by kernel_rfl) ?_
            cbv
            refine condI hA (fun hz => ?_) (fun hz => ?_)
            · have hjk := ltRs hA (natEq hi) hr1 hz
              cbv
              refine getRN hA hr1 (natEq hi) hjk ?_
              rintro x1 p1 hx1 hp1
              cbv
              refine getRN hA hkb (natEq hi) hjl ?_
              rintro x2 p2 hx2 hp2
              cbv
              have e12 : x1 = x2 := by rw [hx1, hx2, List.getElem_take]
              refine callI hA (cSameR x1 x2 p1 p2 hp1 hp2 (by rw [e12, hx2]; exact hpj)) ?_
              intro rs_ h_
              obtain ⟨c1, q_1, hc1⟩ := h_
              subst q_1
              cbv
              refine condF hA (notI hA (hc1.trans (by rw [e12]; exact sameM_self _))) ?_
              cbv
              refine getRN hA hr2 (natEq hi) (by rw [List.length_append]; omega) ?_
              rintro x3 p3 hx3 hp3
              cbv
              refine getRN hA hkb (natEq hi) hjl ?_
              rintro x4 p4 hx4 hp4
              cbv
              have e34 : x3 = x4 := by rw [hx3, hx4, List.getElem_append_left hjl]
              refine callI hA (cSameR x3 x4 p3 p4 hp3 hp4 (by rw [e34, hx4]; exact hpj)) ?_
              intro rs_ h_
              obtain ⟨c2, q_1, hc2⟩ := h_
              subst q_1
              cbv
              refine condF hA (notI hA (hc2.trans (by rw [e34]; exact sameM_self _))) ?_
              cbv
              exact ⟨_, weakI rfl ⟨rfl, rfl, rfl, rfl, trivial⟩ trivial, ⟨j + 1, upI hA (natEq hi) (by omega), hjl⟩, upM hA (natEq hi) hjl (by omega)⟩
            · cbv
              refine getRN hA hr2 (natEq hi) (by rw [List.length_append]; omega) ?_
              rintro x3 p3 hx3 hp3
              cbv
              refine getRN hA hkb (natEq hi) hjl ?_
              rintro x4 p4 hx4 hp4
              cbv
              have e34 : x3 = x4 := by rw [hx3, hx4, List.getElem_append_left hjl]
              refine callI hA (cSameR x3 x4 p3 p4 hp3 hp4 (by rw [e34, hx4]; exact hpj)) ?_
              intro rs_ h_
              obtain ⟨c2, q_1, hc2⟩ := h_
              subst q_1
              cbv
              refine condF hA (notI hA (hc2.trans (by rw [e34]; exact sameM_self _))) ?_
              cbv
              exact ⟨_, weakI rfl ⟨rfl, rfl, rfl, rfl, trivial⟩ trivial, ⟨j + 1, upI hA (natEq hi) (by omega), hjl⟩, upM hA (natEq hi) hjl (by omega)⟩
          · cbv
            refine callI hA (cAwake) ?_
            intro rs_ h_
            subst h_
            cbv
            refine retI hA ?_
            simp only [retOk, rsOk, retIds, idsD, idsDs, softOb, toV, toVs, List.append_nil, List.nil_append, Option.some.injEq, V.int.injEq, V.bool.injEq, V.slice.injEq, V.agg.injEq, V.str.injEq, true_and, and_true, hA, std]
        · cbv
          refine loopF hA (ι := Int) (fun i => { n := 142, sl := [(9, .v (.slice kb)), (11, .v (.slice r1)), (13, .v (.slice r2)), (15, .v (.int .i64 i))], ob := [] })
            (fun i => ∃ j : Nat, i = j ∧ j ≤ ks.length) (fun i => ks.length - i.toNat) 0 (weakI rfl ⟨rfl, rfl, rfl, rfl, trivial⟩ trivial) ⟨0, rfl, Nat.zero_le _⟩ ?_
          rintro i ⟨j, hi, hj⟩
          cbv
          refine condI hA (fun hc => ?_) (fun hc => ?_)
          · have hjl := ltRs hA (natEq hi) hkb hc
            have hpj : (ks[j]'hjl).path.length ≤ 140737488355328 := (hkg _ (List.getElem_mem hjl)).1.pl
            cbv
            refine chkI hA (by kernel_rfl) ?_
            cbv
            refine condI hA (fun hz => ?_) (fun hz => ?_)
            · have hjk := ltRs hA (natEq hi) hr1 hz
              cbv
              refine getRN hA hr1 (natEq hi) hjk ?_
              rintro x1 p1 hx1 hp1
              cbv
              refine getRN hA hkb (natEq hi) hjl ?_
              rintro x2 p2 hx2 hp2
              cbv
              have e12 : x1 = x2 := by rw [hx1, hx2, List.getElem_take]
              refine callI hA (cSameR x1 x2 p1 p2 hp1 hp2 (by rw [e12, hx2]; exact hpj)) ?_
              intro rs_ h_
              obtain ⟨c1, q_1, hc1⟩ := h_
              subst q_1
              cbv
              refine condF hA (notI hA (hc1.trans (by rw [e12]; exact sameM_self _))) ?_
              cbv
              refine getRN hA hr2 (natEq hi) (by rw [List.length_append]; omega) ?_
              rintro x3 p3 hx3 hp3
              cbv
              refine getRN hA hkb (natEq hi) hjl ?_
              rintro x4 p4 hx4 hp4
              cbv
              have e34 : x3 = x4 := by rw [hx3, hx4, List.getElem_append_left hjl]
              refine callI hA (cSameR x3 x4 p3 p4 hp3 hp4 (by rw [e34, hx4]; exact hpj)) ?_
              intro rs_ h_
              obtain ⟨c2, q_1, hc2⟩ := h_
              subst q_1
              cbv
              refine condF hA (notI hA (hc2.trans (by rw [e34]; exact sameM_self _))) ?_
              cbv
              exact ⟨_, weakI rfl ⟨rfl, rfl, rfl, rfl, trivial⟩ trivial, ⟨j + 1, upI hA (natEq hi) (by omega), hjl⟩, upM hA (natEq hi) hjl (by omega)⟩
            · cbv
              refine getRN hA hr2 (natEq hi) (by rw [List.length_append]; omega) ?_
              rintro x3 p3 hx3 hp3
              cbv
              refine getRN hA hkb (natEq hi) hjl ?_
              rintro x4 p4 hx4 hp4
              cbv
              have e34 : x3 = x4 := by rw [hx3, hx4, List.getElem_append_left hjl]
              refine callI hA (cSameR x3 x4 p3 p4 hp3 hp4 (by rw [e34, hx4]; exact hpj)) ?_
              intro rs_ h_
              obtain ⟨c2, q_1, hc2⟩ := h_
              subst q_1
              cbv
              refine condF hA (notI hA (hc2.trans (by rw [e34]; exact sameM_self _))) ?_
              cbv
              exact ⟨_, weakI rfl ⟨rfl, rfl, rfl, rfl, trivial⟩ trivial, ⟨j + 1, upI hA (natEq hi) (by omega), hjl⟩, upM hA (natEq hi) hjl (by omega)⟩
          · cbv
            refine callI hA (cAwake) ?_
            intro rs_ h_
            subst h_
            cbv
            refine retI hA ?_
            simp only [retOk, rsOk, retIds, idsD, idsDs, softOb, toV, toVs, List.append_nil, List.nil_append, Option.some.injEq, V.int.injEq, V.bool.injEq, V.slice.injEq, V.agg.injEq, V.str.injEq, true_and, and_true, hA, std]
end Go.Proofs.Ytinckcpmkocakaa.AM

/-
  A row that others could look at becomes the call's own again: where nothing that is kept can lie in it.
-/
set_option linter.unusedVariables false
set_option linter.unusedSimpArgs false
namespace Go.Proofs.Ytinckcpmkocakaa.AM
open Go Go.RowKit
set_option maxRecDepth 100000
set_option maxHeartbeats 4000000

/-- The cells that never change, but for a block's. -/
def okBut (ok : Oks) (b : Nat) : Oks := { ok with ok := fun b' o => ok b' o ∧ b' ≠ b }
theorem rep_slice {ok : Oks} {w : World} {l : List V} {u : Value} (r : Rep ok w (.slice l) u) : ∃ (a : Option Addr) (c z : Nat) (us : Nat → Nat → Value), u = .slice a l.length c ∧ l.length ≤ c ∧ c ≤ maxLen ∧
    (0 < l.length → ∃ b off, a = some ⟨b, off, none⟩ ∧ ∀ i j, i < l.length → j < z → ok b (off + (i * z + j)) ∧ w.cell? ⟨b, off + (i * z + j), none⟩ = some (us i j)) ∧
    (∀ i (h : i < l.length), (l[i]'h).flat.length = z) ∧ (∀ i (h : i < l.length) j (hj : j < (l[i]'h).flat.length), ((l[i]'h).flat[j]'hj).cell = true) ∧ ∀ i (h : i < l.length) j (hj : j < (l[i]'h).flat.length), Rep ok w ((l[i]'h).flat[j]'hj) (us i j) := by
  cases r with
  | slice _ a c z us hc hm ha hz hcell hr => exact ⟨a, c, z, us, rfl, hc, hm, ha, hz, hcell, hr⟩
/-- In a block of bytes no string and no slice lies. -/
def Bytes (ok : Oks) (w : World) (b : Nat) : Prop := ∀ o, ok b o → ∃ n, w.cell? ⟨b, o, none⟩ = some (.int .u8 n)
theorem rep_but {ok : Oks} {w : World} {b : Nat} (hb : Bytes ok w b) {l : List V} {u : Value} (r : Rep ok w (.slice l) u) (j : Nat) (hj : ∀ i (h : i < l.length), ∃ hj : j < (l[i]'h).flat.length, ∀ v, Rep ok w ((l[i]'h).flat[j]'hj) v → ∀ n, v ≠ .int .u8 n)
    (hin : ∀ i (h : i < l.length) j (hj : j < (l[i]'h).flat.length) v, Rep ok w ((l[i]'h).flat[j]'hj) v → Rep (okBut ok b) w ((l[i]'h).flat[j]'hj) v) : Rep (okBut ok b) w (.slice l) u := by
  obtain ⟨a, c, z, us, rfl, hc, hm, ha, hz, hcell, hr⟩ := rep_slice r
  refine .slice l a c z us hc hm (fun hp => ?_) hz hcell fun i h j hj => hin i h j hj _ (hr i h j hj)
  obtain ⟨b', off, e, hx⟩ := ha hp
  refine ⟨b', off, e, fun i j' hi hj' => ⟨⟨(hx i j' hi hj').1, fun q => ?_⟩, (hx i j' hi hj').2⟩⟩
  subst q
  obtain ⟨hj0, hne⟩ := hj 0 hp
  have hz0 := hz 0 hp
  obtain ⟨q1, q2⟩ := hx 0 j hp (by omega)
  obtain ⟨n, hn⟩ := hb _ q1
  rw [hn] at q2
  exact hne _ (hr 0 hp j hj0) n (Option.some.inj q2).symm
theorem rep_str_ne {ok : Oks} {w : World} {s : List UInt8} {v : Value} (r : Rep ok w (.str s) v) (n : Int) : v ≠ .int .u8 n := by cases r; intro h; cases h
theorem rep_sl_ne {ok : Oks} {w : World} {l : List V} {v : Value} (r : Rep ok w (.slice l) v) (n : Int) : v ≠ .int .u8 n := by
  obtain ⟨a, c, z, us, rfl, _⟩ := rep_slice r; intro h; cases h
theorem rep_strs_but {ok : Oks} {w : World} {b : Nat} (hb : Bytes ok w b) {p : List (List UInt8)} {u : Value} (r : Rep ok w (.slice (strsV p)) u) : Rep (okBut ok b) w (.slice (strsV p)) u := by
  have e : ∀ i (h : i < (strsV p).length), ∃ s, (strsV p)[i]'h = .str s := fun i h => ⟨p[i]'(by simpa [strsV] using h), by simp [strsV]⟩
  refine rep_but hb r 0 (fun i h => ?_) fun i h j hj v hv => ?_
  · obtain ⟨s, hs⟩ := e i h
    rw [hs]
    exact ⟨by simp [V.flat], fun v hv => rep_str_ne hv⟩
  · obtain ⟨s, hs⟩ := e i h
    have hp : (((strsV p)[i]'h).flat[j]'hj).plain = true := by
      have : ∀ x : V, x = .str s → ∀ hj : j < x.flat.length, (x.flat[j]'hj).plain = true := fun x hx hj => by
        subst hx
        match j, hj with
        | 0, _ => rfl
      exact this _ hs hj
    exact hv.plain hp
theorem rep_recs_but {ok : Oks} {w : World} {b : Nat} (hb : Bytes ok w b) {gs : List RecM} {u : Value} (r : Rep ok w (.slice (recsV gs)) u) : Rep (okBut ok b) w (.slice (recsV gs)) u := by
  have e : ∀ i (h : i < (recsV gs).length), ∃ g, (recsV gs)[i]'h = recV g := fun i h => ⟨gs[i]'(by simpa [recsV] using h), by simp [recsV]⟩
  refine rep_but hb r 1 (fun i h => ?_) fun i h j hj v hv => ?_
  · obtain ⟨g, hg⟩ := e i h
    rw [hg]
    exact ⟨by simp [V.flat, recV], fun v hv => rep_sl_ne hv⟩
  · obtain ⟨g, hg⟩ := e i h
    have : ∀ x : V, x = recV g → ∀ hj : j < x.flat.length, Rep ok w (x.flat[j]'hj) v → Rep (okBut ok b) w (x.flat[j]'hj) v := fun x hx hj hv => by
      subst hx
      match j, hj, hv with
      | 0, _, hv => exact hv.plain rfl
      | 1, _, hv => exact rep_strs_but hb hv
      | 2, _, hv => exact hv.plain rfl
      | 3, _, hv => exact hv.plain rfl
      | 4, _, hv => exact hv.plain rfl
      | 5, _, hv => exact hv.plain rfl
      | 6, _, hv => exact hv.plain rfl
      | 7, _, hv => exact hv.plain rfl
    exact this _ hg hj hv
/-- What may be kept. -/
def Keeps (d : D) : Prop := (∃ x, d = .v x ∧ x.plain = true) ∨ (∃ gs, d = .v (.slice (recsV gs))) ∨ (∃ j, d = .own j) ∨ ∃ j z i off, d = .rptr j z i off
theorem repD_but {E : Env} {ok : Oks} {w : World} {b : Nat} (hb : Bytes ok w b) {d : D} (hd : Keeps d) {u : Value} (r : RepD E ok w d u) : RepD E (okBut ok b) w d u := by
  rcases hd with ⟨x, rfl, hx⟩ | ⟨gs, rfl⟩ | ⟨j, rfl⟩ | ⟨j, z, i, off, rfl⟩
  · cases r; rename_i h; exact .v _ _ (h.plain hx)
  · cases r; rename_i h; exact .v _ _ (rep_recs_but hb h)
  · cases r; exact .own j
  · cases r; rename_i b' h1 h2; exact .rptr j z i off b' h1 h2
theorem weak_thaw (S : St) (id : Nat) (bs : List UInt8) (l : List V) (sl : List (Nat × D)) (hl : l = bytesV bs) (h : look S.ob id = some (.row 1 l false)) (hs : slOk S sl) (hk : ∀ p ∈ sl, Keeps p.2) : Weak S { n := S.n, sl := sl, ob := [(id, .row 1 l true)] } := fun G E ok a w c => by
  have one : ∀ (j : Nat) (o : AObj), look [(id, AObj.row 1 l true)] j = some o → j = id ∧ o = .row 1 l true := by
    intro j o h
    simp only [look] at h
    split at h
    · rename_i e; exact ⟨e.symm, by simpa using h.symm⟩
    · cases h
  have inK : ∀ t d, look sl t = some d → Keeps d := by
    clear hs
    induction sl with
    | nil => intro t d h; simp [look] at h
    | cons p r ih =>
      intro t d h
      simp only [look] at h
      split at h
      · cases h; exact hk _ (by simp)
      · exact ih (fun q hq => hk q (List.mem_cons_of_mem _ hq)) t d h
  have row := c.obj _ _ h
  have reg := fun b hb => c.regL h (by simp [AObj.isHeap]) (b := b) hb
  simp only [ObjRep, RowRep] at row
  rcases row with ⟨h0, h1, h2⟩ | ⟨b, cap, cs, e, h1, h2, h3, h4, h5, h6, h7, h8⟩
  · refine ⟨E, ok, { c with n := c.n, slot := fun t => ?_, obj := fun j o q => ?_, apart := fun i j o p b q1 q2 hne => ?_, reg := fun i o b q hb => ?_, hp := fun i gh pub q => ?_ }⟩
    · unfold St.get
      cases q : look sl t with
      | none => exact .any _
      | some d => rw [← slOk_mem hs t d q]; exact c.slot t
    · obtain ⟨rfl, rfl⟩ := one j o q
      exact .inl ⟨h0, h1, h2⟩
    · obtain ⟨rfl, _⟩ := one i o q1
      obtain ⟨rfl, _⟩ := one j p q2
      exact absurd rfl hne
    · obtain ⟨rfl, rfl⟩ := one i o q
      exact .inl (reg b hb)
    · obtain ⟨_, e⟩ := one i _ q; cases e
  · have hby : Bytes ok w b := fun o ho => by
      have ho := ((h8 o).1 ho).2
      simp only [Nat.mul_one] at ho
      have hf : (l[o]'ho).flat = [l[o]'ho] := by subst hl; simp [bytesV, V.flat]
      obtain ⟨u, q1, q2⟩ := h7.hr o ho 0 (by rw [hf]; simp)
      have hx : ∃ n, (l[o]'ho).flat[0]'(by rw [hf]; simp) = .int .u8 n := by subst hl; simp [bytesV, V.flat]
      obtain ⟨n, hn⟩ := hx
      rw [hn] at q2
      have hu : u = .int .u8 n := by cases q2; rfl
      refine ⟨n, ?_⟩
      rw [← hu, ← q1]; simp
    have hlt : ∀ o, ¬ G.ok0 b o := fun o ho => by have := G.lt b o ho; have := reg b h1; omega
    refine ⟨E, okBut ok b, { c with n := c.n, slot := fun t => ?_, obj := fun j o q => ?_, apart := fun i j o p b q1 q2 hne => ?_, reg := fun i o b q hb => ?_, hp := fun i gh pub q => ?_, okb := fun b' o q => c.okb b' o q.1, sub := fun b' o q => ⟨c.sub b' o q, fun e => hlt o (e ▸ q)⟩, env := ⟨c.env.next, c.env.blk, c.env.cap⟩, envq := fun q => ⟨(c.envq q).next, (c.envq q).blk, (c.envq q).cap⟩, newk := fun b' o q => c.newk b' o q.1 }⟩
    · unfold St.get
      cases q : look sl t with
      | none => exact .any _
      | some d =>
        have := c.slot t
        rw [slOk_mem hs t d q] at this
        exact repD_but hby (inK t d q) this
    · obtain ⟨rfl, rfl⟩ := one j o q
      refine .inr ⟨b, cap, cs, e, h1, h2, h3, h4, h5, h6, ⟨h7.hz, h7.hcell, fun i hi j hj => ?_⟩, fun o => ⟨fun q => absurd rfl q.2, fun q => by cases q.1⟩⟩
      obtain ⟨u, q1, q2⟩ := h7.hr i hi j hj
      refine ⟨u, q1, q2.plain ?_⟩
      subst hl
      have : ∀ x : V, (∃ n, x = .int .u8 n) → ∀ hj : j < x.flat.length, (x.flat[j]'hj).plain = true := fun x hx hj => by
        obtain ⟨n, rfl⟩ := hx
        match j, hj with
        | 0, _ => rfl
      exact this _ (by simp [bytesV]) hj
    · obtain ⟨rfl, _⟩ := one i o q1
      obtain ⟨rfl, _⟩ := one j p q2
      exact absurd rfl hne
    · obtain ⟨rfl, rfl⟩ := one i o q
      exact .inl (reg b hb)
    · obtain ⟨_, e⟩ := one i _ q; cases e
end Go.Proofs.Ytinckcpmkocakaa.AM
