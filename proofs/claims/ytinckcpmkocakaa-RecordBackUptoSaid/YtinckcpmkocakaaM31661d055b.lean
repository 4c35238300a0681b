/-
  Contracts: the law RecordTurned.
-/
import Derived.Test.YtinckcpmkocakaaM30e7a5bc50
import Derived.Test.YtinckcpmkocakaaM217e681462
import Derived.Test.YtinckcpmkocakaaRows
import Derived.Deep.CondSized
set_option linter.unusedVariables false
set_option linter.unusedSimpArgs false
namespace Go.Proofs.Ytinckcpmkocakaa.AM
open Go Go.RowKit
set_option maxRecDepth 100000
set_option maxHeartbeats 4000000

theorem inB_of {l : List V} {b : List UInt8} {i : Int} {j : Nat} (hl : l = bytesV b) (hi : i = j) (hj : j < b.length) : 0 ≤ i ∧ i < l.length := by
  rw [hl, hi, bytesV_len]; omega
theorem xor_zero {a b : Nat} (h : a ^^^ b = a) : b = 0 := by
  have : a ^^^ (a ^^^ b) = a ^^^ a := by rw [h]
  rwa [← Nat.xor_assoc, Nat.xor_self, Nat.zero_xor] at this
theorem nGtF' {A : Prim} {P : Program} {R : List (Nat × AObj) → List D → Prop} (hA : A = std P R) {n : Int} {m : Nat} (hn : n = m) (h : A.ilt n 2 = false) : 2 ≤ m := by
  have := ltF hA h; rw [hn] at this; omega
theorem c15 (gs : List RecM) (l : List V) (v y : Int) (m z : Nat) (hl : l = recsV gs) (hv : v = m) (hm : m < 65536) (hy : y = z) (hz : z < 256) (ho : ∀ a ∈ gs, RecOk a) : CallR Try.prog 15 [.slice l, .int .u16 v, .int .u8 y] fun rs => rs = [.v (.bool true)] := by
  refine .of _ rfl ?_
  refine FnR.of' T_ok M_ok (fn := Try.f15) (by kernel_rfl) rfl rfl rfl rfl (Nat.le_of_ble_eq_true rfl) fun A hA => ?_
  cbv
  refine condI hA (fun h1 => ?_) (fun h1 => ?_)
  · cbv
    refine callI hA (cAwake) ?_
    intro rs_ h_
    subst h_
    cbv
    refine retI hA ?_
    simp only [retOk, rsOk, retIds, idsD, idsDs, softOb, toV, toVs, List.append_nil, List.nil_append, Option.some.injEq, V.int.injEq, V.bool.injEq, V.slice.injEq, V.agg.injEq, V.str.injEq, true_and, and_true, hA, std]
  · have h12 : gs.length ≤ 12 := by have := nGtF hA (c := 12) rfl (lenR hA hl) h1; omega
    cbv
    refine condI hA (fun h2 => ?_) (fun h2 => ?_)
    · cbv
      refine callI hA (cAwake) ?_
      intro rs_ h_
      subst h_
      cbv
      refine retI hA ?_
      simp only [retOk, rsOk, retIds, idsD, idsDs, softOb, toV, toVs, List.append_nil, List.nil_append, Option.some.injEq, V.int.injEq, V.bool.injEq, V.slice.injEq, V.agg.injEq, V.str.injEq, true_and, and_true, hA, std]
    · have hz0 : z ≠ 0 := fun e => by have := eqF hA h2; rw [hy, e] at this; exact this rfl
      cbv
      refine loopF hA (ι := Int) (fun i => { n := 93, sl := [(0, .v (.slice l)), (1, .v (.int .u16 v)), (2, .v (.int .u8 y)), (7, .v (.int .i64 i))], ob := [] })
        (fun i => ∃ j : Nat, i = j ∧ j ≤ gs.length) (fun i => gs.length - i.toNat) 0 (weakI rfl ⟨rfl, rfl, rfl, rfl, trivial⟩ trivial) ⟨0, rfl, Nat.zero_le _⟩ ?_
      rintro i ⟨j, hi, hj⟩
      cbv
      refine condI hA (fun hc => ?_) (fun hc => ?_)
      · have hjl := ltRs hA (natEq hi) hl hc
        cbv
        refine getRN hA hl (natEq hi) hjl ?_
        rintro x0 p0 hx0 hp0
        cbv
        refine condI hA (fun hz => ?_) (fun hz => ?_)
        · cbv
          refine callI hA (cAwake) ?_
          intro rs_ h_
          subst h_
          cbv
          refine retI hA ?_
          simp only [retOk, rsOk, retIds, idsD, idsDs, softOb, toV, toVs, List.append_nil, List.nil_append, Option.some.injEq, V.int.injEq, V.bool.injEq, V.slice.injEq, V.agg.injEq, V.str.injEq, true_and, and_true, hA, std]
        · exact ⟨_, weakI rfl ⟨rfl, rfl, rfl, rfl, trivial⟩ trivial, ⟨j + 1, upI hA (natEq hi) (by omega), hjl⟩, upM hA (natEq hi) hjl (by omega)⟩
      · cbv
        refine callI hA (cLaid gs l hl (by omega) ho) ?_
        intro rs_ h_
        obtain ⟨ob, kb, q_1, hob, hkb⟩ := h_
        subst q_1
        cbv
        clear hi hj hc
        obtain ⟨ks, hks⟩ : ∃ ks, ks = kept gs := ⟨_, rfl⟩
        have hkg : ∀ a ∈ ks, Good a := hks ▸ kept_good ho
        have hkl : ks.length ≤ 12 := by have := kept_len gs; rw [hks]; omega
        rw [← hks] at hob hkb
        obtain ⟨B, hB⟩ : ∃ B, B = framesB 0 ks := ⟨_, rfl⟩
        have hBl := framesB_len ks 0 hkg
        rw [← hB] at hob hBl
        refine condI hA (fun h0 => ?_) (fun h0 => ?_)
        · have h0 : B.length = 0 := eqN hA (n := 0) (lenI hA hob) rfl h0
          have hk0 : ks.length = 0 := by
            match ks, hB with
            | [], _ => rfl
            | a :: r, hB => rw [hB] at h0; simp only [framesB, List.length_append, frameL_len] at h0; omega
          cbv
          refine condT hA (ieqT hA (a := A.lenL kb) (b := 0) (by rw [lenR hA hkb, hk0]; rfl)) ?_
          cbv
          refine callI hA (cAwake) ?_
          intro rs_ h_
          subst h_
          cbv
          refine retI hA ?_
          simp only [retOk, rsOk, retIds, idsD, idsDs, softOb, toV, toVs, List.append_nil, List.nil_append, Option.some.injEq, V.int.injEq, V.bool.injEq, V.slice.injEq, V.agg.injEq, V.str.injEq, true_and, and_true, hA, std]
        · have h0 : B.length ≠ 0 := fun e => eqF hA h0 ((lenI hA hob).trans (by rw [e]; rfl))
          cbv
          obtain ⟨n, hn⟩ : ∃ n, n = m % B.length := ⟨_, rfl⟩
          have hnB : n < B.length := by have := Nat.mod_lt m (show 0 < B.length by omega); omega
          refine nzI hA (nzN (lenI hA hob) h0) ?_
          cbv
          have hat : A.tmod (A.wrap .i64 v) (A.lenL ob) = ((n : Nat) : Int) := by
            rw [lenI hA hob, wI hA hv (by omega), hA, hn]; rfl
          refine sizedI hA (bytesV_flat hob) ?_
          cbv
          refine subLN hA (sub_of (a := 0) rfl hat hob (by omega) (by omega)) ?_
          rintro q1 hq1
          have hq1 := cutTo hat hob hq1
          cbv
          refine callI hA (cScan _ q1 hq1 (by rw [List.length_take]; omega)) ?_
          intro rs_ h_
          obtain ⟨r1, e1, q_1, hr1, he1⟩ := h_
          subst q_1
          cbv
          obtain ⟨k, k1, k2, k3, k4⟩ := scan_part ks 0 n hkg (by rw [← hB]; omega)
          rw [← hB] at k2 k4
          rw [k2] at hr1 he1
          obtain ⟨k5, k6⟩ := k4 hnB
          dsimp only at hr1 he1
          have hsub := subI hA hat he1 k3 (by omega)
          refine condI hA (fun h2 => ?_) (fun h2 => ?_)
          · cbv
            refine callI hA (cAwake) ?_
            intro rs_ h_
            subst h_
            cbv
            refine retI hA ?_
            simp only [retOk, rsOk, retIds, idsD, idsDs, softOb, toV, toVs, List.append_nil, List.nil_append, Option.some.injEq, V.int.injEq, V.bool.injEq, V.slice.injEq, V.agg.injEq, V.str.injEq, true_and, and_true, hA, std]
          · have h2 : 2 ≤ n - (framesB 0 (ks.take k)).length := by have := nGtF' hA hsub h2; omega
            cbv
            refine inRI hA (inB_of hob hat hnB) ?_
            cbv
            refine getBN hA hob hat hnB ?_
            rintro c hc
            cbv
            refine inRI hA (inB_of hob hat hnB) ?_
            cbv
            refine weakA hA _ (weak_thaw _ 1312 B ob [(8, .own 1312), (9, .v (.slice kb)), (12, .v (.int .i64 e1)), (73, .v (.int .u8 (A.bits .xor .u8 c y))), (74, .rptr 1312 1 (A.tmod (A.wrap .i64 v) (A.lenL ob)) 0)] hob rfl ⟨rfl, rfl, rfl, rfl, rfl, trivial⟩ ?_) ?_
            · intro p hp
              simp only [List.mem_cons, List.not_mem_nil, or_false] at hp
              rcases hp with rfl | rfl | rfl | rfl | rfl
              · exact .inr (.inr (.inl ⟨_, rfl⟩))
              · exact .inr (.inl ⟨ks, by rw [hkb]⟩)
              · exact .inl ⟨_, rfl, rfl⟩
              · exact .inl ⟨_, rfl, rfl⟩
              · exact .inr (.inr (.inr ⟨_, _, _, _, rfl⟩))
            cbv
            refine inRI hA (inB_of hob hat hnB) ?_
            cbv
            have hx : A.bits .xor .u8 c y = ((UInt8.ofNat ((B[n]'hnB).toNat ^^^ z)).toNat : Nat) := by
              rw [hA, natEq hc, hy]; simp only [std]
              rw [bits_xor_u8_nat _ _ (B[n]'hnB).toNat_lt hz]
              exact congrArg Nat.cast (xor_byte _ _ hz)
            have hset : A.setL ob (A.tmod (A.wrap .i64 v) (A.lenL ob)) (.int .u8 (A.bits .xor .u8 c y)) = bytesV (B.set n (UInt8.ofNat ((B[n]'hnB).toNat ^^^ z))) := by
              rw [hx, hat, hob, hA]; simp only [std, Int.toNat_natCast]; exact bytesV_set _ _ _
            refine callI hA (cScan _ _ hset (by rw [List.length_set]; omega)) ?_
            intro rs_ h_
            obtain ⟨r2, e2, q_1, hr2, he2⟩ := h_
            subst q_1
            cbv
            have hne : UInt8.ofNat ((B[n]'hnB).toNat ^^^ z) ≠ B[n]'hnB := fun e => by
              have q := congrArg UInt8.toNat e
              rw [← xor_byte _ _ hz] at q
              exact hz0 (xor_zero q)
            have ht := scan_turned hkg (by rw [← hB]; exact hnB) k5 k3 k6 h2 (c := UInt8.ofNat ((B[n]'hnB).toNat ^^^ z)) (fun e => hne (e.trans (by
              have : ∀ X : List UInt8, X = B → ∀ h : n < X.length, X[n] = B[n]'hnB := fun X hX h => by subst hX; rfl
              exact this _ hB.symm _)))
            rw [← hB] at ht
            rw [ht] at hr2 he2
            dsimp only at hr2 he2
            refine condT hA (ieqT hA (he2.trans he1.symm)) ?_
            cbv
            refine condT hA (ltY hA (lenR hA hr2) (lenR hA hkb) (by rw [List.length_take]; omega)) ?_
            cbv
            refine callI hA (cAwake) ?_
            intro rs_ h_
            subst h_
            cbv
            refine retI hA ?_
            simp only [retOk, rsOk, retIds, idsD, idsDs, softOb, toV, toVs, List.append_nil, List.nil_append, Option.some.injEq, V.int.injEq, V.bool.injEq, V.slice.injEq, V.agg.injEq, V.str.injEq, true_and, and_true, hA, std]
end Go.Proofs.Ytinckcpmkocakaa.AM

/-
  Contracts: the law RecordBack.
-/
set_option linter.unusedVariables false
set_option linter.unusedSimpArgs false
namespace Go.Proofs.Ytinckcpmkocakaa.AM
open Go Go.RowKit
set_option maxRecDepth 100000
set_option maxHeartbeats 4000000

theorem good_getE {b : List UInt8} (h : getE b = 0) : getOk b := by
  by_cases q : getOk b
  · exact q
  · rw [(get_bad q).2] at h; cases h
theorem leY {A : Prim} {P : Program} {R : List (Nat × AObj) → List D → Prop} (hA : A = std P R) {a b : Int} {m n : Nat} (ha : a = m) (hb : b = n) (h : m ≤ n) : A.ile a b = true := by
  subst hA ha hb; simp only [std]; exact decide_eq_true (by omega)
theorem ieqN {A : Prim} {P : Program} {R : List (Nat × AObj) → List D → Prop} (hA : A = std P R) {a b : Int} (h : a ≠ b) : A.ieq a b = false := by subst hA; simpa [std] using h
theorem c13 (a : RecM) (la : List V) (b : List UInt8) (l : List V) (ha : la = strsV a.path) (hr : RecOk a) (hl : l = bytesV b) (hb : b.length ≤ 4000000000) : CallR Try.prog 13 [.agg [.int .u8 a.k, .slice la, .int .i64 a.sz, .int .u32 a.sm, .int .i64 a.mi, .int .i64 a.mo, .int .u32 a.si, .int .u32 a.so], .slice l] fun rs => rs = [.v (.bool true)] := by
  refine .of _ rfl ?_
  obtain ⟨a0, hae⟩ : ∃ a0, a0 = a := ⟨_, rfl⟩
  rw [← hae] at hr
  obtain ⟨k, p, sz, sm, mi, mo, si, so⟩ := a
  dsimp only at ha
  refine FnR.of' T_ok M_ok (fn := Try.f13) (by kernel_rfl) rfl rfl rfl rfl (Nat.le_of_ble_eq_true rfl) fun A hA => ?_
  cbv
  refine callI hA (cGet b l hl hb) ?_
  intro rs_ h_
  obtain ⟨g, lp, e1, q_1, hg, hlp, he1⟩ := h_
  subst q_1
  cbv
  refine condI hA (fun h1 => ?_) (fun h1 => ?_)
  · have h1 := eqT hA h1
    have hok := good_getE (he1.symm.trans h1)
    have hgr : g = recOf (unpackL b) := hg.trans (get_good hok).1
    have hro : RecOk g := hgr ▸ recOf_ok hb hok.2.2.1
    cbv
    refine callI hA (cPut g lp hlp hro) ?_
    intro rs_ h_
    obtain ⟨pb, e2, q_1, hpb, he2⟩ := h_
    subst q_1
    cbv
    refine condF hA (ine_no hA (he2.trans (by rw [hgr]; exact hok.2.2.2.2.1))) ?_
    cbv
    refine b2sN hA hpb ?_
    rintro s1 hs1
    cbv
    refine b2sN hA hl ?_
    rintro s2 hs2
    cbv
    refine condF hA (sneN hA hs1 hs2 (by rw [hgr]; exact hok.2.2.2.2.2)) ?_
    cbv
    refine condI hA (fun h40 => ?_) (fun h40 => ?_)
    · cbv
      refine callI hA (cAwake) ?_
      intro rs_ h_
      subst h_
      cbv
      refine retI hA ?_
      simp only [retOk, rsOk, retIds, idsD, idsDs, softOb, toV, toVs, List.append_nil, List.nil_append, Option.some.injEq, V.int.injEq, V.bool.injEq, V.slice.injEq, V.agg.injEq, V.str.injEq, true_and, and_true, hA, std]
    · cbv
      refine callI hA (cPut ⟨k, p, sz, sm, mi, mo, si, so⟩ la ha (hae ▸ hr)) ?_
      intro rs_ h_
      obtain ⟨p1, f1, q_1, hp1, hf1⟩ := h_
      subst q_1
      cbv
      rw [← hae] at hp1 hf1
      refine callI hA (cGet _ p1 hp1 (by have := putB_small hr; omega)) ?_
      intro rs_ h_
      obtain ⟨g2, l2, f2, q_1, hg2, hl2, hf2⟩ := h_
      subst q_1
      cbv
      cases hck : checkM a0 with
      | true =>
        have q := get_of_put hr hck
        have hf1 : f1 = 0 := hf1.trans (by simp [putE, hck])
        refine condT hA (ieqT hA hf1) ?_
        cbv
        refine condT hA (ieqT hA (hf2.trans q.2)) ?_
        cbv
        have hg2a : g2 = a0 := hg2.trans q.1
        refine callI hA (cSameR g2 ⟨k, p, sz, sm, mi, mo, si, so⟩ l2 la hl2 ha (by rw [hg2a]; exact hr.pl)) ?_
        intro rs_ h_
        obtain ⟨c1, q_1, hc1⟩ := h_
        subst q_1
        cbv
        refine condT hA (hc1.trans (by rw [hg2a, hae]; exact sameM_self _)) ?_
        cbv
        refine condT hA (leY hA (a := A.lenL p1) (b := 1024) (m := (putB a0).length) (n := 1024) (lenI hA hp1) rfl (putB_small hr)) ?_
        cbv
        refine callI hA (cAwake) ?_
        intro rs_ h_
        subst h_
        cbv
        refine retI hA ?_
        simp only [retOk, rsOk, retIds, idsD, idsDs, softOb, toV, toVs, List.append_nil, List.nil_append, Option.some.injEq, V.int.injEq, V.bool.injEq, V.slice.injEq, V.agg.injEq, V.str.injEq, true_and, and_true, hA, std]
      | false =>
        have hf1 : f1 = 2 := hf1.trans (by simp [putE, hck])
        have hp0 : putB a0 = [] := by simp [putB, hck]
        refine condF hA (ieqN hA (a := f1) (b := 0) (by rw [hf1]; decide)) ?_
        cbv
        refine condT hA (ieqT hA hf1) ?_
        cbv
        refine condT hA (ieqT hA (a := A.lenL p1) (b := 0) (by rw [lenI hA hp1, hp0]; rfl)) ?_
        cbv
        refine callI hA (cAwake) ?_
        intro rs_ h_
        subst h_
        cbv
        refine retI hA ?_
        simp only [retOk, rsOk, retIds, idsD, idsDs, softOb, toV, toVs, List.append_nil, List.nil_append, Option.some.injEq, V.int.injEq, V.bool.injEq, V.slice.injEq, V.agg.injEq, V.str.injEq, true_and, and_true, hA, std]
  · cbv
    refine condI hA (fun h40 => ?_) (fun h40 => ?_)
    · cbv
      refine callI hA (cAwake) ?_
      intro rs_ h_
      subst h_
      cbv
      refine retI hA ?_
      simp only [retOk, rsOk, retIds, idsD, idsDs, softOb, toV, toVs, List.append_nil, List.nil_append, Option.some.injEq, V.int.injEq, V.bool.injEq, V.slice.injEq, V.agg.injEq, V.str.injEq, true_and, and_true, hA, std]
    · cbv
      refine callI hA (cPut ⟨k, p, sz, sm, mi, mo, si, so⟩ la ha (hae ▸ hr)) ?_
      intro rs_ h_
      obtain ⟨p1, f1, q_1, hp1, hf1⟩ := h_
      subst q_1
      cbv
      rw [← hae] at hp1 hf1
      refine callI hA (cGet _ p1 hp1 (by have := putB_small hr; omega)) ?_
      intro rs_ h_
      obtain ⟨g2, l2, f2, q_1, hg2, hl2, hf2⟩ := h_
      subst q_1
      cbv
      cases hck : checkM a0 with
      | true =>
        have q := get_of_put hr hck
        have hf1 : f1 = 0 := hf1.trans (by simp [putE, hck])
        refine condT hA (ieqT hA hf1) ?_
        cbv
        refine condT hA (ieqT hA (hf2.trans q.2)) ?_
        cbv
        have hg2a : g2 = a0 := hg2.trans q.1
        refine callI hA (cSameR g2 ⟨k, p, sz, sm, mi, mo, si, so⟩ l2 la hl2 ha (by rw [hg2a]; exact hr.pl)) ?_
        intro rs_ h_
        obtain ⟨c1, q_1, hc1⟩ := h_
        subst q_1
        cbv
        refine condT hA (hc1.trans (by rw [hg2a, hae]; exact sameM_self _)) ?_
        cbv
        refine condT hA (leY hA (a := A.lenL p1) (b := 1024) (m := (putB a0).length) (n := 1024) (lenI hA hp1) rfl (putB_small hr)) ?_
        cbv
        refine callI hA (cAwake) ?_
        intro rs_ h_
        subst h_
        cbv
        refine retI hA ?_
        simp only [retOk, rsOk, retIds, idsD, idsDs, softOb, toV, toVs, List.append_nil, List.nil_append, Option.some.injEq, V.int.injEq, V.bool.injEq, V.slice.injEq, V.agg.injEq, V.str.injEq, true_and, and_true, hA, std]
      | false =>
        have hf1 : f1 = 2 := hf1.trans (by simp [putE, hck])
        have hp0 : putB a0 = [] := by simp [putB, hck]
        refine condF hA (ieqN hA (a := f1) (b := 0) (by rw [hf1]; decide)) ?_
        cbv
        refine condT hA (ieqT hA hf1) ?_
        cbv
        refine condT hA (ieqT hA (a := A.lenL p1) (b := 0) (by rw [lenI hA hp1, hp0]; rfl)) ?_
        cbv
        refine callI hA (cAwake) ?_
        intro rs_ h_
        subst h_
        cbv
        refine retI hA ?_
        simp only [retOk, rsOk, retIds, idsD, idsDs, softOb, toV, toVs, List.append_nil, List.nil_append, Option.some.injEq, V.int.injEq, V.bool.injEq, V.slice.injEq, V.agg.injEq, V.str.injEq, true_and, and_true, hA, std]
end Go.Proofs.Ytinckcpmkocakaa.AM

/-
  What the bound of a statement of the second form gives.
-/
set_option linter.unusedVariables false
set_option linter.unusedSimpArgs false
namespace Go.Proofs.Ytinckcpmkocakaa.AM
open Go Go.RowKit
set_option maxRecDepth 100000
set_option maxHeartbeats 4000000

section
variable {H : Type} {P : Program} {C : Nat}
/-- What a sizing tells is at most so many times the bulk. -/
def okT (P : Program) (C t : Nat) : Bool := Nat.ble (2 * P.bytesOf t + 1) C && match P.underlying t with
  | some (.pointer e) => Nat.blt e P.types.size
  | some (.slice e) => Nat.blt e P.types.size
  | some (.array _ e) => Nat.blt e P.types.size
  | some (.map k e) => Nat.blt k P.types.size && Nat.blt e P.types.size
  | some (.struct fs) => fs.toList.all fun f => Nat.blt f.type P.types.size
  | _ => true
structure WB (P : Program) (C : Nat) : Prop where
  one : 1 ≤ C
  all : ∀ t, t < P.types.size → okT P C t = true
theorem WB.le {P : Program} {C t : Nat} (h : WB P C) (ht : t < P.types.size) : 2 * P.bytesOf t + 1 ≤ C := by
  have := h.all t ht
  unfold okT at this
  rw [Bool.and_eq_true] at this
  exact Nat.le_of_ble_eq_true this.1
theorem bltU {a b : Nat} (h : Nat.blt a b = true) : a < b := Nat.le_of_ble_eq_true h
theorem WB.ptr {P : Program} {C t e : Nat} (h : WB P C) (ht : t < P.types.size) (hu : P.underlying t = some (.pointer e)) : e < P.types.size := by
  have := h.all t ht
  unfold okT at this
  rw [Bool.and_eq_true, hu] at this
  exact bltU this.2
theorem WB.sl {P : Program} {C t e : Nat} (h : WB P C) (ht : t < P.types.size) (hu : P.underlying t = some (.slice e)) : e < P.types.size := by
  have := h.all t ht
  unfold okT at this
  rw [Bool.and_eq_true, hu] at this
  exact bltU this.2
theorem WB.ar {P : Program} {C t e n : Nat} (h : WB P C) (ht : t < P.types.size) (hu : P.underlying t = some (.array n e)) : e < P.types.size := by
  have := h.all t ht
  unfold okT at this
  rw [Bool.and_eq_true, hu] at this
  exact bltU this.2
theorem WB.mp {P : Program} {C t e k : Nat} (h : WB P C) (ht : t < P.types.size) (hu : P.underlying t = some (.map k e)) : k < P.types.size ∧ e < P.types.size := by
  have := h.all t ht
  unfold okT at this
  rw [Bool.and_eq_true, hu] at this
  exact ⟨bltU (Bool.and_eq_true _ _ ▸ this.2).1, bltU (Bool.and_eq_true _ _ ▸ this.2).2⟩
theorem WB.st {P : Program} {C t : Nat} {fs : Array Field} (h : WB P C) (ht : t < P.types.size) (hu : P.underlying t = some (.struct fs)) : ∀ e ∈ fs.toList.map (·.type), e < P.types.size := by
  have := h.all t ht
  unfold okT at this
  rw [Bool.and_eq_true, hu] at this
  intro e he
  obtain ⟨f, hf, rfl⟩ := List.mem_map.1 he
  exact bltU (List.all_eq_true.1 this.2 f hf)
mutual
theorem wb (hC : WB P C) : ∀ (t : Nat) (d : DataW H), t < P.types.size → ∀ n ∈ d.weights P t, n ≤ Rows.uptoBulk d * C
  | t, .lit l, ht, n, hn => by
    have := hC.one
    cases l <;> simp [DataW.weights] at hn
    subst hn
    simp only [Rows.uptoBulk]
    exact Nat.le_trans (Nat.le_succ _) (Nat.le_mul_of_pos_right _ (by omega))
  | t, .nil, ht, n, hn => by simp [DataW.weights] at hn
  | t, .ptr d, ht, n, hn => by
    unfold DataW.weights at hn
    split at hn
    · rename_i e hu
      exact Nat.le_trans (wb hC _ d (hC.ptr ht hu) n hn) (Nat.mul_le_mul_right _ (by simp [Rows.uptoBulk]))
    · cases hn
  | t, .slice elems spare, ht, n, hn => by
    unfold DataW.weights at hn
    split at hn
    · rename_i e hu
      have he := hC.sl ht hu
      have h1 := hC.le he
      simp only [Rows.uptoBulk]
      rcases List.mem_cons.1 hn with rfl | hn
      · have h2 := lenUB elems
        have h3 := lenUB spare
        exact Nat.mul_le_mul (by omega) (by omega)
      · rcases List.mem_append.1 hn with hn | hn
        · exact Nat.le_trans (wbAll hC e elems he n hn) (Nat.mul_le_mul_right _ (by omega))
        · exact Nat.le_trans (wbAll hC e spare he n hn) (Nat.mul_le_mul_right _ (by omega))
    · cases hn
  | t, .agg parts, ht, n, hn => by
    unfold DataW.weights at hn
    simp only [Rows.uptoBulk]
    split at hn
    · rename_i fs hu
      exact Nat.le_trans (wbEach hC _ parts (hC.st ht hu) n hn) (Nat.mul_le_mul_right _ (by omega))
    · rename_i e hu
      exact Nat.le_trans (wbAll hC _ parts (hC.ar ht hu) n hn) (Nat.mul_le_mul_right _ (by omega))
    · cases hn
  | t, .iface _ d, ht, n, hn => by simp [DataW.weights] at hn
  | t, .map entries, ht, n, hn => by
    unfold DataW.weights at hn
    split at hn
    · rename_i k e hu
      obtain ⟨hk, he⟩ := hC.mp ht hu
      have h1 := hC.le he
      have h4 := hC.le hk
      simp only [Rows.uptoBulk]
      rcases List.mem_cons.1 hn with rfl | hn
      · exact Nat.mul_le_mul (Nat.le_succ_of_le (lenUE entries)) (by omega)
      · exact Nat.le_trans (wbEntries hC e entries he n hn) (Nat.mul_le_mul_right _ (by omega))
    · cases hn
  | t, .held _, ht, n, hn => by simp [DataW.weights] at hn
theorem wbAll (hC : WB P C) : ∀ (e : Nat) (l : List (DataW H)), e < P.types.size → ∀ n ∈ DataW.weightsAll P e l, n ≤ Rows.uptoBulkAll l * C
  | e, [], ht, n, hn => by simp [DataW.weightsAll] at hn
  | e, d :: r, ht, n, hn => by
    simp only [DataW.weightsAll, List.mem_append] at hn
    simp only [Rows.uptoBulkAll]
    rcases hn with hn | hn
    · exact Nat.le_trans (wb hC e d ht n hn) (Nat.mul_le_mul_right _ (by omega))
    · exact Nat.le_trans (wbAll hC e r ht n hn) (Nat.mul_le_mul_right _ (by omega))
theorem wbEach (hC : WB P C) : ∀ (ts : List Nat) (l : List (DataW H)), (∀ t ∈ ts, t < P.types.size) → ∀ n ∈ DataW.weightsEach P ts l, n ≤ Rows.uptoBulkAll l * C
  | [], l, ht, n, hn => by simp [DataW.weightsEach] at hn
  | t :: ts, [], ht, n, hn => by simp [DataW.weightsEach] at hn
  | t :: ts, d :: r, ht, n, hn => by
    simp only [DataW.weightsEach, List.mem_append] at hn
    simp only [Rows.uptoBulkAll]
    rcases hn with hn | hn
    · exact Nat.le_trans (wb hC t d (ht t (by simp)) n hn) (Nat.mul_le_mul_right _ (by omega))
    · exact Nat.le_trans (wbEach hC ts r (fun t q => ht t (by simp [q])) n hn) (Nat.mul_le_mul_right _ (by omega))
theorem wbEntries (hC : WB P C) : ∀ (e : Nat) (l : List (Lit × DataW H)), e < P.types.size → ∀ n ∈ DataW.weightsEntries P e l, n ≤ Rows.uptoBulkEntries l * C
  | e, [], ht, n, hn => by simp [DataW.weightsEntries] at hn
  | e, x :: r, ht, n, hn => by
    simp only [DataW.weightsEntries, List.mem_append] at hn
    simp only [Rows.uptoBulkEntries]
    rcases hn with hn | hn
    · exact Nat.le_trans (wbEntry hC e x ht n hn) (Nat.mul_le_mul_right _ (by omega))
    · exact Nat.le_trans (wbEntries hC e r ht n hn) (Nat.mul_le_mul_right _ (by omega))
theorem wbEntry (hC : WB P C) : ∀ (e : Nat) (x : Lit × DataW H), e < P.types.size → ∀ n ∈ DataW.weightsEntry P e x, n ≤ Rows.uptoBulkEntry x * C
  | e, (k, d), ht, n, hn => by
    have := hC.one
    have h1 := wb hC e d ht
    have h2 : Rows.uptoBulk d * C ≤ Rows.uptoBulkEntry (k, d) * C := Nat.mul_le_mul_right _ (by cases k <;> simp [Rows.uptoBulkEntry] <;> omega)
    cases k with
    | string bytes =>
      simp only [DataW.weightsEntry, List.mem_cons] at hn
      rcases hn with rfl | hn
      · simp only [Rows.uptoBulkEntry]
        exact Nat.le_trans (by omega) (Nat.le_mul_of_pos_right (bytes.length + Rows.uptoBulk d + 1) (by omega))
      · exact Nat.le_trans (h1 n hn) h2
    | _ => exact Nat.le_trans (h1 n (by simpa [DataW.weightsEntry] using hn)) h2
theorem lenUB : ∀ (l : List (DataW H)), l.length ≤ Rows.uptoBulkAll l
  | [] => by simp
  | d :: r => by
    have h1 := lenUB r
    have h2 : 1 ≤ Rows.uptoBulk d := by
      cases d with
      | lit l => cases l <;> simp [Rows.uptoBulk]
      | _ => simp [Rows.uptoBulk]
    simp only [Rows.uptoBulkAll, List.length_cons]; omega
theorem lenUE : ∀ (l : List (Lit × DataW H)), l.length ≤ Rows.uptoBulkEntries l
  | [] => by simp
  | (k, d) :: r => by
    have h1 := lenUE r
    have h2 : 1 ≤ Rows.uptoBulkEntry (k, d) := by cases k <;> simp [Rows.uptoBulkEntry]
    simp only [Rows.uptoBulkEntries, List.length_cons]; omega
end
end
/-- So many bytes a string, or a slice's elements, have at the most, where a statement of the second form speaks. -/
theorem upto_le {H : Type} {P : Program} {C : Nat} (hC : WB P C) {ts : List Nat} {ds : List (DataW H)} (hts : ∀ t ∈ ts, t < P.types.size) (hk : Rows.uptoSmall H (ds ++ []) = true) : ∀ n ∈ DataW.weightsEach P ts ds, n ≤ 1048576 * C := by
  intro n hn
  rw [List.append_nil] at hk
  exact Nat.le_trans (wbEach hC ts ds hts n hn) (Nat.mul_le_mul_right _ (of_decide_eq_true hk))
theorem wb_of {P : Program} {C : Nat} (h : (List.range P.types.size).all (okT P C) = true) (h1 : 1 ≤ C) : WB P C :=
  ⟨h1, fun t ht => List.all_eq_true.1 h t (List.mem_range.2 ht)⟩
theorem tm_bytes {m k t u : Nat} {x : V} (e : (tyOf t).k = .slice u) (e2 : (tyOf u).k = .int .u8) (e3 : (tyOf u).bytes = 1) (h : TyM m (k + 2) t x) : ∃ b, x = .slice (bytesV b) ∧ b.length ≤ m := by
  unfold TyM at h; rw [e] at h
  obtain ⟨l, rfl, h1, h2⟩ := h
  obtain ⟨b, rfl⟩ := bytes_ex l fun y hy => by
    have h3 := h2 y hy
    unfold TyM at h3; rw [e2] at h3
    obtain ⟨n, q1, q2, q3⟩ := h3
    exact ⟨n, q1, q2, q3⟩
  rw [e3, bytesV_len] at h1
  exact ⟨b, rfl, by omega⟩
end Go.Proofs.Ytinckcpmkocakaa.AM

/-
  THE LAW RecordBack HOLDS, in its second form: a record laid is read as it was. The condition: the input's bulk is at most that of the statement.
-/
set_option linter.unusedVariables false
set_option linter.unusedSimpArgs false
namespace Go.Proofs.Ytinckcpmkocakaa.AM
open Go Go.RowKit Go.ChangeShapes Go.WideShapes Go.ChangeAt
set_option maxRecDepth 100000

theorem progOwn : ownKnob Try.prog.godebug = none := by kernel_rfl
theorem progLaid : laidOutB Try.prog = true := by kernel_rfl
theorem progWB : WB Try.prog 3500 := wb_of (by kernel_rfl) (by decide)
theorem argsRead : ([44, 22] : List Nat).all (fun t => Try.prog.readableRec t && Nat.blt t Try.prog.types.size) = true := by kernel_rfl
theorem recordBack_liftedUpto (os : Os) (started : os.Started) (H : Type) (enc : TypeId × Value → H) (F : Stop.Interp) :
    ReturnsInHanded {} Try.checked os 13 .any ((Rows.OpenSpec.upto Rows.recordBackSpec).pre6 enc Try.prog Try.f13 Rows.recordBackUptoRow.domain false) (((Rows.OpenSpec.upto Rows.recordBackSpec).at F).post enc Try.prog Try.f13 false true false false) := by
  refine returnsInHanded_of_cond_sized (C := Try.checked) (s := Rows.OpenSpec.upto Rows.recordBackSpec) (k := Rows.uptoSmall) rfl progOwn started (by kernel_rfl) Try.func13
    (OpenSpec.witness (enc := enc) (C := Try.checked) (s := Rows.OpenSpec.upto Rows.recordBackSpec) (k := Rows.uptoSmall) rfl false ⟨#[], #[.agg #[.int .u8 0, .slice none 0 0, .int .i64 0, .int .u32 0, .int .i64 0, .int .i64 0, .int .u32 0, .int .u32 0], .slice none 0 0], []⟩ 8 (by kernel_rfl) (by kernel_rfl) (by kernel_rfl)
      (x := ([.agg [.lit (.int .u8 0), .nil, .lit (.int .i64 0), .lit (.int .u32 0), .agg [.lit (.int .i64 0), .lit (.int .i64 0), .lit (.int .u32 0), .lit (.int .u32 0)]], .nil], [], [])) (by kernel_rfl) rfl (by kernel_rfl)) ?_
  intro W base args ds gs before hval hW hcnd hk _ _
  obtain rfl : gs = [] := by
    obtain ⟨p, q, hA, hV, _⟩ := hW
    exact (trodVars_none hV).1
  refine calls_rowM T_ok (s := Rows.recordBackSpec) (m := 1048576 * 3500) (ts := [44, 22]) (tb := 4) (k := 8) (by rw [Try.params13]) (by kernel_rfl) Try.underlying4 (by decide) (fun t ht => ?_) progLaid rfl (fun ds hds => ?_) (fun xs hx hty => ?_) hval hW (fun n hn => upto_le (ts := [44, 22]) progWB (fun t ht => by
    have e := List.all_eq_true.1 argsRead t (by simpa using ht)
    rw [Bool.and_eq_true] at e
    exact Nat.le_of_ble_eq_true e.2) hk n (by
    have e : n ∈ DataW.weightsEach Try.prog [44, 22] (ds ++ []) := hn
    simpa using e))
  · have e := List.all_eq_true.1 argsRead t (by simpa using ht)
    rw [Bool.and_eq_true] at e
    exact ⟨e.1, Nat.le_of_ble_eq_true e.2⟩
  · match ds, hds with
    | [d0, d1], _ => rfl
  · match xs, hx, hty with
    | [x0, x1], _, hty =>
      obtain ⟨r0, rfl, h0⟩ := tv_rec (k := 5) (TyM.up (by decide) _ _ _ (hty 0 (by simp) (by simp)))
      obtain ⟨b1, rfl, h1⟩ := tm_bytes (k := 6) rfl rfl rfl (hty 1 (by simp) (by simp))
      obtain ⟨rs, q1, rfl⟩ := c13 r0 _ b1 _ rfl h0 rfl (by omega)
      exact .of_R q1

/-- **RecordBack**, in its second form. -/
theorem recordBack_upto_holds : Rows.RecordBackUptoSaid :=
  OpenClaim.holds_of_cond 13 Try.f13 rfl rfl rfl rfl rfl rfl rfl ⟨rfl, rfl, rfl, rfl, rfl⟩ rfl rfl rfl rfl rfl (by kernel_rfl) Try.func13 (by kernel_rfl)
    (of_decide_eq_true (by kernel_rfl)) (by unfold Func.isWrapper; rw [if_neg (by decide +kernel)]; exact ⟨rfl, rfl⟩)
    (fun os started H enc _ F => recordBack_liftedUpto os started H enc F)
end Go.Proofs.Ytinckcpmkocakaa.AM
