/-
  Contracts: any record is added.
-/
import Derived.Test.YthioccbgjkbmdaaM25be051158
import Derived.Test.YthioccbgjkbmdaaRows
set_option linter.unusedVariables false
set_option linter.unusedSimpArgs false
namespace Go.Proofs.Ythioccbgjkbmdaa.AM
open Go Go.RowKit
set_option maxRecDepth 100000
set_option maxHeartbeats 4000000

theorem framesB_lim {gs : List RecM} (hg : ∀ a ∈ gs, Good a) (hl : gs.length ≤ 100) : (framesB 0 gs).length ≤ 103400 := by
  have := framesB_len gs 0 hg
  omega
/-- A journal and its disk, where nothing is told to fail: a journal's law goes on so. -/
structure JK (c : Nat) (gh : GH) (lab : Lab) (p : Nat) (B jp : Nat) (recs : List RecM) (k : Dk) (file : Int) : Prop where
  j : JD gh lab p k B jp file (recs.length : Nat)
  st : JSt 1048576 c k file recs
  calm : k.fail.is = false
  ops : w64 k.ops = k.ops
  good : ∀ a ∈ recs, Good a
/-- Add of any record, where nothing is told to fail. -/
theorem gAddK {c : Nat} (hcc : c ≤ 4000) {gh : GH} {lab : Lab} {p : Nat} {B jp : Nat} {recs : List RecM} {k : Dk} {file : Int} (h : JK c gh lab p B jp recs k file) (hB : B + 2000 ≤ 1000000000) (hrl : recs.length ≤ 99) (a : RecM) (l : List V) (ha : l = strsV a.path) (hr : RecOk a) :
    FnG Try.prog 11 [.gp jp 0, .agg [.int .u8 a.k, .slice l, .int .i64 a.sz, .int .u32 a.sm, .int .i64 a.mi, .int .i64 a.mo, .int .u32 a.si, .int .u32 a.so]] gh fun rs g => ∃ e : Int, rs = [.v (.int .i64 e)] ∧ (e = 0 ↔ checkM a = true) ∧ ∃ lab' k' file', Upd gh g lab lab' (fun _ => True) (fun x => x = jp) ∧ JK c g lab' p (B + 2000) jp (recs ++ kept [a]) k' file' := by
  have hpb := putB_small hr
  have hfl := framesB_lim h.good (by omega)
  cases hc : checkM a with
  | true =>
    have hk : kept [a] = [a] := by simp [kept, hc]
    obtain ⟨k', file', f1, f2, f3, f4⟩ := gAddC (C := 1048576) (by decide) h.j rfl hB h.st h.calm hcc a l ha hr hc (by omega) h.ops (by omega)
    rw [hk]
    refine f4.mono fun rs g ⟨e, q1, q2, lab', u, hJ⟩ => ⟨e, q1, ⟨fun _ => rfl, fun _ => q2⟩, lab', k', file', u, hJ, f2, f1, by rw [f3]; exact w64_w64 _, fun x hx => ?_⟩
    rcases List.mem_append.1 hx with q | q
    · exact h.good x q
    · rw [List.mem_singleton.1 q]; exact ⟨hr, hc⟩
  | false =>
    have hk : kept [a] = [] := by simp [kept, hc]
    have hi : I64 file := by
      rcases h.st.2 with ⟨q, _⟩ | ⟨j, q, r, q2⟩
      · rw [q]; exact i64_0
      · have := (List.getElem?_eq_some_iff.1 r.at_).1
        rw [q]; unfold I64; omega
    have q : ∀ n, k.addD file n a = (k, file, n, 2) := fun n => by unfold Dk.addD; rw [if_pos hc]
    rw [hk, List.append_nil]
    refine (gAdd h.j hB (by omega) hi a l ha hr).mono fun rs g ⟨e, q1, q2, q3⟩ => ?_
    rw [q] at q2 q3
    obtain ⟨lab', u, hJ⟩ := q3
    have q2 : e = 2 := q2
    exact ⟨e, q1, ⟨fun h0 => by rw [q2] at h0; (cases h0), fun h0 => nomatch h0⟩, lab', k, file, u, hJ, h.st, h.calm, h.ops, h.good⟩
/-- Open, where all is whole: the records, and a journal of its own. -/
theorem op_ops (k : Dk) (c : Bool) (i : Int) (f : Nd → Nd) (h : w64 k.ops = k.ops) : w64 (k.op c i f).ops = (k.op c i f).ops := by
  unfold Dk.op; split
  · split <;> exact w64_w64 _
  · exact h
theorem clear_ops (k : Dk) (file n : Int) (h : w64 k.ops = k.ops) : w64 (k.clearD file n).1.ops = (k.clearD file n).1.ops := by
  have hu : w64 (k.unlD 1 jName).1.ops = (k.unlD 1 jName).1.ops := by
    unfold Dk.unlD; split
    · exact h
    · split
      · split
        · exact h
        · exact op_ops _ _ _ _ h
      · exact h
  have hs : ∀ q : Dk, w64 q.ops = q.ops → w64 (q.syncD 1).1.ops = (q.syncD 1).1.ops := fun q hq => by
    unfold Dk.syncD; split
    · exact hq
    · exact op_ops _ _ _ _ hq
  unfold Dk.clearD
  split
  · exact h
  · dsimp only; split
    · exact hu
    · exact hs _ hu
theorem kept_next {gs : List RecM} {j : Nat} (h : j < gs.length) : kept (gs.take (j + 1)) = kept (gs.take j) ++ kept [gs[j]] := by
  rw [kept_take h]; unfold kept; simp [List.filter_cons]
theorem gOpenK {c : Nat} {gh : GH} {lab : Lab} {p B : Nat} {recs : List RecM} {k : Dk} {file : Int} (hD : DI gh lab p k B) (hS : JSt 1048576 c k file recs) (hf : k.fail.is = false) (ho : w64 k.ops = k.ops) (hg : ∀ a ∈ recs, Good a) (hB : B + 2 ≤ 1000000000) :
    FnG Try.prog 10 [.gp p 0] gh fun rs g => ∃ (jp : Nat) (l : List V) (e : Int), rs = [.v (.gp jp 0), .v (.slice l), .v (.int .i64 e)] ∧ e = 0 ∧ l = recsV recs ∧ gh.next ≤ jp ∧ ∃ lab', Upd gh g lab lab' (fun _ => True) (fun _ => False) ∧ JK c g lab' p (B + 2) jp recs k file :=
  (gOpen hD hB).mono fun rs g' ⟨x, l, e, q1, q2, lab', u, hD', hm⟩ => by
    rw [open_st hS hf hg] at q2 hD' hm
    obtain ⟨hl, jp, rfl, hj, hs⟩ := hm
    exact ⟨jp, l, e, q1, q2, hl, hj, lab', u, ⟨hD', hs⟩, hS, hf, ho, hg⟩
theorem st_new : JSt 1048576 3 (dkNew 1048576) 0 [] := ⟨⟨rfl, rfl, rfl⟩, .inl ⟨rfl, rfl, rfl, (by show 1 ≤ 3; omega)⟩⟩
/-- A journal of a new disk. -/
theorem gStart (gh : GH) : FnG Try.prog 9 [.int .i64 1048576] gh fun rs g => ∃ p : Nat, rs = [.v (.gp p 0)] ∧ FnG Try.prog 10 [.gp p 0] g fun rs g' => ∃ (jp : Nat) (l : List V) (e : Int), rs = [.v (.gp jp 0), .v (.slice l), .v (.int .i64 e)] ∧ e = 0 ∧ l = [] ∧ ∃ lab' k, JK 3 g' lab' p 2 jp [] k 0 :=
  (dNew gh 1048576 (by decide) (by decide)).mono fun rs g ⟨p, lab', q1, q2, q3, q4, q5⟩ => ⟨p, q1, (gOpenK (c := 3) q5 st_new rfl rfl (by simp) (by decide)).mono fun rs g' ⟨jp, l, e, r1, r2, r3, _, lab2, _, r4⟩ => ⟨jp, l, e, r1, r2, r3, lab2, _, r4⟩⟩
theorem gClears (gh : GH) (gs ms : List RecM) (l m : List V) (hl : l = recsV gs) (hm : m = recsV ms) (keep : Bs) (kl : List V) (hkl : kl = bytesV keep) (hkp : keep.length ≤ 140737488355328) (ho : ∀ a ∈ gs, RecOk a) (ho2 : ∀ a ∈ ms, RecOk a) : FnG Try.prog 5 [.slice l, .slice m, .slice kl] gh fun rs g => ∃ b : Bool, rs = [.v (.bool b)] ∧ b = true := by
  have aw : ∀ g : GH, FnG Try.prog 8 [] g fun rs g => ∃ b : Bool, rs = [.v (.bool b)] ∧ b = true := gAwake18
  refine FnG.of' T_ok M_ok [] (fn := Try.f5) (by kernel_rfl) rfl rfl rfl rfl (Nat.le_of_ble_eq_true rfl) fun A hA => ?_
  cbv
  refine condI hA (fun h1 => ?_) (fun h1 => ?_)
  · cbv
    refine callGI hA ((aw gh)) ?_
    intro rs_ g9 h_
    obtain ⟨b, q_1, hb⟩ := h_
    subst q_1
    cbv
    exact retGI hA rfl [.v (.bool b)] g9 ⟨b, rfl, hb⟩ (by first | exact ⟨rfl, trivial⟩ | trivial)
  · have h1 := zltF hA h1
    cbv
    refine condI hA (fun h2 => ?_) (fun h2 => ?_)
    · cbv
      refine callGI hA ((aw gh)) ?_
      intro rs_ g9 h_
      obtain ⟨b, q_1, hb⟩ := h_
      subst q_1
      cbv
      exact retGI hA rfl [.v (.bool b)] g9 ⟨b, rfl, hb⟩ (by first | exact ⟨rfl, trivial⟩ | trivial)
    · have h2 := zltF hA h2
      have hgl : gs.length ≤ 20 := by have h1 : ¬ (20 : Int) < A.lenL l := h1; rw [lenR hA hl] at h1; omega
      have hml : ms.length ≤ 20 := by have h2 : ¬ (20 : Int) < A.lenL m := h2; rw [lenR hA hm] at h2; omega
      cbv
      refine callGI hA ((gStart gh)) ?_
      intro rs_ g1 h_
      obtain ⟨p, q_1, hop⟩ := h_
      subst q_1
      cbv
      refine callGI hA (hop) ?_
      intro rs_ g2 h_
      obtain ⟨jp, l0, e0, q_1, he0, hl0, lab2, k2, hK⟩ := h_
      subst q_1
      cbv
      refine loopF hA (ι := Int × GH) (fun q => { n := 140, sl := [(0, .v (.slice l)), (1, .v (.slice m)), (2, .v (.slice kl)), (7, .v (.gp p 0)), (8, .v (.gp jp 0)), (11, .v (.int .i64 q.1))], ob := [(hk, .heap q.2 [])] })
        (fun q => ∃ (jx B : Nat) (lab : Lab) (k : Dk) (file : Int), q.1 = (jx : Nat) ∧ jx ≤ gs.length ∧ B ≤ 2 + 2000 * jx ∧ JK 3 q.2 lab p B jp (kept (gs.take jx)) k file) (fun q => gs.length - q.1.toNat) (_, _) (weakI rfl ⟨rfl, rfl, rfl, rfl, rfl, rfl, trivial⟩ ⟨rfl, trivial⟩) ⟨0, 2, lab2, k2, 0, rfl, Nat.zero_le _, Nat.le_refl _, hK⟩ ?_
      rintro ⟨i, g⟩ ⟨jx, B, lab, k, file, hi, hj, hB, hJ⟩
      dsimp only at hi hJ
      cbv
      refine condI hA (fun hc => ?_) (fun hc => ?_)
      · have hjl := ltRs hA (natEq hi) hl hc
        have hgj := ho _ (List.getElem_mem hjl)
        have hkt := kept_next hjl
        have hkl2 : (kept (gs.take jx)).length ≤ 99 := by have := kept_len (gs.take jx); rw [List.length_take] at this; omega
        have hB3 : B + 2000 ≤ 1000000000 ∧ B + 2000 ≤ 2 + 2000 * (jx + 1) := by omega
        cbv
        refine getRN hA hl (natEq hi) hjl ?_
        rintro r lp hr hlp
        cbv
        refine condI hA (fun h3 => ?_) (fun h3 => ?_)
        · cbv
          refine callGI hA ((aw g)) ?_
          intro rs_ g9 h_
          obtain ⟨b, q_1, hb⟩ := h_
          subst q_1
          cbv
          exact retGI hA rfl [.v (.bool b)] g9 ⟨b, rfl, hb⟩ (by first | exact ⟨rfl, trivial⟩ | trivial)
        · cbv
          refine getRN hA hl (natEq hi) hjl ?_
          rintro r2 lp2 hr2 hlp2
          have hadd := gAddK (by decide) hJ hB3.1 hkl2 r2 lp2 hlp2 (hr2 ▸ hgj)
          cbv
          refine callGI hA (hadd) ?_
          intro rs_ g3 h_
          obtain ⟨e, q_1, he, lab3, k3, file3, u3, hJ3⟩ := h_
          subst q_1
          cbv
          exact ⟨(_, g3), weakI rfl ⟨rfl, rfl, rfl, rfl, rfl, rfl, trivial⟩ ⟨rfl, trivial⟩, ⟨jx + 1, B + 2000, lab3, k3, file3, upI hA (natEq hi) (by omega), hjl, hB3.2, by rw [hkt, ← hr2]; exact hJ3⟩, upM hA (natEq hi) hjl (by omega)⟩
      · have hB3 : B + 2 ≤ 1000000000 := by omega
        have hB4 : B + 2 + 2 ≤ 1000000000 := by omega
        have hB5 : B + 2 + 2 ≤ 60000 := by omega
        have hcl := gClear hJ.j hB3
        have hcs := clear_step hJ.st hJ.calm
        have hcw := clear_ops k file (kept (gs.take jx)).length hJ.ops
        cbv
        refine callGI hA (hcl) ?_
        intro rs_ g3 h_
        obtain ⟨e, q_1, he, lab3, u3, hJ3⟩ := h_
        subst q_1
        cbv
        refine condI hA (fun h4 => ?_) (fun h4 => ?_)
        · exact absurd (he.trans hcs.1) (zneT hA h4)
        · have S4 : JK 4 g3 lab3 p (B + 2) jp [] _ 0 := ⟨⟨hJ3.d, by have := hJ3.j; rw [hcs.2.2.1, hcs.2.2.2.1] at this; exact this⟩, hcs.2.2.2.2, hcs.2.1, hcw, by simp⟩
          have hlen := gLen S4.j
          have hth := gThere S4.j
          cbv
          refine callGI hA (hlen) ?_
          intro rs_ g_ h_
          obtain ⟨m0, q_1, hm0, q_2⟩ := h_
          subst q_1
          subst q_2
          cbv
          refine condF hA (zne_f hA (hm0.trans rfl)) ?_
          cbv
          refine callGI hA (hth) ?_
          intro rs_ g_ h_
          obtain ⟨b0, q_1, hb0, q_2⟩ := h_
          subst q_1
          subst q_2
          cbv
          obtain rfl : b0 = false := Bool.eq_false_iff.2 fun q => hb0.1 q rfl
          obtain ⟨hr4, hl4⟩ : _ ∧ _ := by
            rcases S4.st.2 with ⟨_, _, q1, q2⟩ | ⟨j, q, _⟩
            · exact And.intro q1 q2
            · omega
          obtain ⟨C1, C2, C3, C4⟩ := crash_none S4.st.1 hr4 keep
          have hcr := dCrash S4.j.d hB3 keep kl hkl hkp
          refine condF hA rfl ?_
          cbv
          refine callGI hA (hcr) ?_
          intro rs_ g5 h_
          obtain ⟨q_1, lab5, u5, hD5⟩ := h_
          subst q_1
          cbv
          have hfi := dFind hD5 1 i64_1 jName
          have hop5 := gOpenK (c := 4) (recs := []) (file := 0) hD5 ⟨C1, .inl ⟨rfl, rfl, C3, by rw [C4]; exact hl4⟩⟩ C2 S4.ops (by simp) hB4
          have hnone : ((Dk.clearD k file ((kept (gs.take jx)).length : Nat)).1.crash keep).findE 1 jName = (0, 8) := find0 C1.up C3
          refine callGI hA (hfi) ?_
          intro rs_ g_ h_
          obtain ⟨fi, fe, q_1, _, hfe, q_2⟩ := h_
          subst q_1
          subst q_2
          cbv
          have hfe : fe = 8 := by rw [hfe, hnone]
          refine callGI hA (hop5) ?_
          intro rs_ g6 h_
          obtain ⟨jp6, l6, e6, q_1, he6, hl6, _, lab6, u6, hK6⟩ := h_
          subst q_1
          cbv
          refine condF hA (zne_f hA he6) ?_
          cbv
          refine condF hA (zne_f hA hfe) ?_
          cbv
          refine condF hA (zne_f hA ((lenR hA hl6).trans rfl)) ?_
          cbv
          refine loopF hA (ι := Int × Int × GH) (fun q => { n := 140, sl := [(1, .v (.slice m)), (7, .v (.gp p 0)), (8, .v (.gp jp6 0)), (16, .v (.int .i64 q.2.1)), (17, .v (.int .i64 q.1))], ob := [(hk, .heap q.2.2 [])] })
            (fun q => ∃ (jx B : Nat) (lab : Lab) (k : Dk) (file : Int), q.1 = (jx : Nat) ∧ q.2.1 = ((kept (ms.take jx)).length : Nat) ∧ jx ≤ ms.length ∧ B ≤ 60000 + 2000 * jx ∧ JK 4 q.2.2 lab p B jp6 (kept (ms.take jx)) k file) (fun q => ms.length - q.1.toNat) (_, _, _) (weakI rfl ⟨rfl, rfl, rfl, rfl, rfl, trivial⟩ ⟨rfl, trivial⟩) ⟨0, _, lab6, _, 0, rfl, rfl, Nat.zero_le _, hB5, hK6⟩ ?_
          rintro ⟨i2, n2, g7⟩ ⟨jy, B7, lab7, k7, file7, hi2, hn2, hj7, hB7, hJ7⟩
          dsimp only at hi2 hn2 hJ7
          cbv
          refine condI hA (fun hc2 => ?_) (fun hc2 => ?_)
          · have hjl := ltRs hA (natEq hi2) hm hc2
            have hgj := ho2 _ (List.getElem_mem hjl)
            have hkt := kept_next hjl
            have hkl2 : (kept (ms.take jy)).length ≤ 99 := by have := kept_len (ms.take jy); rw [List.length_take] at this; omega
            have hB8 : B7 + 2000 ≤ 1000000000 ∧ B7 + 2000 ≤ 60000 + 2000 * (jy + 1) := by omega
            cbv
            refine getRN hA hm (natEq hi2) hjl ?_
            rintro r lp hr hlp
            cbv
            refine condI hA (fun h3 => ?_) (fun h3 => ?_)
            · cbv
              refine callGI hA ((aw g7)) ?_
              intro rs_ g9 h_
              obtain ⟨b, q_1, hb⟩ := h_
              subst q_1
              cbv
              exact retGI hA rfl [.v (.bool b)] g9 ⟨b, rfl, hb⟩ (by first | exact ⟨rfl, trivial⟩ | trivial)
            · cbv
              refine getRN hA hm (natEq hi2) hjl ?_
              rintro r2 lp2 hr2 hlp2
              have hadd := gAddK (by decide) hJ7 hB8.1 hkl2 r2 lp2 hlp2 (hr2 ▸ hgj)
              cbv
              refine callGI hA (hadd) ?_
              intro rs_ g8 h_
              obtain ⟨e8, q_1, he8, lab8, k8, file8, u8, hJ8⟩ := h_
              subst q_1
              cbv
              refine condI hA (fun h9 => ?_) (fun h9 => ?_)
              · have h9 : checkM r2 = true := he8.1 (zeqT hA h9)
                cbv
                exact ⟨(_, _, g8), weakI rfl ⟨rfl, rfl, rfl, rfl, rfl, trivial⟩ ⟨rfl, trivial⟩, ⟨jy + 1, B7 + 2000, lab8, k8, file8, upI hA (natEq hi2) (by omega), (zadd hA n2 1).trans (by rw [hkt, ← hr2, natEq hn2, List.length_append, show kept [r2] = [r2] from by simp [kept, h9], w64_id (by omega)]; rfl), hjl, hB8.2, by rw [hkt, ← hr2]; exact hJ8⟩, upM hA (natEq hi2) hjl (by omega)⟩
              · have h9 : ¬ checkM r2 = true := fun q => zeqF hA h9 (he8.2 q)
                cbv
                exact ⟨(_, _, g8), weakI rfl ⟨rfl, rfl, rfl, rfl, rfl, trivial⟩ ⟨rfl, trivial⟩, ⟨jy + 1, B7 + 2000, lab8, k8, file8, upI hA (natEq hi2) (by omega), by rw [hkt, ← hr2, List.length_append, show kept [r2] = [] from by simp [kept, h9]]; exact hn2, hjl, hB8.2, by rw [hkt, ← hr2]; exact hJ8⟩, upM hA (natEq hi2) hjl (by omega)⟩
          · have hop7 := gOpenK hJ7.j.d hJ7.st hJ7.calm hJ7.ops hJ7.good (by omega)
            cbv
            refine callGI hA (hop7) ?_
            intro rs_ g8 h_
            obtain ⟨jp8, l8, e8, q_1, he8, hl8, _, lab8, u8, hK8⟩ := h_
            subst q_1
            cbv
            have K8 : JD g8 lab8 p k7 _ jp6 file7 _ := ⟨hK8.j.d, hJ7.j.j.upd u8⟩
            have hlen := gLen K8
            refine condT hA (zeq_t hA he8) ?_
            cbv
            refine condT hA (zeq_t hA ((lenR hA hl8).trans hn2.symm)) ?_
            cbv
            refine callGI hA (hlen) ?_
            intro rs_ g_ h_
            obtain ⟨m8, q_1, hm8, q_2⟩ := h_
            subst q_1
            subst q_2
            cbv
            refine condT hA (zeq_t hA (hm8.trans hn2.symm)) ?_
            cbv
            refine callGI hA ((aw g8)) ?_
            intro rs_ g9 h_
            obtain ⟨b, q_1, hb⟩ := h_
            subst q_1
            cbv
            exact retGI hA rfl [.v (.bool b)] g9 ⟨b, rfl, hb⟩ (by first | exact ⟨rfl, trivial⟩ | trivial)
theorem cClears (gs ms : List RecM) (l m : List V) (hl : l = recsV gs) (hm : m = recsV ms) (keep : Bs) (kl : List V) (hkl : kl = bytesV keep) (hkp : keep.length ≤ 140737488355328) (ho : ∀ a ∈ gs, RecOk a) (ho2 : ∀ a ∈ ms, RecOk a) : CallR Try.prog 5 [.slice l, .slice m, .slice kl] fun rs => rs = [.v (.bool true)] :=
  .ofLaw fun gh => gClears gh gs ms l m hl hm keep kl hkl hkp ho ho2
end Go.Proofs.Ythioccbgjkbmdaa.AM

/-
  Contracts: bytes behind the journal's records.
-/
set_option linter.unusedVariables false
set_option linter.unusedSimpArgs false
namespace Go.Proofs.Ythioccbgjkbmdaa.AM
open Go Go.RowKit
set_option maxRecDepth 100000
set_option maxHeartbeats 4000000

theorem scan_no {s : Nat} {b : Bs} (h : (scanM s b).1 = []) : (scanM s b).2 = 0 := by
  cases q : stepM s b with
  | none => rw [scanM_none q]
  | some r => rw [scanM_some q] at h; cases h
theorem app_ops (k : Dk) (i : Int) (b : Bs) (h : w64 k.ops = k.ops) : w64 (k.appD i b).1.ops = (k.appD i b).1.ops := by
  unfold Dk.appD; dsimp only
  split
  · exact h
  · split
    · exact h
    · split
      · exact h
      · exact op_ops _ _ _ _ h
theorem open_ops (k : Dk) (h : w64 k.ops = k.ops) : w64 k.openD.1.ops = k.openD.1.ops := by
  have hc : ∀ (q : Dk) i n, w64 q.ops = q.ops → w64 (q.cutD i n).1.ops = (q.cutD i n).1.ops := fun q i n hq => by
    unfold Dk.cutD; split
    · exact hq
    · split
      · split
        · exact hq
        · exact op_ops _ _ _ _ hq
      · exact hq
  have hs : ∀ (q : Dk) i, w64 q.ops = q.ops → w64 (q.syncD i).1.ops = (q.syncD i).1.ops := fun q i hq => by
    unfold Dk.syncD; split
    · exact hq
    · exact op_ops _ _ _ _ hq
  unfold Dk.openD; dsimp only
  split
  · exact h
  · split
    · exact h
    · split
      · exact h
      · split
        · split
          · exact hc _ _ _ h
          · split
            · exact hs _ _ (hc _ _ _ h)
            · exact hs _ _ (hc _ _ _ h)
        · exact h
/-- What Open finds, where bytes have been laid behind. -/
theorem torn_open {k : Dk} {j c : Nat} {nd : Nd} {recs : List RecM} {t : Bs} (hW : JW 1048576 k) (hf : k.fail.is = false) (hR : JR k j nd) (hs : nd.seen = ⟨framesB 0 recs ++ t, []⟩) (ht : t = [] → nd = fileN (framesB 0 recs)) (hl : k.nodes.length ≤ c + 1) (hg : ∀ a ∈ recs, Good a) :
    ∃ ms, k.openD.2 = (some ((j : Int) + 1, ms), 0) ∧ recs.length ≤ ms.length ∧ (ms.length = recs.length → k.openD.1.fail.is = false ∧ JSt 1048576 c k.openD.1 ((j : Int) + 1) recs) := by
  obtain ⟨k', h1, h2, h3, h4, h5⟩ := openR hW hf hR hs
  have hsc := scan_frames recs 0 t hg
  rw [Nat.zero_add] at hsc
  rw [h1]
  refine ⟨_, rfl, by rw [hsc]; simp, fun hm => ⟨h3, h2, .inr ⟨j, rfl, ?_, by rw [h4]; exact hl⟩⟩⟩
  have hx : (scanM recs.length t).1 = [] := by
    rw [hsc] at hm; simp at hm; exact hm
  have h0 := scan_no hx
  rw [hsc, h0, Nat.add_zero] at h5
  dsimp only at h5
  rcases h5 with ⟨q1, q2⟩ | ⟨q1, q2⟩
  · rw [List.take_left'] at q2
    · exact q2
    · rfl
  · have : t = [] := by
      rw [List.length_append] at q1
      exact List.eq_nil_of_length_eq_zero (by omega)
    rw [q2, ← ht this]; exact hR
theorem find_st {c : Nat} {k : Dk} {file : Int} {recs : List RecM} (h : JSt 1048576 c k file recs) : (file = 0 ∧ k.findE 1 jName = (0, 8)) ∨ ∃ j : Nat, file = (j : Int) + 1 ∧ k.findE 1 jName = ((j : Int) + 1, 0) ∧ JR k j (fileN (framesB 0 recs)) ∧ k.nodes.length ≤ c + 1 := by
  obtain ⟨hW, ⟨q1, _, q2, _⟩ | ⟨j, q1, q2, q3⟩⟩ := h
  · exact .inl ⟨q1, find0 hW.up q2⟩
  · exact .inr ⟨j, q1, findR hW.up q2, q2, q3⟩
/-- Bytes are laid behind, and the journal is opened: it tells all of its records; if no more, it is whole. -/
theorem gTornOpen {c : Nat} {gh : GH} {lab : Lab} {p B jp : Nat} {recs : List RecM} {k : Dk} {file : Int} (h : JK c gh lab p B jp recs k file) (hB : B + 2000 ≤ 1000000000) (hrl : recs.length ≤ 99) (t : Bs) (lt : List V) (hlt : lt = bytesV t) (htl : t.length ≤ 500) {j : Nat} (hfi : file = (j : Int) + 1) :
    FnG Try.prog 14 [.gp p 0, .int .i64 ((j : Int) + 1), .slice lt] gh fun rs g => ∃ e : Int, rs = [.v (.int .i64 e)] ∧ FnG Try.prog 10 [.gp p 0] g fun rs g' => ∃ (jp' : Nat) (ms : List RecM) (l : List V) (e : Int), rs = [.v (.gp jp' 0), .v (.slice l), .v (.int .i64 e)] ∧ e = 0 ∧ l = recsV ms ∧ recs.length ≤ ms.length ∧ (ms.length = recs.length → ∃ lab' k', JK c g' lab' p (B + 502) jp' recs k' file) := by
  rcases find_st h.st with ⟨q, _⟩ | ⟨j', hj', _, hR, hl⟩
  · omega
  obtain rfl : j' = j := by omega
  have hfl := framesB_lim h.good (by omega)
  have hi : I64 ((j' : Int) + 1) := by
    have := (List.getElem?_eq_some_iff.1 hR.at_).1
    have := h.j.d.ok.most
    unfold I64; omega
  obtain ⟨k', nd', e1, w1, w2, w3, w4, w5, w6⟩ := app_calm (C := 1048576) (by decide) h.st.1 h.calm hR t (by omega)
  refine (dAppend h.j.d _ hi t lt hlt (by omega)).mono fun rs g ⟨e, q1, q2, lab', u, hD⟩ => ⟨e, q1, ?_⟩
  have ho := app_ops k ((j' : Int) + 1) t h.ops
  rw [e1] at hD ho
  obtain ⟨ms, m1, m2, m3⟩ := torn_open (c := c) w1 w2 w3 w4 w6 (by rw [w5]; exact hl) h.good
  have ho2 := open_ops k' ho
  refine (gOpen hD (by omega)).mono fun rs g' ⟨x, l, e', r1, r2, lab2, u2, hD', hm⟩ => ?_
  rw [m1] at r2 hm
  obtain ⟨hl', jp', rfl, _, hs⟩ := hm
  refine ⟨jp', ms, l, e', r1, r2, hl', m2, fun hq => ?_⟩
  obtain ⟨n1, n2⟩ := m3 hq
  exact ⟨lab2, _, ⟨⟨hD'.mono (by omega), by rw [hq] at hs; rw [hfi]; exact hs⟩, by rw [hfi]; exact n2, n1, ho2, h.good⟩⟩
theorem no_lt {a b : Int} {m n : Nat} (ha : a = m) (hb : b = n) (h : n ≤ m) : ¬ a < b := by omega
theorem not_lt_of {a b : Int} {m n : Nat} (ha : a = m) (hb : b = n) (h : ¬ a < b) : n ≤ m := by omega
theorem last_lt (recs : List RecM) (a : RecM) : recs.length < (recs ++ [a]).length := by simp
theorem last_at (recs : List RecM) (a : RecM) (h : recs.length < (recs ++ [a]).length) : (recs ++ [a])[recs.length]'h = a := by simp
theorem up_last {A : Prim} {P : Program} {R : List (Nat × AObj) → List D → Prop} (hA : A = std P R) {n : Int} {recs : List RecM} (hn : n = (recs.length : Nat)) (h : recs.length ≤ 98) (a : RecM) : (((recs ++ [a]).length : Nat) : Int) = A.wrap .i64 (A.add n 1) := by
  rw [zadd hA, hn, w64_id (by omega)]; simp
theorem sameM_refl (a : RecM) : sameM a a = true := by simp [sameM]
theorem gTorn (gh : GH) (gs : List RecM) (l : List V) (hl : l = recsV gs) (t : Bs) (lt : List V) (hlt : lt = bytesV t) (a : RecM) (la : List V) (ha : la = strsV a.path) (har : RecOk a) (ho : ∀ a ∈ gs, RecOk a) : FnG Try.prog 3 [.slice l, .slice lt, .agg [.int .u8 a.k, .slice la, .int .i64 a.sz, .int .u32 a.sm, .int .i64 a.mi, .int .i64 a.mo, .int .u32 a.si, .int .u32 a.so]] gh fun rs g => ∃ b : Bool, rs = [.v (.bool b)] ∧ b = true := by
  have aw : ∀ g : GH, FnG Try.prog 8 [] g fun rs g => ∃ b : Bool, rs = [.v (.bool b)] ∧ b = true := gAwake18
  have hck := cCheck a la ha har.pl
  refine FnG.of' T_ok M_ok [] (fn := Try.f3) (by kernel_rfl) rfl rfl rfl rfl (Nat.le_of_ble_eq_true rfl) fun A hA => ?_
  cbv
  refine condI hA (fun h1 => ?_) (fun h1 => ?_)
  · cbv
    refine callGI hA ((aw gh)) ?_
    intro rs_ g9 h_
    obtain ⟨b, q_1, hb⟩ := h_
    subst q_1
    cbv
    exact retGI hA rfl [.v (.bool b)] g9 ⟨b, rfl, hb⟩ (by first | exact ⟨rfl, trivial⟩ | trivial)
  · have h1 := zltF hA h1
    cbv
    refine condI hA (fun h2 => ?_) (fun h2 => ?_)
    · cbv
      refine callGI hA ((aw gh)) ?_
      intro rs_ g9 h_
      obtain ⟨b, q_1, hb⟩ := h_
      subst q_1
      cbv
      exact retGI hA rfl [.v (.bool b)] g9 ⟨b, rfl, hb⟩ (by first | exact ⟨rfl, trivial⟩ | trivial)
    · have h2 := zltF hA h2
      have hgl : gs.length ≤ 10 := by have h1 : ¬ (10 : Int) < A.lenL l := h1; rw [lenR hA hl] at h1; omega
      have htl : t.length ≤ 500 := by have h2 : ¬ (500 : Int) < A.lenL lt := h2; rw [lenI hA hlt] at h2; omega
      cbv
      refine callI hA (hck) ?_
      intro rs_ h_
      obtain ⟨ec, q_1, hec⟩ := h_
      subst q_1
      cbv
      refine condI hA (fun h3 => ?_) (fun h3 => ?_)
      · cbv
        refine callGI hA ((aw gh)) ?_
        intro rs_ g9 h_
        obtain ⟨b, q_1, hb⟩ := h_
        subst q_1
        cbv
        exact retGI hA rfl [.v (.bool b)] g9 ⟨b, rfl, hb⟩ (by first | exact ⟨rfl, trivial⟩ | trivial)
      · have h3 : checkM a = true := by
          have h3 := zneF hA h3
          cases q : checkM a with
          | true => rfl
          | false => rw [hec, q] at h3; cases h3
        cbv
        refine callGI hA ((gStart gh)) ?_
        intro rs_ g1 h_
        obtain ⟨p, q_1, hop⟩ := h_
        subst q_1
        cbv
        refine callGI hA (hop) ?_
        intro rs_ g2 h_
        obtain ⟨jp, l0, e0, q_1, he0, hl0, lab2, k2, hK⟩ := h_
        subst q_1
        cbv
        refine loopF hA (ι := Int × GH) (fun q => { n := 128, sl := [(0, .v (.slice l)), (1, .v (.slice lt)), (5, .ptr 5 0), (7, .v (.gp p 0)), (8, .v (.gp jp 0)), (11, .v (.int .i64 q.1))], ob := [(hk, .heap q.2 []), (5, .box [.v (.int .u8 a.k), .v (.slice la), .v (.int .i64 a.sz), .v (.int .u32 a.sm), .v (.int .i64 a.mi), .v (.int .i64 a.mo), .v (.int .u32 a.si), .v (.int .u32 a.so)])] })
          (fun q => ∃ (jx B : Nat) (lab : Lab) (k : Dk) (file : Int), q.1 = (jx : Nat) ∧ jx ≤ gs.length ∧ B ≤ 2 + 2000 * jx ∧ JK 3 q.2 lab p B jp (kept (gs.take jx)) k file) (fun q => gs.length - q.1.toNat) (_, _) (weakI rfl ⟨rfl, rfl, rfl, rfl, rfl, rfl, trivial⟩ ⟨rfl, rfl, trivial⟩) ⟨0, 2, lab2, k2, 0, rfl, Nat.zero_le _, Nat.le_refl _, hK⟩ ?_
        rintro ⟨i, g⟩ ⟨jx, B, lab, k, file, hi, hj, hB, hJ⟩
        dsimp only at hi hJ
        cbv
        refine condI hA (fun hc => ?_) (fun hc => ?_)
        · have hjl := ltRs hA (natEq hi) hl hc
          have hgj := ho _ (List.getElem_mem hjl)
          have hkt := kept_next hjl
          have hkl2 : (kept (gs.take jx)).length ≤ 99 := by have := kept_len (gs.take jx); rw [List.length_take] at this; omega
          have hB3 : B + 2000 ≤ 1000000000 ∧ B + 2000 ≤ 2 + 2000 * (jx + 1) := by omega
          cbv
          refine getRN hA hl (natEq hi) hjl ?_
          rintro r lp hr hlp
          cbv
          refine condI hA (fun h3 => ?_) (fun h3 => ?_)
          · cbv
            refine callGI hA ((aw g)) ?_
            intro rs_ g9 h_
            obtain ⟨b, q_1, hb⟩ := h_
            subst q_1
            cbv
            exact retGI hA rfl [.v (.bool b)] g9 ⟨b, rfl, hb⟩ (by first | exact ⟨rfl, trivial⟩ | trivial)
          · cbv
            refine getRN hA hl (natEq hi) hjl ?_
            rintro r2 lp2 hr2 hlp2
            have hadd := gAddK (by decide) hJ hB3.1 hkl2 r2 lp2 hlp2 (hr2 ▸ hgj)
            cbv
            refine callGI hA (hadd) ?_
            intro rs_ g3 h_
            obtain ⟨e, q_1, he, lab3, k3, file3, u3, hJ3⟩ := h_
            subst q_1
            cbv
            exact ⟨(_, g3), weakI rfl ⟨rfl, rfl, rfl, rfl, rfl, rfl, trivial⟩ ⟨rfl, rfl, trivial⟩, ⟨jx + 1, B + 2000, lab3, k3, file3, upI hA (natEq hi) (by omega), hjl, hB3.2, by rw [hkt, ← hr2]; exact hJ3⟩, upM hA (natEq hi) hjl (by omega)⟩
        · obtain ⟨recs, hrecs⟩ : ∃ r, r = kept (gs.take jx) := ⟨_, rfl⟩
          have hkl2 : recs.length ≤ 98 := by rw [hrecs]; have := kept_len (gs.take jx); rw [List.length_take] at this; omega
          rw [← hrecs] at hJ
          have hlen := gLen hJ.j
          have hfi := dFind hJ.j.d 1 i64_1 jName
          have hB6 : B + 2 ≤ 1000000000 ∧ B + 2000 ≤ 1000000000 ∧ B + 2 + 2000 ≤ 1000000000 ∧ B + 502 + 2000 ≤ 1000000000 ∧ B + 502 + 2000 + 2 ≤ 1000000000 ∧ B + 2 + 2000 + 2 ≤ 1000000000 := by omega
          -- where the journal is whole: a record more is read
          have fin : ∀ (g : GH) (lab : Lab) (B jp : Nat) (k : Dk) (file : Int), B + 2000 ≤ 1000000000 → B + 2000 + 2 ≤ 1000000000 → JK 3 g lab p B jp recs k file → FnG Try.prog 11 [.gp jp 0, .agg [.int .u8 a.k, .slice la, .int .i64 a.sz, .int .u32 a.sm, .int .i64 a.mi, .int .i64 a.mo, .int .u32 a.si, .int .u32 a.so]] g fun rs g' => ∃ e : Int, rs = [.v (.int .i64 e)] ∧ e = 0 ∧ FnG Try.prog 10 [.gp p 0] g' fun rs g2 => ∃ (jp2 : Nat) (l : List V) (e : Int), rs = [.v (.gp jp2 0), .v (.slice l), .v (.int .i64 e)] ∧ e = 0 ∧ l = recsV (recs ++ [a]) := fun g lab B jp k file b1 b2 hJ => by
            refine (gAddK (by decide) hJ b1 (by omega) a la ha har).mono fun rs g' ⟨e, q1, q2, lab', k', file', u, hJ'⟩ => ⟨e, q1, q2.2 h3, ?_⟩
            rw [show kept [a] = [a] from by simp [kept, h3]] at hJ'
            exact (gOpenK hJ'.j.d hJ'.st hJ'.calm hJ'.ops hJ'.good b2).mono fun rs g2 ⟨jp2, l, e, r1, r2, r3, _⟩ => ⟨_, l, e, r1, r2, r3⟩
          cbv
          refine callGI hA (hlen) ?_
          intro rs_ g_ h_
          obtain ⟨n, q_1, hn, q_2⟩ := h_
          subst q_1
          subst q_2
          cbv
          refine callGI hA (hfi) ?_
          intro rs_ g_ h_
          obtain ⟨f, fe, q_1, hf, hfe, q_2⟩ := h_
          subst q_1
          subst q_2
          cbv
          refine condI hA (fun h5 => ?_) (fun h5 => ?_)
          · have h5 : fe = 0 := zeqT hA h5
            rcases find_st hJ.st with ⟨_, q⟩ | ⟨j, hj0, q, _⟩
            · rw [q] at hfe; rw [h5] at hfe; cases hfe
            obtain rfl : f = (j : Int) + 1 := by rw [hf, q]
            have htn := gTornOpen hJ hB6.2.1 (Nat.le_trans hkl2 (by decide)) t lt hlt htl hj0
            obtain ⟨f, hf0⟩ : ∃ f : Int, f = (j : Int) + 1 := ⟨_, rfl⟩
            rw [← hf0] at htn ⊢
            cbv
            refine callGI hA (htn) ?_
            intro rs_ g3 h_
            obtain ⟨e3, q_1, hop3⟩ := h_
            subst q_1
            cbv
            refine callGI hA (hop3) ?_
            intro rs_ g4 h_
            obtain ⟨jp4, ms, l4, e4, q_1, he4, hl4, hle, hwh⟩ := h_
            subst q_1
            cbv
            refine condF hA (zne_f hA he4) ?_
            cbv
            refine condF hA (zlt_f hA (no_lt (lenR hA hl4) (natEq hn) hle)) ?_
            cbv
            refine condI hA (fun h7 => ?_) (fun h7 => ?_)
            · cbv
              refine callGI hA ((aw g4)) ?_
              intro rs_ g9 h_
              obtain ⟨b, q_1, hb⟩ := h_
              subst q_1
              cbv
              exact retGI hA rfl [.v (.bool b)] g9 ⟨b, rfl, hb⟩ (by first | exact ⟨rfl, trivial⟩ | trivial)
            · have h7 : ms.length = recs.length := by
                exact Nat.le_antisymm (not_lt_of (natEq hn) (lenR hA hl4) (zltF hA h7)) hle
              obtain ⟨lab4, k4, hJ4⟩ := hwh h7
              cbv
              refine callGI hA ((fin g4 lab4 _ jp4 k4 file hB6.2.2.2.1 hB6.2.2.2.2.1 hJ4)) ?_
              intro rs_ g5 h_
              obtain ⟨e5, q_1, he5, hop5⟩ := h_
              subst q_1
              cbv
              refine callGI hA (hop5) ?_
              intro rs_ g6 h_
              obtain ⟨x6, l6, e6, q_1, he6, hl6⟩ := h_
              subst q_1
              cbv
              have hn6 : n = (recs.length : Nat) := hn
              have hlt6 := last_lt recs a
              refine chkI hA (by kernel_rfl) ?_
              cbv
              refine condT hA (zeq_t hA he5) ?_
              cbv
              refine condT hA (zeq_t hA he6) ?_
              cbv
              refine condT hA (zeq_t hA ((lenR hA hl6).trans (up_last hA (natEq hn6) hkl2 a))) ?_
              cbv
              refine getRN hA hl6 (natEq hn6) hlt6 ?_
              rintro r lp hr hlp
              have hr : r = a := hr.trans (last_at recs a hlt6)
              subst hr
              have hsm := cSameR r r lp la hlp ha har.pl
              cbv
              refine callI hA (hsm) ?_
              intro rs_ h_
              obtain ⟨c, q_1, hcs⟩ := h_
              subst q_1
              cbv
              refine condT hA (hcs.trans (sameM_refl r)) ?_
              cbv
              refine callGI hA ((aw g6)) ?_
              intro rs_ g9 h_
              obtain ⟨b, q_1, hb⟩ := h_
              subst q_1
              cbv
              exact retGI hA rfl [.v (.bool b)] g9 ⟨b, rfl, hb⟩ (by first | exact ⟨rfl, trivial⟩ | trivial)
          · have hopk := gOpenK hJ.j.d hJ.st hJ.calm hJ.ops hJ.good hB6.1
            cbv
            refine callGI hA (hopk) ?_
            intro rs_ g4 h_
            obtain ⟨jp4, l4, e4, q_1, he4, hl4, _, lab4', u4, hJ4'⟩ := h_
            subst q_1
            cbv
            obtain ⟨ms, hms⟩ : ∃ m, m = recs := ⟨_, rfl⟩
            have hle : recs.length ≤ ms.length := by rw [hms]; exact Nat.le_refl _
            have hl4 : l4 = recsV ms := by rw [hms]; exact hl4
            have hwh : ms.length = recs.length → ∃ lab' k', JK 3 g4 lab' p (B + 2) jp4 recs k' file := fun _ => ⟨lab4', k, hJ4'⟩
            refine condF hA (zne_f hA he4) ?_
            cbv
            refine condF hA (zlt_f hA (no_lt (lenR hA hl4) (natEq hn) hle)) ?_
            cbv
            refine condI hA (fun h7 => ?_) (fun h7 => ?_)
            · cbv
              refine callGI hA ((aw g4)) ?_
              intro rs_ g9 h_
              obtain ⟨b, q_1, hb⟩ := h_
              subst q_1
              cbv
              exact retGI hA rfl [.v (.bool b)] g9 ⟨b, rfl, hb⟩ (by first | exact ⟨rfl, trivial⟩ | trivial)
            · have h7 : ms.length = recs.length := by
                exact Nat.le_antisymm (not_lt_of (natEq hn) (lenR hA hl4) (zltF hA h7)) hle
              obtain ⟨lab4, k4, hJ4⟩ := hwh h7
              cbv
              refine callGI hA ((fin g4 lab4 _ jp4 k4 file hB6.2.2.1 hB6.2.2.2.2.2 hJ4)) ?_
              intro rs_ g5 h_
              obtain ⟨e5, q_1, he5, hop5⟩ := h_
              subst q_1
              cbv
              refine callGI hA (hop5) ?_
              intro rs_ g6 h_
              obtain ⟨x6, l6, e6, q_1, he6, hl6⟩ := h_
              subst q_1
              cbv
              have hn6 : n = (recs.length : Nat) := hn
              have hlt6 := last_lt recs a
              refine chkI hA (by kernel_rfl) ?_
              cbv
              refine condT hA (zeq_t hA he5) ?_
              cbv
              refine condT hA (zeq_t hA he6) ?_
              cbv
              refine condT hA (zeq_t hA ((lenR hA hl6).trans (up_last hA (natEq hn6) hkl2 a))) ?_
              cbv
              refine getRN hA hl6 (natEq hn6) hlt6 ?_
              rintro r lp hr hlp
              have hr : r = a := hr.trans (last_at recs a hlt6)
              subst hr
              have hsm := cSameR r r lp la hlp ha har.pl
              cbv
              refine callI hA (hsm) ?_
              intro rs_ h_
              obtain ⟨c, q_1, hcs⟩ := h_
              subst q_1
              cbv
              refine condT hA (hcs.trans (sameM_refl r)) ?_
              cbv
              refine callGI hA ((aw g6)) ?_
              intro rs_ g9 h_
              obtain ⟨b, q_1, hb⟩ := h_
              subst q_1
              cbv
              exact retGI hA rfl [.v (.bool b)] g9 ⟨b, rfl, hb⟩ (by first | exact ⟨rfl, trivial⟩ | trivial)
theorem cTorn (gs : List RecM) (l : List V) (hl : l = recsV gs) (t : Bs) (lt : List V) (hlt : lt = bytesV t) (a : RecM) (la : List V) (ha : la = strsV a.path) (har : RecOk a) (ho : ∀ a ∈ gs, RecOk a) : CallR Try.prog 3 [.slice l, .slice lt, .agg [.int .u8 a.k, .slice la, .int .i64 a.sz, .int .u32 a.sm, .int .i64 a.mi, .int .i64 a.mo, .int .u32 a.si, .int .u32 a.so]] fun rs => rs = [.v (.bool true)] :=
  .ofLaw fun gh => gTorn gh gs l hl t lt hlt a la ha har ho
end Go.Proofs.Ythioccbgjkbmdaa.AM

/-
  THE LAW JournalTorn HOLDS: bytes behind the journal that are no right frame are cut off, and what is added then is read. No condition.
-/
set_option linter.unusedVariables false
set_option linter.unusedSimpArgs false
namespace Go.Proofs.Ythioccbgjkbmdaa.AM
open Go Go.RowKit Go.ChangeShapes Go.WideShapes Go.ChangeAt
set_option maxRecDepth 100000

theorem progOwn : ownKnob Try.prog.godebug = none := by kernel_rfl
theorem progLaid : laidOutB Try.prog = true := by kernel_rfl
theorem argsRead : ([22, 23, 29] : List Nat).all (fun t => Try.prog.readableRec t && Nat.blt t Try.prog.types.size) = true := by kernel_rfl
theorem journalTorn_lifted (os : Os) (started : os.Started) (H : Type) (enc : TypeId × Value → H) :
    ReturnsInHanded {} Try.checked os 3 .any (Rows.journalTornSpec.pre6 enc Try.prog Try.f3 Rows.journalTornRow.domain false) (Rows.journalTornSpec.post enc Try.prog Try.f3 false true false false) := by
  refine returnsInHanded_of_change_sized (C := Try.checked) progOwn started (by kernel_rfl) Try.func3
    (ChangeSpec.witness6 (enc := enc) (C := Try.checked) false ⟨#[], #[.slice none 0 0, .slice none 0 0, .agg #[.int .u8 0, .slice none 0 0, .int .i64 0, .int .u32 0, .int .i64 0, .int .i64 0, .int .u32 0, .int .u32 0]], []⟩ 8 (by kernel_rfl) (by kernel_rfl) (by kernel_rfl) (by kernel_rfl)) ?_
  intro W base args ds gs before hval hW hcnd hwt _
  refine calls_row T_ok (ts := [22, 23, 29]) (tb := 4) (k := 8) (by rw [Try.params3]) (by kernel_rfl) Try.underlying4 (by decide) (fun t ht => ?_) progLaid rfl (fun ds hds => ?_) (fun xs hx hty => ?_) hval hW hwt
  · have e := List.all_eq_true.1 argsRead t (by simpa using ht)
    rw [Bool.and_eq_true] at e
    exact ⟨e.1, Nat.le_of_ble_eq_true e.2⟩
  · match ds, hds with
    | [d0, d1, d2], _ => rfl
  · match xs, hx, hty with
    | [x0, x1, x2], _, hty =>
      obtain ⟨r0, rfl, g0, h0⟩ := tv_recs (k := 4) (hty 0 (by simp) (by simp))
      obtain ⟨b1, rfl, h1⟩ := tv_bytes (k := 6) rfl rfl rfl (hty 1 (by simp) (by simp))
      obtain ⟨r2, rfl, h2⟩ := tv_rec (k := 5) (hty 2 (by simp) (by simp))
      obtain ⟨rs, q1, rfl⟩ := cTorn r0 _ rfl b1 _ rfl r2 _ rfl h2 h0
      exact .of_R q1

/-- **JournalTorn.** -/
theorem journalTorn_holds : Rows.JournalTornSaid :=
  OpenClaim.holds_of_wide 3 Try.f3 rfl rfl rfl rfl rfl rfl rfl ⟨rfl, rfl, rfl, rfl, rfl⟩ rfl rfl rfl rfl rfl (by kernel_rfl) Try.func3 (by kernel_rfl)
    (of_decide_eq_true (by kernel_rfl)) (by unfold Func.isWrapper; rw [if_neg (by decide +kernel)]; exact ⟨rfl, rfl⟩)
    (fun os started H enc _ => journalTorn_lifted os started H enc)
end Go.Proofs.Ythioccbgjkbmdaa.AM
