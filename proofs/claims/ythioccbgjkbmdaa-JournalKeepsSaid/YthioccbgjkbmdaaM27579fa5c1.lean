/-
  Contracts: a journal whose disk's power fails.
-/
import Derived.Test.YthioccbgjkbmdaaM267406bcc2
import Derived.Test.YthioccbgjkbmdaaRows
set_option linter.unusedVariables false
set_option linter.unusedSimpArgs false
namespace Go.Proofs.Ythioccbgjkbmdaa.AM
open Go Go.RowKit
set_option maxRecDepth 100000
set_option maxHeartbeats 4000000

section
variable {C : Nat}
theorem JSt.fail {c : Nat} {k : Dk} {file : Int} {recs : List RecM} (h : JSt C c k file recs) (n : Int) (hn : ¬ n < 0) (d : Bool) : (k.failD n d).2 = 0 ∧ JSt C c (k.failD n d).1 file recs ∧ (k.failD n d).1.ops = k.ops := by
  have e : k.failD n d = ({ k with fail := ⟨true, n⟩, done := d }, 0) := by unfold Dk.failD; rw [if_neg (by rw [h.1.up]; decide), if_neg hn]
  rw [e]
  refine ⟨rfl, ⟨⟨h.1.up, h.1.cap, h.1.full⟩, ?_⟩, rfl⟩
  rcases h.2 with q | ⟨j, q1, q2, q3⟩
  · exact .inl q
  · exact .inr ⟨j, q1, q2.same rfl, q3⟩
theorem JSt.crash {c : Nat} {k : Dk} {file : Int} {recs : List RecM} (h : JSt C c k file recs) (keep : Bs) : JSt C c (k.crash keep) file recs := by
  have hl : (k.crash keep).nodes.length = k.nodes.length := crashL_len _ _
  refine ⟨(jw_crash h.1.cap keep).1, ?_⟩
  rcases h.2 with ⟨q1, q2, q3, q4⟩ | ⟨j, q1, q2, q3⟩
  · obtain ⟨m, _, hm⟩ := crash_at keep q3
    exact .inl ⟨q1, q2, hm, by rw [hl]; exact q4⟩
  · obtain ⟨m, _, hm⟩ := crash_at keep q2.root
    obtain ⟨m2, _, hm2⟩ := crash_at keep q2.at_
    exact .inr ⟨j, q1, ⟨hm, q2.pos, hm2, rfl⟩, by rw [hl]; exact q3⟩
end
/-- A journal whose disk may go down: it is up, and whole; or it is down, and may have one record more. -/
structure JF (gh : GH) (lab : Lab) (p B jp : Nat) (recs : List RecM) (late : RecM) (k : Dk) (file n : Int) : Prop where
  j : JD gh lab p k B jp file n
  good : ∀ a ∈ recs, Good a
  is : (k.down = false ∧ JSt 1048576 3 k file recs ∧ n = (recs.length : Nat) ∧ w64 k.ops = k.ops) ∨ (k.down = true ∧ JX 1048576 k recs late ∧ RecOk late ∧ checkM late = true)
def boxR (a : RecM) (d : D) : List D := [.v (.int .u8 a.k), d, .v (.int .i64 a.sz), .v (.int .u32 a.sm), .v (.int .i64 a.mi), .v (.int .i64 a.mo), .v (.int .u32 a.si), .v (.int .u32 a.so)]
theorem gOpenBack {gh : GH} {lab : Lab} {p B : Nat} {k : Dk} {f : Int} {ms : List RecM} (hD : DI gh lab p k B) (hB : B + 2 ≤ 1000000000) (hm : k.openD.2 = (some (f, ms), 0)) : FnG Try.prog 10 [.gp p 0] gh fun rs g => ∃ (jp : Nat) (l : List V) (e : Int), rs = [.v (.gp jp 0), .v (.slice l), .v (.int .i64 e)] ∧ e = 0 ∧ l = recsV ms :=
  (gOpen hD hB).mono fun rs g ⟨x, l, e, q1, q2, lab', u, hD', hx⟩ => by
    rw [hm] at q2 hx
    obtain ⟨hl, jp, rfl, _⟩ := hx
    exact ⟨jp, l, e, q1, q2, hl⟩
theorem no_lt1 {A : Prim} {P : Program} {R : List (Nat × AObj) → List D → Prop} (hA : A = std P R) {a b : Int} {m n : Nat} (ha : a = m) (hb : b = n) (h : n ≤ m + 1) (hm : m ≤ 100) : ¬ A.wrap .i64 (A.add a 1) < b := by
  rw [zadd hA, ha, w64_id (by omega), hb]; omega
theorem modN {A : Prim} {P : Program} {R : List (Nat × AObj) → List D → Prop} (hA : A = std P R) {fv : Int} {f : Nat} (hfv : fv = f) (hf : f < 256) : ¬ A.wrap .i64 (A.tmod fv 50) < 0 := by
  subst hA
  show ¬ IntKind.i64.wrap (Int.tmod fv 50) < 0
  have e : Int.tmod fv 50 = ((f % 50 : Nat) : Int) := by rw [hfv]; rfl
  rw [e, wrap_i64 (by omega) (by omega)]; omega
theorem st_i64 {c : Nat} {gh : GH} {lab : Lab} {p B : Nat} {recs : List RecM} {k : Dk} {file : Int} (hD : DI gh lab p k B) (h : JSt 1048576 c k file recs) : I64 file := by
  rcases h.2 with ⟨q, _⟩ | ⟨j, q, r, q2⟩
  · rw [q]; exact i64_0
  · have := (List.getElem?_eq_some_iff.1 r.at_).1
    have := hD.ok.most
    rw [q]; unfold I64; omega
/-- Add, where the power may fail. -/
theorem gAddF {gh : GH} {lab : Lab} {p B jp : Nat} {recs : List RecM} {late : RecM} {k : Dk} {file n : Int} (h : JF gh lab p B jp recs late k file n) (hup : k.down = false) (hB : B + 2000 ≤ 1000000000) (hrl : recs.length ≤ 99) (a : RecM) (l : List V) (ha : l = strsV a.path) (hr : RecOk a) :
    FnG Try.prog 11 [.gp jp 0, .agg [.int .u8 a.k, .slice l, .int .i64 a.sz, .int .u32 a.sm, .int .i64 a.mi, .int .i64 a.mo, .int .u32 a.si, .int .u32 a.so]] gh fun rs g => ∃ e : Int, rs = [.v (.int .i64 e)] ∧ ∃ lab' k' file' n', Upd gh g lab lab' (fun _ => True) (fun x => x = jp) ∧
      ((e = 0 ∧ k'.down = false ∧ JF g lab' p (B + 2000) jp (recs ++ [a]) late k' file' n') ∨ (e = 12 ∧ JF g lab' p (B + 2000) jp recs a k' file' n') ∨ (e = 2 ∧ k'.down = false ∧ JF g lab' p (B + 2000) jp recs late k' file' n')) := by
  obtain ⟨hJ, hg, ⟨_, hS, hn, ho⟩ | ⟨q, _⟩⟩ := h
  rotate_left
  · rw [hup] at q; cases q
  have hpb := putB_small hr
  have hfl := framesB_lim hg (by omega)
  have hi := st_i64 hJ.d hS
  have hadd := gAdd hJ hB (by omega) hi a l ha hr
  rw [hn] at hadd
  refine hadd.mono fun rs g ⟨e, q1, q2, lab', u, hJ'⟩ => ⟨e, q1, lab', (k.addD file (recs.length : Nat) a).1, (k.addD file (recs.length : Nat) a).2.1, (k.addD file (recs.length : Nat) a).2.2.1, u, ?_⟩
  cases hc : checkM a with
  | true =>
    rcases add_step (C := 1048576) (by decide) hS (by decide) hr hc (by omega) ho with ⟨b1, b2, b3, b4⟩ | ⟨b1, b2, b3, b4, b5⟩
    · exact .inr (.inl ⟨q2.trans b1, hJ', hg, .inr ⟨b3, b4, hr, hc⟩⟩)
    · refine .inl ⟨q2.trans b1, b3.1.up, hJ', fun x hx => ?_, .inl ⟨b3.1.up, b3, b4, by rw [b5]; exact w64_w64 _⟩⟩
      rcases List.mem_append.1 hx with q | q
      · exact hg x q
      · rw [List.mem_singleton.1 q]; exact ⟨hr, hc⟩
  | false =>
    have q : k.addD file (recs.length : Nat) a = (k, file, ((recs.length : Nat) : Int), 2) := by unfold Dk.addD; rw [if_pos hc]
    rw [q] at q2 hJ' ⊢
    exact .inr (.inr ⟨q2, hup, hJ', hg, .inl ⟨hup, hS, rfl, ho⟩⟩)
/-- What a crash leaves of it, as Open tells it. -/
theorem JF.back {gh : GH} {lab : Lab} {p B jp : Nat} {recs : List RecM} {late : RecM} {k : Dk} {file n : Int} (h : JF gh lab p B jp recs late k file n) (keep : Bs) : ∃ f ms, (k.crash keep).openD.2 = (some (f, ms), 0) ∧ (ms = recs ∨ (k.down = true ∧ ms = recs ++ [late])) := by
  obtain ⟨hJ, hg, ⟨_, hS, _, _⟩ | ⟨hd, hX, h1, h2⟩⟩ := h
  · rw [open_st (hS.crash keep) rfl hg]
    exact ⟨_, _, rfl, .inl rfl⟩
  · obtain ⟨k', f, q | q⟩ := open_jx hX hg ⟨rfl, h1, h2⟩ keep
    · rw [q]; exact ⟨_, _, rfl, .inl rfl⟩
    · rw [q]; exact ⟨_, _, rfl, .inr ⟨hd, rfl⟩⟩
theorem gKeeps (gh : GH) (gs : List RecM) (l : List V) (hl : l = recsV gs) (fv : Int) (f : Nat) (hfv : fv = f) (hf : f < 256) (keep : Bs) (kl : List V) (hkl : kl = bytesV keep) (hkp : keep.length ≤ 140737488355328) (ho : ∀ a ∈ gs, RecOk a) : FnG Try.prog 6 [.slice l, .int .u8 fv, .slice kl] gh fun rs g => ∃ b : Bool, rs = [.v (.bool b)] ∧ b = true := by
  have aw : ∀ g : GH, FnG Try.prog 8 [] g fun rs g => ∃ b : Bool, rs = [.v (.bool b)] ∧ b = true := gAwake18
  refine FnG.of' T_ok M_ok [] (fn := Try.f6) (by kernel_rfl) rfl rfl rfl rfl (Nat.le_of_ble_eq_true rfl) fun A hA => ?_
  cbv
  refine condI hA (fun h1 => ?_) (fun h1 => ?_)
  · cbv
    refine callGI hA ((aw gh)) ?_
    intro rs_ g9 h_
    obtain ⟨b, q_1, hb⟩ := h_
    subst q_1
    cbv
    exact retGI hA rfl [.v (.bool b)] g9 ⟨b, rfl, hb⟩ (by first | exact ⟨rfl, trivial⟩ | trivial)
  · have hgl : gs.length ≤ 20 := by have h1 : ¬ (20 : Int) < A.lenL l := zltF hA h1; rw [lenR hA hl] at h1; omega
    cbv
    refine loopF hA (ι := Int) (fun q => { n := 152, sl := [(0, .v (.slice l)), (1, .v (.int .u8 fv)), (2, .v (.slice kl)), (7, .v (.int .i64 q))], ob := [(AM.hk, .heap gh [])] })
      (fun q => ∃ jx : Nat, q = (jx : Nat) ∧ jx ≤ gs.length) (fun q => gs.length - q.toNat) _ (weakI rfl ⟨rfl, rfl, rfl, rfl, trivial⟩ ⟨rfl, trivial⟩) ⟨0, rfl, Nat.zero_le _⟩ ?_
    rintro i ⟨jx, hi, hj⟩
    cbv
    refine condI hA (fun hc => ?_) (fun hc => ?_)
    · have hjl := ltRs hA (natEq hi) hl hc
      cbv
      refine getRN hA hl (natEq hi) hjl ?_
      rintro r lp hr hlp
      cbv
      refine condI hA (fun h3 => ?_) (fun h3 => ?_)
      · cbv
        refine callGI hA ((aw gh)) ?_
        intro rs_ g9 h_
        obtain ⟨b, q_1, hb⟩ := h_
        subst q_1
        cbv
        exact retGI hA rfl [.v (.bool b)] g9 ⟨b, rfl, hb⟩ (by first | exact ⟨rfl, trivial⟩ | trivial)
      · cbv
        exact ⟨_, weakI rfl ⟨rfl, rfl, rfl, rfl, trivial⟩ ⟨rfl, trivial⟩, ⟨jx + 1, upI hA (natEq hi) (by omega), hjl⟩, upM hA (natEq hi) hjl (by omega)⟩
    · cbv
      refine callGI hA ((gStart gh)) ?_
      intro rs_ g1 h_
      obtain ⟨p, q_1, hop⟩ := h_
      subst q_1
      cbv
      refine callGI hA (hop) ?_
      intro rs_ g2 h_
      obtain ⟨jp, l0, e0, q_1, he0, hl0, lab2, k2, hK⟩ := h_
      subst q_1
      cbv
      have hfn := modN hA hfv hf
      have hfl := dFail hK.j.d (A.wrap .i64 (A.tmod fv 50)) (A.ieq (A.tmod fv 2) 0)
      obtain ⟨f1, f2, f3⟩ := hK.st.fail (A.wrap .i64 (A.tmod fv 50)) hfn (A.ieq (A.tmod fv 2) 0)
      refine condF hA (zne_f hA he0) ?_
      cbv
      refine nzI hA (by decide) ?_
      cbv
      refine nzI hA (by decide) ?_
      cbv
      refine callGI hA (hfl) ?_
      intro rs_ g3 h_
      obtain ⟨e3, q_1, he3, lab3, u3, hD3⟩ := h_
      subst q_1
      cbv
      have hF3 : JF g3 lab3 p 2 jp [] zeroR _ 0 0 := ⟨⟨hD3, hK.j.j.upd u3⟩, by simp, .inl ⟨f2.1.up, f2, rfl, by rw [f3]; exact hK.ops⟩⟩
      have hrec : ∀ (late : RecM) (dl : D), boxR late dl = [.v (.int .u8 late.k), dl, .v (.int .i64 late.sz), .v (.int .u32 late.sm), .v (.int .i64 late.mi), .v (.int .i64 late.mo), .v (.int .u32 late.si), .v (.int .u32 late.so)] := fun _ _ => rfl
      refine loopF hA (ι := Int × List V × GH × RecM × D) (fun q => { n := 152, sl := [(0, .v (.slice l)), (2, .v (.slice kl)), (8, .v (.gp p 0)), (9, .v (.gp jp 0)), (12, .own 84), (13, .ptr 13 0), (14, .v (.int .i64 q.1))], ob := [(84, .row 8 q.2.1 true), (13, .box [.v (.int .u8 q.2.2.2.1.k), q.2.2.2.2, .v (.int .i64 q.2.2.2.1.sz), .v (.int .u32 q.2.2.2.1.sm), .v (.int .i64 q.2.2.2.1.mi), .v (.int .i64 q.2.2.2.1.mo), .v (.int .u32 q.2.2.2.1.si), .v (.int .u32 q.2.2.2.1.so)]), (AM.hk, .heap q.2.2.1 [])] })
        (fun q => ∃ (jx B : Nat) (lab : Lab) (k : Dk) (file n : Int) (recs : List RecM), q.1 = (jx : Nat) ∧ jx ≤ gs.length ∧ B ≤ 2 + 2000 * jx ∧ q.2.1 = recsV recs ∧ recs.length ≤ jx ∧ (q.2.2.2.2 = .nils ∧ k.down = false ∨ ∃ lp, q.2.2.2.2 = .v (.slice lp) ∧ lp = strsV q.2.2.2.1.path ∧ q.2.2.2.1.path.length ≤ 140737488355328) ∧ JF q.2.2.1 lab p B jp recs q.2.2.2.1 k file n) (fun q => gs.length - q.1.toNat) (_, _, _, zeroR, .nils) ((weak_nils _ 12 84 8 true rfl).trans (weakI rfl ⟨rfl, rfl, rfl, rfl, rfl, rfl, rfl, trivial⟩ ⟨rfl, rfl, rfl, trivial⟩)) ⟨0, 2, lab3, _, 0, 0, [], rfl, Nat.zero_le _, Nat.le_refl _, rfl, Nat.le_refl _, .inl ⟨rfl, f2.1.up⟩, hF3⟩ ?_
      rintro ⟨i3, dn, g, late, dl⟩ ⟨jx, B, lab, k, file, n, recs, hi3, hj3, hB, hdn, hrl, hdl, hJ⟩
      dsimp only at hi3 hdn hdl hJ
      rcases hdl with ⟨rfl, hz⟩ | ⟨lp0, rfl, hz1, hz2⟩
      · have hdw := gDown hJ.j.d.i
        obtain ⟨dw, hdw0⟩ : ∃ b, b = k.down := ⟨_, rfl⟩
        rw [← hdw0] at hdw
        have hB4 : B ≤ 1000000000 ∧ B + 2 ≤ 1000000000 ∧ recs.length ≤ 100 := by omega
        cbv
        refine condI hA (fun hc => ?_) (fun hc => ?_)
        · have hjl := ltRs hA (natEq hi3) hl hc
          have hgj := ho _ (List.getElem_mem hjl)
          refine callGI hA (hdw) ?_
          intro rs_ g_ h_
          obtain ⟨q_1, q_2⟩ := h_
          subst q_1
          subst q_2
          cbv
          refine condI hA (fun hd => ?_) (fun hd => ?_)
          · have hd : k.down = false := hdw0 ▸ znotT hA hd
            have hB3 : B + 2000 ≤ 1000000000 ∧ B + 2000 ≤ 2 + 2000 * (jx + 1) ∧ recs.length ≤ 99 ∧ recs.length + 1 ≤ jx + 1 ∧ recs.length ≤ jx + 1 ∧ jx ≤ 100 := by omega
            have hnx : B + 2000 ≤ 2 + 2000 * (jx + 1) := hB3.2.1
            cbv
            refine getRN hA hl (natEq hi3) hjl ?_
            rintro r lp hr hlp
            have hadd := gAddF hJ hd hB3.1 hB3.2.2.1 r lp hlp (hr ▸ hgj)
            cbv
            refine callGI hA (hadd) ?_
            intro rs_ g4 h_
            obtain ⟨e4, q_1, lab4, k4, file4, n4, u4, hq⟩ := h_
            subst q_1
            cbv
            refine condI hA (fun h5 => ?_) (fun h5 => ?_)
            · have h5 : e4 = 0 := zeqT hA h5
              rcases hq with ⟨_, q, hJ4⟩ | ⟨q, _⟩ | ⟨q, _⟩
              rotate_left
              · rw [h5] at q; cases q
              · rw [h5] at q; cases q
              cbv
              refine getRN hA hl (natEq hi3) hjl ?_
              rintro r2 lp2 hr2 hlp2
              have hr2 : r2 = r := hr2.trans hr.symm
              subst hr2
              have hg1 : [V.agg [.int .u8 r2.k, .slice lp2, .int .i64 r2.sz, .int .u32 r2.sm, .int .i64 r2.mi, .int .i64 r2.mo, .int .u32 r2.si, .int .u32 r2.so]] = recsV [r2] := by rw [hlp2]; rfl
              cbv
              refine roomI hA (by rw [hdn, recsV_len]; simp; omega) ?_
              cbv
              refine ⟨(_, _, _, _, _), weakI rfl ⟨rfl, rfl, rfl, rfl, rfl, rfl, rfl, trivial⟩ ⟨rfl, rfl, rfl, trivial⟩, ⟨jx + 1, B + 2000, lab4, k4, file4, n4, recs ++ [r2], upI hA (natEq hi3) (by omega), hjl, hnx, app_rs hA hdn hg1, by rw [List.length_append]; exact hB3.2.2.2.1, ?_, hJ4⟩, upM hA (natEq hi3) hjl (by omega)⟩
              first | exact .inl ⟨rfl, q⟩ | exact .inr ⟨_, rfl, hz1, hz2⟩
            · have h5 : e4 ≠ 0 := zeqF hA h5
              cbv
              refine condI hA (fun h6 => ?_) (fun h6 => ?_)
              · have h6 : e4 = 12 := zeqT hA h6
                rcases hq with ⟨q, _⟩ | ⟨_, hJ4⟩ | ⟨q, _⟩
                · exact absurd q h5
                rotate_left
                · rw [h6] at q; cases q
                cbv
                refine getRN hA hl (natEq hi3) hjl ?_
                rintro r2 lp2 hr2 hlp2
                have hr2 : r2 = r := hr2.trans hr.symm
                subst hr2
                cbv
                refine ⟨(_, _, _, r2, .v (.slice lp2)), weakI rfl ⟨rfl, rfl, rfl, rfl, rfl, rfl, rfl, trivial⟩ ⟨rfl, rfl, rfl, trivial⟩, ⟨jx + 1, B + 2000, lab4, k4, file4, n4, recs, upI hA (natEq hi3) (by omega), hjl, hnx, hdn, hB3.2.2.2.2.1, .inr ⟨lp2, rfl, hlp2, (hr ▸ hgj : RecOk r2).pl⟩, hJ4⟩, upM hA (natEq hi3) hjl (by omega)⟩
              · have h6 : e4 ≠ 12 := zeqF hA h6
                rcases hq with ⟨q, _⟩ | ⟨q, _⟩ | ⟨q, qd, hJ4⟩
                · exact absurd q h5
                · exact absurd q h6
                cbv
                refine condF hA (zne_f hA q) ?_
                cbv
                refine ⟨(_, _, _, _, _), weakI rfl ⟨rfl, rfl, rfl, rfl, rfl, rfl, rfl, trivial⟩ ⟨rfl, rfl, rfl, trivial⟩, ⟨jx + 1, B + 2000, lab4, k4, file4, n4, recs, upI hA (natEq hi3) (by omega), hjl, hnx, hdn, hB3.2.2.2.2.1, ?_, hJ4⟩, upM hA (natEq hi3) hjl (by omega)⟩
                first | exact .inl ⟨rfl, qd⟩ | exact .inr ⟨_, rfl, hz1, hz2⟩
          · cbv
            have hcr := dCrash hJ.j.d hB4.1 keep kl hkl hkp
            obtain ⟨fo, ms, m1, m2⟩ := hJ.back keep
            refine callGI hA (hcr) ?_
            intro rs_ g5 h_
            obtain ⟨q_1, lab5, u5, hD5⟩ := h_
            subst q_1
            cbv
            have hop5 := gOpenBack hD5 hB4.2.1 m1
            refine callGI hA (hop5) ?_
            intro rs_ g6 h_
            obtain ⟨jp5, l5, e5, q_1, he5, hl5⟩ := h_
            subst q_1
            cbv
            have hle : recs.length ≤ ms.length ∧ ms.length ≤ recs.length + 1 := by
              rcases m2 with q | ⟨_, q⟩ <;> rw [q] <;> simp
            have hat : ∀ (j : Nat) (h1 : j < recs.length) (h2 : j < ms.length), ms[j]'h2 = recs[j]'h1 := fun j h1 h2 => by
              rcases m2 with q | ⟨_, q⟩
              · subst q; rfl
              · subst q; exact List.getElem_append_left h1
            refine condF hA (zne_f hA he5) ?_
            cbv
            refine condF hA (zlt_f hA (no_lt (lenR hA hl5) (lenR hA hdn) hle.1)) ?_
            cbv
            refine condF hA (zlt_f hA (no_lt1 hA (lenR hA hdn) (lenR hA hl5) hle.2 hB4.2.2)) ?_
            cbv
            refine loopF hA (ι := Int) (fun q => { n := 152, sl := [(12, .own 84), (13, .ptr 13 0), (17, .v (.slice l5)), (19, .v (.int .i64 q))], ob := [(84, .row 8 dn true), (13, .box [.v (.int .u8 late.k), .nils, .v (.int .i64 late.sz), .v (.int .u32 late.sm), .v (.int .i64 late.mi), .v (.int .i64 late.mo), .v (.int .u32 late.si), .v (.int .u32 late.so)]), (AM.hk, .heap g6 [])] })
              (fun q => ∃ jy : Nat, q = (jy : Nat) ∧ jy ≤ recs.length) (fun q => recs.length - q.toNat) _ (weakI rfl ⟨rfl, rfl, rfl, rfl, trivial⟩ ⟨rfl, rfl, rfl, trivial⟩) ⟨0, rfl, Nat.zero_le _⟩ ?_
            rintro iy ⟨jy, hiy, hjy⟩
            cbv
            refine condI hA (fun hcy => ?_) (fun hcy => ?_)
            · have hjr := ltRs hA (natEq hiy) hdn hcy
              have hin : 0 ≤ iy ∧ iy < dn.length := ⟨by rw [natEq hiy]; exact Int.natCast_nonneg _, by rw [natEq hiy, hdn, recsV_len]; exact Int.ofNat_lt.2 hjr⟩
              have hjm := Nat.lt_of_lt_of_le hjr hle.1
              cbv
              refine chkI hA (by kernel_rfl) ?_
              cbv
              refine getRN hA hl5 (natEq hiy) hjm ?_
              rintro x1 p1 hx1 hp1
              cbv
              refine inRI hA hin ?_
              cbv
              refine getRN hA hdn (natEq hiy) hjr ?_
              rintro x2 p2 hx2 hp2
              have hx12 : x1 = x2 := hx1.trans ((hat jy hjr hjm).trans hx2.symm)
              subst hx12
              have hsm := cSameR x1 x1 p1 p2 hp1 hp2 (by rw [hx2]; exact (hJ.good _ (List.getElem_mem hjr)).1.pl)
              cbv
              refine callI hA (hsm) ?_
              intro rs_ h_
              obtain ⟨c, q_1, hcs⟩ := h_
              subst q_1
              cbv
              obtain rfl : c = true := hcs.trans (sameM_refl x1)
              refine condF hA (by rw [hA]; rfl) ?_
              cbv
              exact ⟨_, weakI rfl ⟨rfl, rfl, rfl, rfl, trivial⟩ ⟨rfl, rfl, rfl, trivial⟩, ⟨jy + 1, upI hA (natEq hiy) (by omega), hjr⟩, upM hA (natEq hiy) hjr (by omega)⟩
            · have hcy : jy = recs.length := Nat.le_antisymm hjy (not_lt_of (natEq hiy) (lenR hA hdn) (zltF hA hcy))
              cbv
              refine chkI hA (by kernel_rfl) ?_
              cbv
              refine condI hA (fun heq => ?_) (fun heq => ?_)
              · cbv
                refine callGI hA ((aw g6)) ?_
                intro rs_ g9 h_
                obtain ⟨b, q_1, hb⟩ := h_
                subst q_1
                cbv
                exact retGI hA rfl [.v (.bool b)] g9 ⟨b, rfl, hb⟩ (by first | exact ⟨rfl, trivial⟩ | trivial)
              · have heq : ms.length ≠ recs.length := fun q => zeqF hA heq ((lenR hA hl5).trans (by rw [q]; exact (lenR hA hdn).symm))
                rcases m2 with q | ⟨hdd, q⟩
                · exact absurd (by rw [q]) heq
                rw [hz] at hdd; cases hdd
        · cbv
          have hcr := dCrash hJ.j.d hB4.1 keep kl hkl hkp
          obtain ⟨fo, ms, m1, m2⟩ := hJ.back keep
          refine callGI hA (hcr) ?_
          intro rs_ g5 h_
          obtain ⟨q_1, lab5, u5, hD5⟩ := h_
          subst q_1
          cbv
          have hop5 := gOpenBack hD5 hB4.2.1 m1
          refine callGI hA (hop5) ?_
          intro rs_ g6 h_
          obtain ⟨jp5, l5, e5, q_1, he5, hl5⟩ := h_
          subst q_1
          cbv
          have hle : recs.length ≤ ms.length ∧ ms.length ≤ recs.length + 1 := by
            rcases m2 with q | ⟨_, q⟩ <;> rw [q] <;> simp
          have hat : ∀ (j : Nat) (h1 : j < recs.length) (h2 : j < ms.length), ms[j]'h2 = recs[j]'h1 := fun j h1 h2 => by
            rcases m2 with q | ⟨_, q⟩
            · subst q; rfl
            · subst q; exact List.getElem_append_left h1
          refine condF hA (zne_f hA he5) ?_
          cbv
          refine condF hA (zlt_f hA (no_lt (lenR hA hl5) (lenR hA hdn) hle.1)) ?_
          cbv
          refine condF hA (zlt_f hA (no_lt1 hA (lenR hA hdn) (lenR hA hl5) hle.2 hB4.2.2)) ?_
          cbv
          refine loopF hA (ι := Int) (fun q => { n := 152, sl := [(12, .own 84), (13, .ptr 13 0), (17, .v (.slice l5)), (19, .v (.int .i64 q))], ob := [(84, .row 8 dn true), (13, .box [.v (.int .u8 late.k), .nils, .v (.int .i64 late.sz), .v (.int .u32 late.sm), .v (.int .i64 late.mi), .v (.int .i64 late.mo), .v (.int .u32 late.si), .v (.int .u32 late.so)]), (AM.hk, .heap g6 [])] })
            (fun q => ∃ jy : Nat, q = (jy : Nat) ∧ jy ≤ recs.length) (fun q => recs.length - q.toNat) _ (weakI rfl ⟨rfl, rfl, rfl, rfl, trivial⟩ ⟨rfl, rfl, rfl, trivial⟩) ⟨0, rfl, Nat.zero_le _⟩ ?_
          rintro iy ⟨jy, hiy, hjy⟩
          cbv
          refine condI hA (fun hcy => ?_) (fun hcy => ?_)
          · have hjr := ltRs hA (natEq hiy) hdn hcy
            have hin : 0 ≤ iy ∧ iy < dn.length := ⟨by rw [natEq hiy]; exact Int.natCast_nonneg _, by rw [natEq hiy, hdn, recsV_len]; exact Int.ofNat_lt.2 hjr⟩
            have hjm := Nat.lt_of_lt_of_le hjr hle.1
            cbv
            refine chkI hA (by kernel_rfl) ?_
            cbv
            refine getRN hA hl5 (natEq hiy) hjm ?_
            rintro x1 p1 hx1 hp1
            cbv
            refine inRI hA hin ?_
            cbv
            refine getRN hA hdn (natEq hiy) hjr ?_
            rintro x2 p2 hx2 hp2
            have hx12 : x1 = x2 := hx1.trans ((hat jy hjr hjm).trans hx2.symm)
            subst hx12
            have hsm := cSameR x1 x1 p1 p2 hp1 hp2 (by rw [hx2]; exact (hJ.good _ (List.getElem_mem hjr)).1.pl)
            cbv
            refine callI hA (hsm) ?_
            intro rs_ h_
            obtain ⟨c, q_1, hcs⟩ := h_
            subst q_1
            cbv
            obtain rfl : c = true := hcs.trans (sameM_refl x1)
            refine condF hA (by rw [hA]; rfl) ?_
            cbv
            exact ⟨_, weakI rfl ⟨rfl, rfl, rfl, rfl, trivial⟩ ⟨rfl, rfl, rfl, trivial⟩, ⟨jy + 1, upI hA (natEq hiy) (by omega), hjr⟩, upM hA (natEq hiy) hjr (by omega)⟩
          · have hcy : jy = recs.length := Nat.le_antisymm hjy (not_lt_of (natEq hiy) (lenR hA hdn) (zltF hA hcy))
            cbv
            refine chkI hA (by kernel_rfl) ?_
            cbv
            refine condI hA (fun heq => ?_) (fun heq => ?_)
            · cbv
              refine callGI hA ((aw g6)) ?_
              intro rs_ g9 h_
              obtain ⟨b, q_1, hb⟩ := h_
              subst q_1
              cbv
              exact retGI hA rfl [.v (.bool b)] g9 ⟨b, rfl, hb⟩ (by first | exact ⟨rfl, trivial⟩ | trivial)
            · have heq : ms.length ≠ recs.length := fun q => zeqF hA heq ((lenR hA hl5).trans (by rw [q]; exact (lenR hA hdn).symm))
              rcases m2 with q | ⟨hdd, q⟩
              · exact absurd (by rw [q]) heq
              rw [hz] at hdd; cases hdd
      · have hdw := gDown hJ.j.d.i
        obtain ⟨dw, hdw0⟩ : ∃ b, b = k.down := ⟨_, rfl⟩
        rw [← hdw0] at hdw
        have hB4 : B ≤ 1000000000 ∧ B + 2 ≤ 1000000000 ∧ recs.length ≤ 100 := by omega
        cbv
        refine condI hA (fun hc => ?_) (fun hc => ?_)
        · have hjl := ltRs hA (natEq hi3) hl hc
          have hgj := ho _ (List.getElem_mem hjl)
          refine callGI hA (hdw) ?_
          intro rs_ g_ h_
          obtain ⟨q_1, q_2⟩ := h_
          subst q_1
          subst q_2
          cbv
          refine condI hA (fun hd => ?_) (fun hd => ?_)
          · have hd : k.down = false := hdw0 ▸ znotT hA hd
            have hB3 : B + 2000 ≤ 1000000000 ∧ B + 2000 ≤ 2 + 2000 * (jx + 1) ∧ recs.length ≤ 99 ∧ recs.length + 1 ≤ jx + 1 ∧ recs.length ≤ jx + 1 ∧ jx ≤ 100 := by omega
            have hnx : B + 2000 ≤ 2 + 2000 * (jx + 1) := hB3.2.1
            cbv
            refine getRN hA hl (natEq hi3) hjl ?_
            rintro r lp hr hlp
            have hadd := gAddF hJ hd hB3.1 hB3.2.2.1 r lp hlp (hr ▸ hgj)
            cbv
            refine callGI hA (hadd) ?_
            intro rs_ g4 h_
            obtain ⟨e4, q_1, lab4, k4, file4, n4, u4, hq⟩ := h_
            subst q_1
            cbv
            refine condI hA (fun h5 => ?_) (fun h5 => ?_)
            · have h5 : e4 = 0 := zeqT hA h5
              rcases hq with ⟨_, q, hJ4⟩ | ⟨q, _⟩ | ⟨q, _⟩
              rotate_left
              · rw [h5] at q; cases q
              · rw [h5] at q; cases q
              cbv
              refine getRN hA hl (natEq hi3) hjl ?_
              rintro r2 lp2 hr2 hlp2
              have hr2 : r2 = r := hr2.trans hr.symm
              subst hr2
              have hg1 : [V.agg [.int .u8 r2.k, .slice lp2, .int .i64 r2.sz, .int .u32 r2.sm, .int .i64 r2.mi, .int .i64 r2.mo, .int .u32 r2.si, .int .u32 r2.so]] = recsV [r2] := by rw [hlp2]; rfl
              cbv
              refine roomI hA (by rw [hdn, recsV_len]; simp; omega) ?_
              cbv
              refine ⟨(_, _, _, _, _), weakI rfl ⟨rfl, rfl, rfl, rfl, rfl, rfl, rfl, trivial⟩ ⟨rfl, rfl, rfl, trivial⟩, ⟨jx + 1, B + 2000, lab4, k4, file4, n4, recs ++ [r2], upI hA (natEq hi3) (by omega), hjl, hnx, app_rs hA hdn hg1, by rw [List.length_append]; exact hB3.2.2.2.1, ?_, hJ4⟩, upM hA (natEq hi3) hjl (by omega)⟩
              first | exact .inl ⟨rfl, q⟩ | exact .inr ⟨_, rfl, hz1, hz2⟩
            · have h5 : e4 ≠ 0 := zeqF hA h5
              cbv
              refine condI hA (fun h6 => ?_) (fun h6 => ?_)
              · have h6 : e4 = 12 := zeqT hA h6
                rcases hq with ⟨q, _⟩ | ⟨_, hJ4⟩ | ⟨q, _⟩
                · exact absurd q h5
                rotate_left
                · rw [h6] at q; cases q
                cbv
                refine getRN hA hl (natEq hi3) hjl ?_
                rintro r2 lp2 hr2 hlp2
                have hr2 : r2 = r := hr2.trans hr.symm
                subst hr2
                cbv
                refine ⟨(_, _, _, r2, .v (.slice lp2)), weakI rfl ⟨rfl, rfl, rfl, rfl, rfl, rfl, rfl, trivial⟩ ⟨rfl, rfl, rfl, trivial⟩, ⟨jx + 1, B + 2000, lab4, k4, file4, n4, recs, upI hA (natEq hi3) (by omega), hjl, hnx, hdn, hB3.2.2.2.2.1, .inr ⟨lp2, rfl, hlp2, (hr ▸ hgj : RecOk r2).pl⟩, hJ4⟩, upM hA (natEq hi3) hjl (by omega)⟩
              · have h6 : e4 ≠ 12 := zeqF hA h6
                rcases hq with ⟨q, _⟩ | ⟨q, _⟩ | ⟨q, qd, hJ4⟩
                · exact absurd q h5
                · exact absurd q h6
                cbv
                refine condF hA (zne_f hA q) ?_
                cbv
                refine ⟨(_, _, _, _, _), weakI rfl ⟨rfl, rfl, rfl, rfl, rfl, rfl, rfl, trivial⟩ ⟨rfl, rfl, rfl, trivial⟩, ⟨jx + 1, B + 2000, lab4, k4, file4, n4, recs, upI hA (natEq hi3) (by omega), hjl, hnx, hdn, hB3.2.2.2.2.1, ?_, hJ4⟩, upM hA (natEq hi3) hjl (by omega)⟩
                first | exact .inl ⟨rfl, qd⟩ | exact .inr ⟨_, rfl, hz1, hz2⟩
          · cbv
            have hcr := dCrash hJ.j.d hB4.1 keep kl hkl hkp
            obtain ⟨fo, ms, m1, m2⟩ := hJ.back keep
            refine callGI hA (hcr) ?_
            intro rs_ g5 h_
            obtain ⟨q_1, lab5, u5, hD5⟩ := h_
            subst q_1
            cbv
            have hop5 := gOpenBack hD5 hB4.2.1 m1
            refine callGI hA (hop5) ?_
            intro rs_ g6 h_
            obtain ⟨jp5, l5, e5, q_1, he5, hl5⟩ := h_
            subst q_1
            cbv
            have hle : recs.length ≤ ms.length ∧ ms.length ≤ recs.length + 1 := by
              rcases m2 with q | ⟨_, q⟩ <;> rw [q] <;> simp
            have hat : ∀ (j : Nat) (h1 : j < recs.length) (h2 : j < ms.length), ms[j]'h2 = recs[j]'h1 := fun j h1 h2 => by
              rcases m2 with q | ⟨_, q⟩
              · subst q; rfl
              · subst q; exact List.getElem_append_left h1
            refine condF hA (zne_f hA he5) ?_
            cbv
            refine condF hA (zlt_f hA (no_lt (lenR hA hl5) (lenR hA hdn) hle.1)) ?_
            cbv
            refine condF hA (zlt_f hA (no_lt1 hA (lenR hA hdn) (lenR hA hl5) hle.2 hB4.2.2)) ?_
            cbv
            refine loopF hA (ι := Int) (fun q => { n := 152, sl := [(12, .own 84), (13, .ptr 13 0), (17, .v (.slice l5)), (19, .v (.int .i64 q))], ob := [(84, .row 8 dn true), (13, .box [.v (.int .u8 late.k), .v (.slice lp0), .v (.int .i64 late.sz), .v (.int .u32 late.sm), .v (.int .i64 late.mi), .v (.int .i64 late.mo), .v (.int .u32 late.si), .v (.int .u32 late.so)]), (AM.hk, .heap g6 [])] })
              (fun q => ∃ jy : Nat, q = (jy : Nat) ∧ jy ≤ recs.length) (fun q => recs.length - q.toNat) _ (weakI rfl ⟨rfl, rfl, rfl, rfl, trivial⟩ ⟨rfl, rfl, rfl, trivial⟩) ⟨0, rfl, Nat.zero_le _⟩ ?_
            rintro iy ⟨jy, hiy, hjy⟩
            cbv
            refine condI hA (fun hcy => ?_) (fun hcy => ?_)
            · have hjr := ltRs hA (natEq hiy) hdn hcy
              have hin : 0 ≤ iy ∧ iy < dn.length := ⟨by rw [natEq hiy]; exact Int.natCast_nonneg _, by rw [natEq hiy, hdn, recsV_len]; exact Int.ofNat_lt.2 hjr⟩
              have hjm := Nat.lt_of_lt_of_le hjr hle.1
              cbv
              refine chkI hA (by kernel_rfl) ?_
              cbv
              refine getRN hA hl5 (natEq hiy) hjm ?_
              rintro x1 p1 hx1 hp1
              cbv
              refine inRI hA hin ?_
              cbv
              refine getRN hA hdn (natEq hiy) hjr ?_
              rintro x2 p2 hx2 hp2
              have hx12 : x1 = x2 := hx1.trans ((hat jy hjr hjm).trans hx2.symm)
              subst hx12
              have hsm := cSameR x1 x1 p1 p2 hp1 hp2 (by rw [hx2]; exact (hJ.good _ (List.getElem_mem hjr)).1.pl)
              cbv
              refine callI hA (hsm) ?_
              intro rs_ h_
              obtain ⟨c, q_1, hcs⟩ := h_
              subst q_1
              cbv
              obtain rfl : c = true := hcs.trans (sameM_refl x1)
              refine condF hA (by rw [hA]; rfl) ?_
              cbv
              exact ⟨_, weakI rfl ⟨rfl, rfl, rfl, rfl, trivial⟩ ⟨rfl, rfl, rfl, trivial⟩, ⟨jy + 1, upI hA (natEq hiy) (by omega), hjr⟩, upM hA (natEq hiy) hjr (by omega)⟩
            · have hcy : jy = recs.length := Nat.le_antisymm hjy (not_lt_of (natEq hiy) (lenR hA hdn) (zltF hA hcy))
              cbv
              refine chkI hA (by kernel_rfl) ?_
              cbv
              refine condI hA (fun heq => ?_) (fun heq => ?_)
              · cbv
                refine callGI hA ((aw g6)) ?_
                intro rs_ g9 h_
                obtain ⟨b, q_1, hb⟩ := h_
                subst q_1
                cbv
                exact retGI hA rfl [.v (.bool b)] g9 ⟨b, rfl, hb⟩ (by first | exact ⟨rfl, trivial⟩ | trivial)
              · have heq : ms.length ≠ recs.length := fun q => zeqF hA heq ((lenR hA hl5).trans (by rw [q]; exact (lenR hA hdn).symm))
                rcases m2 with q | ⟨hdd, q⟩
                · exact absurd (by rw [q]) heq
                have hlt6 : recs.length < ms.length := by rw [q]; exact last_lt recs late
                cbv
                refine getRN hA hl5 (natEq (lenR hA hdn)) hlt6 ?_
                rintro x1 p1 hx1 hp1
                have hx1 : x1 = late := hx1.trans (by subst q; exact last_at recs late _)
                subst hx1
                have hsm := cSameR x1 x1 p1 lp0 hp1 hz1 hz2
                cbv
                refine callI hA (hsm) ?_
                intro rs_ h_
                obtain ⟨c, q_1, hcs⟩ := h_
                subst q_1
                cbv
                obtain rfl : c = true := hcs.trans (sameM_refl x1)
                refine condT hA rfl ?_
                cbv
                refine callGI hA ((aw g6)) ?_
                intro rs_ g9 h_
                obtain ⟨b, q_1, hb⟩ := h_
                subst q_1
                cbv
                exact retGI hA rfl [.v (.bool b)] g9 ⟨b, rfl, hb⟩ (by first | exact ⟨rfl, trivial⟩ | trivial)
        · cbv
          have hcr := dCrash hJ.j.d hB4.1 keep kl hkl hkp
          obtain ⟨fo, ms, m1, m2⟩ := hJ.back keep
          refine callGI hA (hcr) ?_
          intro rs_ g5 h_
          obtain ⟨q_1, lab5, u5, hD5⟩ := h_
          subst q_1
          cbv
          have hop5 := gOpenBack hD5 hB4.2.1 m1
          refine callGI hA (hop5) ?_
          intro rs_ g6 h_
          obtain ⟨jp5, l5, e5, q_1, he5, hl5⟩ := h_
          subst q_1
          cbv
          have hle : recs.length ≤ ms.length ∧ ms.length ≤ recs.length + 1 := by
            rcases m2 with q | ⟨_, q⟩ <;> rw [q] <;> simp
          have hat : ∀ (j : Nat) (h1 : j < recs.length) (h2 : j < ms.length), ms[j]'h2 = recs[j]'h1 := fun j h1 h2 => by
            rcases m2 with q | ⟨_, q⟩
            · subst q; rfl
            · subst q; exact List.getElem_append_left h1
          refine condF hA (zne_f hA he5) ?_
          cbv
          refine condF hA (zlt_f hA (no_lt (lenR hA hl5) (lenR hA hdn) hle.1)) ?_
          cbv
          refine condF hA (zlt_f hA (no_lt1 hA (lenR hA hdn) (lenR hA hl5) hle.2 hB4.2.2)) ?_
          cbv
          refine loopF hA (ι := Int) (fun q => { n := 152, sl := [(12, .own 84), (13, .ptr 13 0), (17, .v (.slice l5)), (19, .v (.int .i64 q))], ob := [(84, .row 8 dn true), (13, .box [.v (.int .u8 late.k), .v (.slice lp0), .v (.int .i64 late.sz), .v (.int .u32 late.sm), .v (.int .i64 late.mi), .v (.int .i64 late.mo), .v (.int .u32 late.si), .v (.int .u32 late.so)]), (AM.hk, .heap g6 [])] })
            (fun q => ∃ jy : Nat, q = (jy : Nat) ∧ jy ≤ recs.length) (fun q => recs.length - q.toNat) _ (weakI rfl ⟨rfl, rfl, rfl, rfl, trivial⟩ ⟨rfl, rfl, rfl, trivial⟩) ⟨0, rfl, Nat.zero_le _⟩ ?_
          rintro iy ⟨jy, hiy, hjy⟩
          cbv
          refine condI hA (fun hcy => ?_) (fun hcy => ?_)
          · have hjr := ltRs hA (natEq hiy) hdn hcy
            have hin : 0 ≤ iy ∧ iy < dn.length := ⟨by rw [natEq hiy]; exact Int.natCast_nonneg _, by rw [natEq hiy, hdn, recsV_len]; exact Int.ofNat_lt.2 hjr⟩
            have hjm := Nat.lt_of_lt_of_le hjr hle.1
            cbv
            refine chkI hA (by kernel_rfl) ?_
            cbv
            refine getRN hA hl5 (natEq hiy) hjm ?_
            rintro x1 p1 hx1 hp1
            cbv
            refine inRI hA hin ?_
            cbv
            refine getRN hA hdn (natEq hiy) hjr ?_
            rintro x2 p2 hx2 hp2
            have hx12 : x1 = x2 := hx1.trans ((hat jy hjr hjm).trans hx2.symm)
            subst hx12
            have hsm := cSameR x1 x1 p1 p2 hp1 hp2 (by rw [hx2]; exact (hJ.good _ (List.getElem_mem hjr)).1.pl)
            cbv
            refine callI hA (hsm) ?_
            intro rs_ h_
            obtain ⟨c, q_1, hcs⟩ := h_
            subst q_1
            cbv
            obtain rfl : c = true := hcs.trans (sameM_refl x1)
            refine condF hA (by rw [hA]; rfl) ?_
            cbv
            exact ⟨_, weakI rfl ⟨rfl, rfl, rfl, rfl, trivial⟩ ⟨rfl, rfl, rfl, trivial⟩, ⟨jy + 1, upI hA (natEq hiy) (by omega), hjr⟩, upM hA (natEq hiy) hjr (by omega)⟩
          · have hcy : jy = recs.length := Nat.le_antisymm hjy (not_lt_of (natEq hiy) (lenR hA hdn) (zltF hA hcy))
            cbv
            refine chkI hA (by kernel_rfl) ?_
            cbv
            refine condI hA (fun heq => ?_) (fun heq => ?_)
            · cbv
              refine callGI hA ((aw g6)) ?_
              intro rs_ g9 h_
              obtain ⟨b, q_1, hb⟩ := h_
              subst q_1
              cbv
              exact retGI hA rfl [.v (.bool b)] g9 ⟨b, rfl, hb⟩ (by first | exact ⟨rfl, trivial⟩ | trivial)
            · have heq : ms.length ≠ recs.length := fun q => zeqF hA heq ((lenR hA hl5).trans (by rw [q]; exact (lenR hA hdn).symm))
              rcases m2 with q | ⟨hdd, q⟩
              · exact absurd (by rw [q]) heq
              have hlt6 : recs.length < ms.length := by rw [q]; exact last_lt recs late
              cbv
              refine getRN hA hl5 (natEq (lenR hA hdn)) hlt6 ?_
              rintro x1 p1 hx1 hp1
              have hx1 : x1 = late := hx1.trans (by subst q; exact last_at recs late _)
              subst hx1
              have hsm := cSameR x1 x1 p1 lp0 hp1 hz1 hz2
              cbv
              refine callI hA (hsm) ?_
              intro rs_ h_
              obtain ⟨c, q_1, hcs⟩ := h_
              subst q_1
              cbv
              obtain rfl : c = true := hcs.trans (sameM_refl x1)
              refine condT hA rfl ?_
              cbv
              refine callGI hA ((aw g6)) ?_
              intro rs_ g9 h_
              obtain ⟨b, q_1, hb⟩ := h_
              subst q_1
              cbv
              exact retGI hA rfl [.v (.bool b)] g9 ⟨b, rfl, hb⟩ (by first | exact ⟨rfl, trivial⟩ | trivial)
theorem cKeeps (gs : List RecM) (l : List V) (hl : l = recsV gs) (fv : Int) (f : Nat) (hfv : fv = f) (hf : f < 256) (keep : Bs) (kl : List V) (hkl : kl = bytesV keep) (hkp : keep.length ≤ 140737488355328) (ho : ∀ a ∈ gs, RecOk a) : CallR Try.prog 6 [.slice l, .int .u8 fv, .slice kl] fun rs => rs = [.v (.bool true)] :=
  .ofLaw fun gh => gKeeps gh gs l hl fv f hfv hf keep kl hkl hkp ho
end Go.Proofs.Ythioccbgjkbmdaa.AM

/-
  THE LAW JournalKeeps HOLDS: behind a crash the journal has the records that were answered, and at the most the one that was under way. No condition.
-/
set_option linter.unusedVariables false
set_option linter.unusedSimpArgs false
namespace Go.Proofs.Ythioccbgjkbmdaa.AM
open Go Go.RowKit Go.ChangeShapes Go.WideShapes Go.ChangeAt
set_option maxRecDepth 100000

theorem progOwn : ownKnob Try.prog.godebug = none := by kernel_rfl
theorem progLaid : laidOutB Try.prog = true := by kernel_rfl
theorem argsRead : ([22, 5, 23] : List Nat).all (fun t => Try.prog.readableRec t && Nat.blt t Try.prog.types.size) = true := by kernel_rfl
theorem journalKeeps_lifted (os : Os) (started : os.Started) (H : Type) (enc : TypeId × Value → H) :
    ReturnsInHanded {} Try.checked os 6 .any (Rows.journalKeepsSpec.pre6 enc Try.prog Try.f6 Rows.journalKeepsRow.domain false) (Rows.journalKeepsSpec.post enc Try.prog Try.f6 false true false false) := by
  refine returnsInHanded_of_change_sized (C := Try.checked) progOwn started (by kernel_rfl) Try.func6
    (ChangeSpec.witness6 (enc := enc) (C := Try.checked) false ⟨#[], #[.slice none 0 0, .int .u8 0, .slice none 0 0], []⟩ 8 (by kernel_rfl) (by kernel_rfl) (by kernel_rfl) (by kernel_rfl)) ?_
  intro W base args ds gs before hval hW hcnd hwt _
  refine calls_row T_ok (ts := [22, 5, 23]) (tb := 4) (k := 8) (by rw [Try.params6]) (by kernel_rfl) Try.underlying4 (by decide) (fun t ht => ?_) progLaid rfl (fun ds hds => ?_) (fun xs hx hty => ?_) hval hW hwt
  · have e := List.all_eq_true.1 argsRead t (by simpa using ht)
    rw [Bool.and_eq_true] at e
    exact ⟨e.1, Nat.le_of_ble_eq_true e.2⟩
  · match ds, hds with
    | [d0, d1, d2], _ => rfl
  · match xs, hx, hty with
    | [x0, x1, x2], _, hty =>
      obtain ⟨r0, rfl, g0, h0⟩ := tv_recs (k := 4) (hty 0 (by simp) (by simp))
      obtain ⟨n1, rfl, h1⟩ := tv_u8 (k := 7) rfl (hty 1 (by simp) (by simp))
      obtain ⟨b2, rfl, h2⟩ := tv_bytes (k := 6) rfl rfl rfl (hty 2 (by simp) (by simp))
      obtain ⟨rs, q1, rfl⟩ := cKeeps r0 _ rfl _ n1 rfl h1 b2 _ rfl h2 h0
      exact .of_R q1

/-- **JournalKeeps.** -/
theorem journalKeeps_holds : Rows.JournalKeepsSaid :=
  OpenClaim.holds_of_wide 6 Try.f6 rfl rfl rfl rfl rfl rfl rfl ⟨rfl, rfl, rfl, rfl, rfl⟩ rfl rfl rfl rfl rfl (by kernel_rfl) Try.func6 (by kernel_rfl)
    (of_decide_eq_true (by kernel_rfl)) (by unfold Func.isWrapper; rw [if_neg (by decide +kernel)]; exact ⟨rfl, rfl⟩)
    (fun os started H enc _ => journalKeeps_lifted os started H enc)
end Go.Proofs.Ythioccbgjkbmdaa.AM
