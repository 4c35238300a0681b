/-
  Contracts: the closed case of the journal's laws.
-/
import Derived.Test.YthioccbgjkbmdaaM25436e4e65
set_option linter.unusedVariables false
set_option linter.unusedSimpArgs false
namespace Go.Proofs.Ythioccbgjkbmdaa.AM
open Go Go.RowKit
set_option maxRecDepth 100000
set_option maxHeartbeats 4000000

theorem i64_0 : I64 0 := by unfold I64; omega
theorem gLen {gh : GH} {lab : Lab} {p : Nat} {k : Dk} {B jp : Nat} {file n : Int} (h : JD gh lab p k B jp file n) : FnG Try.prog 12 [.gp jp 0] gh fun rs g => ∃ m : Int, rs = [.v (.int .i64 m)] ∧ m = n ∧ gh = g := by
  have hj := h.j.at_
  unfold jBox at hj
  refine FnG.of' T_ok M_ok [] (fn := Try.f12) (by kernel_rfl) rfl rfl rfl rfl (Nat.le_of_ble_eq_true rfl) fun A hA => ?_
  cbv
  refine gldI hA _ (hj) ?_
  cbv
  exact retGI hA rfl [.v (.int .i64 n)] gh (⟨n, rfl, rfl, rfl⟩) (by first | exact ⟨rfl, trivial⟩ | exact ⟨rfl, rfl, trivial⟩ | exact ⟨rfl, rfl, rfl, trivial⟩ | trivial)
theorem gThere {gh : GH} {lab : Lab} {p : Nat} {k : Dk} {B jp : Nat} {file n : Int} (h : JD gh lab p k B jp file n) : FnG Try.prog 18 [.gp jp 0] gh fun rs g => ∃ b : Bool, rs = [.v (.bool b)] ∧ (b = true ↔ file ≠ 0) ∧ gh = g := by
  have hj := h.j.at_
  unfold jBox at hj
  refine FnG.of' T_ok M_ok [] (fn := Try.f18) (by kernel_rfl) rfl rfl rfl rfl (Nat.le_of_ble_eq_true rfl) fun A hA => ?_
  cbv
  refine gldI hA _ (hj) ?_
  cbv
  exact retGI hA rfl [.v (.bool (A.ine file 0))] gh (⟨_, rfl, by rw [hA]; simp [std], rfl⟩) (by first | exact ⟨rfl, trivial⟩ | exact ⟨rfl, rfl, trivial⟩ | exact ⟨rfl, rfl, rfl, trivial⟩ | trivial)
theorem framesB_one (a : RecM) : framesB 0 [a] = frameL 0 (putB a) := by simp [framesB]
theorem R3_good : Good R3 := ⟨R3_ok, R3_check⟩
/-- Add, where nothing is told to fail. -/
theorem gAddC {C : Nat} (hC : C ≤ 1000000000) {gh : GH} {lab : Lab} {p : Nat} {k : Dk} {B jp c : Nat} {file n : Int} {recs : List RecM} (h : JD gh lab p k B jp file n) (hn : n = (recs.length : Nat)) (hB : B + 2000 ≤ 1000000000) (hS : JSt C c k file recs) (hf : k.fail.is = false) (hc : c ≤ 4000) (a : RecM) (l : List V) (ha : l = strsV a.path) (hr : RecOk a) (hck : checkM a = true) (hsz : (framesB 0 recs).length + (10 + (putB a).length) ≤ C) (ho : w64 k.ops = k.ops) (hrl : recs.length ≤ 1000) :
    ∃ k' file', k'.fail.is = false ∧ JSt C c k' file' (recs ++ [a]) ∧ k'.ops = w64 (k.ops + if file = 0 then 4 else 2) ∧ FnG Try.prog 11 [.gp jp 0, .agg [.int .u8 a.k, .slice l, .int .i64 a.sz, .int .u32 a.sm, .int .i64 a.mi, .int .i64 a.mo, .int .u32 a.si, .int .u32 a.so]] gh fun rs g => ∃ e : Int, rs = [.v (.int .i64 e)] ∧ e = 0 ∧ JDid gh lab p k' (B + 2000) jp file' ((recs ++ [a]).length : Nat) g := by
  obtain ⟨b1, b2, b3, b4, b5⟩ := add_calm hC hS hf hc hr hck hsz ho
  have hi : I64 file := by
    rcases hS.2 with ⟨q, _⟩ | ⟨j, q, r, q2⟩
    · rw [q]; exact i64_0
    · have := (List.getElem?_eq_some_iff.1 r.at_).1
      rw [q]; unfold I64; omega
  have hg := gAdd h hB (by omega) hi a l ha hr
  rw [hn] at hg
  refine ⟨_, _, b2, b3, b5, hg.mono fun rs g ⟨e, q1, q2, q3⟩ => ⟨e, q1, q2.trans b1, b4 ▸ q3⟩⟩
theorem gAwake18 (gh : GH) : FnG Try.prog 8 [] gh fun rs g => ∃ b : Bool, rs = [.v (.bool b)] ∧ b = true := by
  obtain ⟨k0, hk0⟩ : ∃ k, k = dkNew 1000 := ⟨_, rfl⟩
  have hn := dNew gh 1000 (by decide) (by decide)
  rw [← hk0] at hn
  have S0 : JSt 1000 1 k0 0 [] := by rw [hk0]; exact ⟨⟨rfl, rfl, rfl⟩, .inl ⟨rfl, rfl, rfl, Nat.le_refl _⟩⟩
  have F0 : k0.fail.is = false := by rw [hk0]; rfl
  have O0 : k0.ops = 0 := by rw [hk0]; rfl
  have pl : (putB R3).length = 17 := by rw [R3_put]; rfl
  have fl1 : (framesB 0 ([] ++ [R3])).length = 27 := by rw [List.nil_append, framesB_one, frameL_len, pl]
  have open_ : ∀ (k : Dk) (file : Int) (recs : List RecM) (g : GH) (lab : Lab) (p B : Nat), JSt 1000 1 k file recs → k.fail.is = false → (∀ a ∈ recs, Good a) → DI g lab p k B → B + 2 ≤ 1000000000 → FnG Try.prog 10 [.gp p 0] g fun rs g' => ∃ (jp : Nat) (l : List V) (e : Int), rs = [.v (.gp jp 0), .v (.slice l), .v (.int .i64 e)] ∧ e = 0 ∧ l = recsV recs ∧ ∃ lab', Upd g g' lab lab' (fun _ => True) (fun _ => False) ∧ JD g' lab' p k (B + 2) jp file (recs.length : Nat) := fun k file recs g lab p B hS hf hg hD hB =>
    (gOpen hD hB).mono fun rs g' ⟨x, l, e, q1, q2, lab', u, hD', hm⟩ => by
      rw [open_st hS hf hg] at q2 hD' hm
      obtain ⟨hl, jp, rfl, _, hs⟩ := hm
      exact ⟨jp, l, e, q1, q2, hl, lab', u, hD', hs⟩
  refine FnG.of' T_ok M_ok [] (fn := Try.f8) (by kernel_rfl) rfl rfl rfl rfl (Nat.le_of_ble_eq_true rfl) fun A hA => ?_
  cbv
  refine callGI hA (hn) ?_
  intro rs_ g1 h_
  obtain ⟨p, lab1, q_1, hp, hn1, hold, hD1⟩ := h_
  subst q_1
  cbv
  have ho := open_ k0 0 [] g1 lab1 p 0 S0 F0 (by simp) hD1 (by decide)
  refine callGI hA (ho) ?_
  intro rs_ g2 h_
  obtain ⟨jp, l, e, q_1, he, hl, lab2, u2, J2⟩ := h_
  subst q_1
  cbv
  obtain ⟨k1, f1, F1, S1, O1, ha1⟩ := gAddC (by decide) J2 rfl (by decide) S0 F0 (by decide) R3 [] rfl R3_ok R3_check (by rw [pl]; decide) (by rw [O0]; rfl) (by decide)
  have O1 : k1.ops = 4 := by rw [O1, O0]; rfl
  have hf1 : f1 ≠ 0 := by
    rcases S1.2 with ⟨_, q, _⟩ | ⟨j, q, r, q2⟩
    · simp at q
    · rw [q]; omega
  cbv
  refine condF hA (zne_f hA ((lenR hA hl).trans rfl)) ?_
  cbv
  refine condF hA (zne_f hA he) ?_
  cbv
  refine callGI hA (ha1) ?_
  intro rs_ g3 h_
  obtain ⟨e1, q_1, he1, lab3, u3, J3⟩ := h_
  subst q_1
  cbv
  have hops := gOps J3.d.i
  refine condF hA (zne_f hA he1) ?_
  cbv
  refine callGI hA (hops) ?_
  intro rs_ g_ h_
  obtain ⟨q_1, q_2⟩ := h_
  subst q_1
  subst q_2
  cbv
  obtain ⟨k2, f2, F2, S2, O2, ha2⟩ := gAddC (by decide) J3 rfl (by decide) S1 F1 (by decide) R3 [] rfl R3_ok R3_check (by rw [fl1, pl]; decide) (by rw [O1]; rfl) (by decide)
  have O2 : k2.ops = 6 := by rw [O2, O1, if_neg hf1]; rfl
  refine condF hA (zne_f hA O1) ?_
  cbv
  refine callGI hA (ha2) ?_
  intro rs_ g4 h_
  obtain ⟨e2, q_1, he2, lab4, u4, J4⟩ := h_
  subst q_1
  cbv
  have hops := gOps J4.d.i
  refine condF hA (zne_f hA he2) ?_
  cbv
  refine callGI hA (hops) ?_
  intro rs_ g_ h_
  obtain ⟨q_1, q_2⟩ := h_
  subst q_1
  subst q_2
  cbv
  refine condF hA (zne_f hA O2) ?_
  cbv
  have ho2 := open_ k2 f2 _ _ lab4 p _ S2 F2 (fun a ha => by simp at ha; rw [ha]; exact R3_good) J4.d (by decide)
  refine callGI hA (ho2) ?_
  intro rs_ g5 h_
  obtain ⟨jp5, l5, e5, q_1, he5, hl5, lab5, u5, J5⟩ := h_
  subst q_1
  cbv
  have K5 : JD g5 lab5 p k2 _ jp f2 _ := ⟨J5.d, J4.j.upd u5⟩
  have hf2 : f2 ≠ 0 := by
    rcases S2.2 with ⟨_, q, _⟩ | ⟨j, q, r, q2⟩
    · simp at q
    · rw [q]; omega
  have hlen := gLen K5
  have hth := gThere K5
  have hcl := gClear K5 (by decide)
  have hcs := clear_step S2 F2
  refine condT hA (zeq_t hA ((lenR hA hl5).trans rfl)) ?_
  cbv
  refine condT hA (zeq_t hA he5) ?_
  cbv
  refine callGI hA (hlen) ?_
  intro rs_ g_ h_
  obtain ⟨m, q_1, hm, q_2⟩ := h_
  subst q_1
  subst q_2
  cbv
  refine condT hA (zeq_t hA (hm.trans rfl)) ?_
  cbv
  refine callGI hA (hth) ?_
  intro rs_ g_ h_
  obtain ⟨b, q_1, hb, q_2⟩ := h_
  subst q_1
  subst q_2
  cbv
  refine condT hA (hb.2 hf2) ?_
  cbv
  refine callGI hA (hcl) ?_
  intro rs_ g6 h_
  obtain ⟨e6, q_1, he6, lab6, u6, J6⟩ := h_
  subst q_1
  cbv
  have hth6 := gThere J6
  refine condT hA (zeq_t hA (he6.trans hcs.1)) ?_
  cbv
  refine callGI hA (hth6) ?_
  intro rs_ g_ h_
  obtain ⟨b6, q_1, hb6, q_2⟩ := h_
  subst q_1
  subst q_2
  cbv
  obtain rfl : b6 = false := Bool.eq_false_iff.2 fun q => hb6.1 q hcs.2.2.1
  refine condT hA (by rw [hA]; rfl) ?_
  cbv
  exact retGI hA rfl [.v (.bool true)] g6 ⟨true, rfl, rfl⟩ (by first | exact ⟨rfl, trivial⟩ | trivial)
end Go.Proofs.Ythioccbgjkbmdaa.AM

/-
  Contracts: without a disk, without a journal.
-/
set_option linter.unusedVariables false
set_option linter.unusedSimpArgs false
namespace Go.Proofs.Ythioccbgjkbmdaa.AM
open Go Go.RowKit
set_option maxRecDepth 100000
set_option maxHeartbeats 4000000

def nob : Dk := ((dkNew 100).makeD 1 jName true).1
theorem noG_b (b : Bool) : ∀ r ∈ [Rs.v (.bool b)], r.noG := fun r hr => by
  simp at hr; rw [hr]; exact NoG.bool b
/-- A law's answer, where it has a common heap of its own. -/
theorem CallR.ofLaw {f : Nat} {xs : List V} (h : ∀ gh, FnG Try.prog f xs gh fun rs g => ∃ b : Bool, rs = [.v (.bool b)] ∧ b = true) : CallR Try.prog f xs fun rs => rs = [.v (.bool true)] :=
  .of _ rfl (.ofG (noG_b true) fun n => (h _).mono fun rs g ⟨b, h1, h2⟩ => by rw [h1, h2])
end Go.Proofs.Ythioccbgjkbmdaa.AM

/-
  Contracts: any record is added.
-/
set_option linter.unusedVariables false
set_option linter.unusedSimpArgs false
namespace Go.Proofs.Ythioccbgjkbmdaa.AM
open Go Go.RowKit
set_option maxRecDepth 100000
set_option maxHeartbeats 4000000

theorem framesB_lim {gs : List RecM} (hg : ∀ a ∈ gs, Good a) (hl : gs.length ≤ 100) : (framesB 0 gs).length ≤ 103400 := by
  have := framesB_len gs 0 hg
  omega
/-- A journal and its disk, where nothing is told to fail: a journal's law goes on so. -/
structure JK (c : Nat) (gh : GH) (lab : Lab) (p : Nat) (B jp : Nat) (recs : List RecM) (k : Dk) (file : Int) : Prop where
  j : JD gh lab p k B jp file (recs.length : Nat)
  st : JSt 1048576 c k file recs
  calm : k.fail.is = false
  ops : w64 k.ops = k.ops
  good : ∀ a ∈ recs, Good a
/-- Add of any record, where nothing is told to fail. -/
theorem gAddK {c : Nat} (hcc : c ≤ 4000) {gh : GH} {lab : Lab} {p : Nat} {B jp : Nat} {recs : List RecM} {k : Dk} {file : Int} (h : JK c gh lab p B jp recs k file) (hB : B + 2000 ≤ 1000000000) (hrl : recs.length ≤ 99) (a : RecM) (l : List V) (ha : l = strsV a.path) (hr : RecOk a) :
    FnG Try.prog 11 [.gp jp 0, .agg [.int .u8 a.k, .slice l, .int .i64 a.sz, .int .u32 a.sm, .int .i64 a.mi, .int .i64 a.mo, .int .u32 a.si, .int .u32 a.so]] gh fun rs g => ∃ e : Int, rs = [.v (.int .i64 e)] ∧ (e = 0 ↔ checkM a = true) ∧ ∃ lab' k' file', Upd gh g lab lab' (fun _ => True) (fun x => x = jp) ∧ JK c g lab' p (B + 2000) jp (recs ++ kept [a]) k' file' := by
  have hpb := putB_small hr
  have hfl := framesB_lim h.good (by omega)
  cases hc : checkM a with
  | true =>
    have hk : kept [a] = [a] := by simp [kept, hc]
    obtain ⟨k', file', f1, f2, f3, f4⟩ := gAddC (C := 1048576) (by decide) h.j rfl hB h.st h.calm hcc a l ha hr hc (by omega) h.ops (by omega)
    rw [hk]
    refine f4.mono fun rs g ⟨e, q1, q2, lab', u, hJ⟩ => ⟨e, q1, ⟨fun _ => rfl, fun _ => q2⟩, lab', k', file', u, hJ, f2, f1, by rw [f3]; exact w64_w64 _, fun x hx => ?_⟩
    rcases List.mem_append.1 hx with q | q
    · exact h.good x q
    · rw [List.mem_singleton.1 q]; exact ⟨hr, hc⟩
  | false =>
    have hk : kept [a] = [] := by simp [kept, hc]
    have hi : I64 file := by
      rcases h.st.2 with ⟨q, _⟩ | ⟨j, q, r, q2⟩
      · rw [q]; exact i64_0
      · have := (List.getElem?_eq_some_iff.1 r.at_).1
        rw [q]; unfold I64; omega
    have q : ∀ n, k.addD file n a = (k, file, n, 2) := fun n => by unfold Dk.addD; rw [if_pos hc]
    rw [hk, List.append_nil]
    refine (gAdd h.j hB (by omega) hi a l ha hr).mono fun rs g ⟨e, q1, q2, q3⟩ => ?_
    rw [q] at q2 q3
    obtain ⟨lab', u, hJ⟩ := q3
    have q2 : e = 2 := q2
    exact ⟨e, q1, ⟨fun h0 => by rw [q2] at h0; (cases h0), fun h0 => nomatch h0⟩, lab', k, file, u, hJ, h.st, h.calm, h.ops, h.good⟩
/-- Open, where all is whole: the records, and a journal of its own. -/
theorem op_ops (k : Dk) (c : Bool) (i : Int) (f : Nd → Nd) (h : w64 k.ops = k.ops) : w64 (k.op c i f).ops = (k.op c i f).ops := by
  unfold Dk.op; split
  · split <;> exact w64_w64 _
  · exact h
theorem clear_ops (k : Dk) (file n : Int) (h : w64 k.ops = k.ops) : w64 (k.clearD file n).1.ops = (k.clearD file n).1.ops := by
  have hu : w64 (k.unlD 1 jName).1.ops = (k.unlD 1 jName).1.ops := by
    unfold Dk.unlD; split
    · exact h
    · split
      · split
        · exact h
        · exact op_ops _ _ _ _ h
      · exact h
  have hs : ∀ q : Dk, w64 q.ops = q.ops → w64 (q.syncD 1).1.ops = (q.syncD 1).1.ops := fun q hq => by
    unfold Dk.syncD; split
    · exact hq
    · exact op_ops _ _ _ _ hq
  unfold Dk.clearD
  split
  · exact h
  · dsimp only; split
    · exact hu
    · exact hs _ hu
theorem kept_next {gs : List RecM} {j : Nat} (h : j < gs.length) : kept (gs.take (j + 1)) = kept (gs.take j) ++ kept [gs[j]] := by
  rw [kept_take h]; unfold kept; simp [List.filter_cons]
theorem gOpenK {c : Nat} {gh : GH} {lab : Lab} {p B : Nat} {recs : List RecM} {k : Dk} {file : Int} (hD : DI gh lab p k B) (hS : JSt 1048576 c k file recs) (hf : k.fail.is = false) (ho : w64 k.ops = k.ops) (hg : ∀ a ∈ recs, Good a) (hB : B + 2 ≤ 1000000000) :
    FnG Try.prog 10 [.gp p 0] gh fun rs g => ∃ (jp : Nat) (l : List V) (e : Int), rs = [.v (.gp jp 0), .v (.slice l), .v (.int .i64 e)] ∧ e = 0 ∧ l = recsV recs ∧ gh.next ≤ jp ∧ ∃ lab', Upd gh g lab lab' (fun _ => True) (fun _ => False) ∧ JK c g lab' p (B + 2) jp recs k file :=
  (gOpen hD hB).mono fun rs g' ⟨x, l, e, q1, q2, lab', u, hD', hm⟩ => by
    rw [open_st hS hf hg] at q2 hD' hm
    obtain ⟨hl, jp, rfl, hj, hs⟩ := hm
    exact ⟨jp, l, e, q1, q2, hl, hj, lab', u, ⟨hD', hs⟩, hS, hf, ho, hg⟩
theorem st_new : JSt 1048576 3 (dkNew 1048576) 0 [] := ⟨⟨rfl, rfl, rfl⟩, .inl ⟨rfl, rfl, rfl, (by show 1 ≤ 3; omega)⟩⟩
/-- A journal of a new disk. -/
theorem gStart (gh : GH) : FnG Try.prog 9 [.int .i64 1048576] gh fun rs g => ∃ p : Nat, rs = [.v (.gp p 0)] ∧ FnG Try.prog 10 [.gp p 0] g fun rs g' => ∃ (jp : Nat) (l : List V) (e : Int), rs = [.v (.gp jp 0), .v (.slice l), .v (.int .i64 e)] ∧ e = 0 ∧ l = [] ∧ ∃ lab' k, JK 3 g' lab' p 2 jp [] k 0 :=
  (dNew gh 1048576 (by decide) (by decide)).mono fun rs g ⟨p, lab', q1, q2, q3, q4, q5⟩ => ⟨p, q1, (gOpenK (c := 3) q5 st_new rfl rfl (by simp) (by decide)).mono fun rs g' ⟨jp, l, e, r1, r2, r3, _, lab2, _, r4⟩ => ⟨jp, l, e, r1, r2, r3, lab2, _, r4⟩⟩
theorem gClears (gh : GH) (gs ms : List RecM) (l m : List V) (hl : l = recsV gs) (hm : m = recsV ms) (keep : Bs) (kl : List V) (hkl : kl = bytesV keep) (hkp : keep.length ≤ 140737488355328) (ho : ∀ a ∈ gs, RecOk a) (ho2 : ∀ a ∈ ms, RecOk a) : FnG Try.prog 5 [.slice l, .slice m, .slice kl] gh fun rs g => ∃ b : Bool, rs = [.v (.bool b)] ∧ b = true := by
  have aw : ∀ g : GH, FnG Try.prog 8 [] g fun rs g => ∃ b : Bool, rs = [.v (.bool b)] ∧ b = true := gAwake18
  refine FnG.of' T_ok M_ok [] (fn := Try.f5) (by kernel_rfl) rfl rfl rfl rfl (Nat.le_of_ble_eq_true rfl) fun A hA => ?_
  cbv
  refine condI hA (fun h1 => ?_) (fun h1 => ?_)
  · cbv
    refine callGI hA ((aw gh)) ?_
    intro rs_ g9 h_
    obtain ⟨b, q_1, hb⟩ := h_
    subst q_1
    cbv
    exact retGI hA rfl [.v (.bool b)] g9 ⟨b, rfl, hb⟩ (by first | exact ⟨rfl, trivial⟩ | trivial)
  · have h1 := zltF hA h1
    cbv
    refine condI hA (fun h2 => ?_) (fun h2 => ?_)
    · cbv
      refine callGI hA ((aw gh)) ?_
      intro rs_ g9 h_
      obtain ⟨b, q_1, hb⟩ := h_
      subst q_1
      cbv
      exact retGI hA rfl [.v (.bool b)] g9 ⟨b, rfl, hb⟩ (by first | exact ⟨rfl, trivial⟩ | trivial)
    · have h2 := zltF hA h2
      have hgl : gs.length ≤ 20 := by have h1 : ¬ (20 : Int) < A.lenL l := h1; rw [lenR hA hl] at h1; omega
      have hml : ms.length ≤ 20 := by have h2 : ¬ (20 : Int) < A.lenL m := h2; rw [lenR hA hm] at h2; omega
      cbv
      refine callGI hA ((gStart gh)) ?_
      intro rs_ g1 h_
      obtain ⟨p, q_1, hop⟩ := h_
      subst q_1
      cbv
      refine callGI hA (hop) ?_
      intro rs_ g2 h_
      obtain ⟨jp, l0, e0, q_1, he0, hl0, lab2, k2, hK⟩ := h_
      subst q_1
      cbv
      refine loopF hA (ι := Int × GH) (fun q => { n := 140, sl := [(0, .v (.slice l)), (1, .v (.slice m)), (2, .v (.slice kl)), (7, .v (.gp p 0)), (8, .v (.gp jp 0)), (11, .v (.int .i64 q.1))], ob := [(hk, .heap q.2 [])] })
        (fun q => ∃ (jx B : Nat) (lab : Lab) (k : Dk) (file : Int), q.1 = (jx : Nat) ∧ jx ≤ gs.length ∧ B ≤ 2 + 2000 * jx ∧ JK 3 q.2 lab p B jp (kept (gs.take jx)) k file) (fun q => gs.length - q.1.toNat) (_, _) (weakI rfl ⟨rfl, rfl, rfl, rfl, rfl, rfl, trivial⟩ ⟨rfl, trivial⟩) ⟨0, 2, lab2, k2, 0, rfl, Nat.zero_le _, Nat.le_refl _, hK⟩ ?_
      rintro ⟨i, g⟩ ⟨jx, B, lab, k, file, hi, hj, hB, hJ⟩
      dsimp only at hi hJ
      cbv
      refine condI hA (fun hc => ?_) (fun hc => ?_)
      · have hjl := ltRs hA (natEq hi) hl hc
        have hgj := ho _ (List.getElem_mem hjl)
        have hkt := kept_next hjl
        have hkl2 : (kept (gs.take jx)).length ≤ 99 := by have := kept_len (gs.take jx); rw [List.length_take] at this; omega
        have hB3 : B + 2000 ≤ 1000000000 ∧ B + 2000 ≤ 2 + 2000 * (jx + 1) := by omega
        cbv
        refine getRN hA hl (natEq hi) hjl ?_
        rintro r lp hr hlp
        cbv
        refine condI hA (fun h3 => ?_) (fun h3 => ?_)
        · cbv
          refine callGI hA ((aw g)) ?_
          intro rs_ g9 h_
          obtain ⟨b, q_1, hb⟩ := h_
          subst q_1
          cbv
          exact retGI hA rfl [.v (.bool b)] g9 ⟨b, rfl, hb⟩ (by first | exact ⟨rfl, trivial⟩ | trivial)
        · cbv
          refine getRN hA hl (natEq hi) hjl ?_
          rintro r2 lp2 hr2 hlp2
          have hadd := gAddK (by decide) hJ hB3.1 hkl2 r2 lp2 hlp2 (hr2 ▸ hgj)
          cbv
          refine callGI hA (hadd) ?_
          intro rs_ g3 h_
          obtain ⟨e, q_1, he, lab3, k3, file3, u3, hJ3⟩ := h_
          subst q_1
          cbv
          exact ⟨(_, g3), weakI rfl ⟨rfl, rfl, rfl, rfl, rfl, rfl, trivial⟩ ⟨rfl, trivial⟩, ⟨jx + 1, B + 2000, lab3, k3, file3, upI hA (natEq hi) (by omega), hjl, hB3.2, by rw [hkt, ← hr2]; exact hJ3⟩, upM hA (natEq hi) hjl (by omega)⟩
      · have hB3 : B + 2 ≤ 1000000000 := by omega
        have hB4 : B + 2 + 2 ≤ 1000000000 := by omega
        have hB5 : B + 2 + 2 ≤ 60000 := by omega
        have hcl := gClear hJ.j hB3
        have hcs := clear_step hJ.st hJ.calm
        have hcw := clear_ops k file (kept (gs.take jx)).length hJ.ops
        cbv
        refine callGI hA (hcl) ?_
        intro rs_ g3 h_
        obtain ⟨e, q_1, he, lab3, u3, hJ3⟩ := h_
        subst q_1
        cbv
        refine condI hA (fun h4 => ?_) (fun h4 => ?_)
        · exact absurd (he.trans hcs.1) (zneT hA h4)
        · have S4 : JK 4 g3 lab3 p (B + 2) jp [] _ 0 := ⟨⟨hJ3.d, by have := hJ3.j; rw [hcs.2.2.1, hcs.2.2.2.1] at this; exact this⟩, hcs.2.2.2.2, hcs.2.1, hcw, by simp⟩
          have hlen := gLen S4.j
          have hth := gThere S4.j
          cbv
          refine callGI hA (hlen) ?_
          intro rs_ g_ h_
          obtain ⟨m0, q_1, hm0, q_2⟩ := h_
          subst q_1
          subst q_2
          cbv
          refine condF hA (zne_f hA (hm0.trans rfl)) ?_
          cbv
          refine callGI hA (hth) ?_
          intro rs_ g_ h_
          obtain ⟨b0, q_1, hb0, q_2⟩ := h_
          subst q_1
          subst q_2
          cbv
          obtain rfl : b0 = false := Bool.eq_false_iff.2 fun q => hb0.1 q rfl
          obtain ⟨hr4, hl4⟩ : _ ∧ _ := by
            rcases S4.st.2 with ⟨_, _, q1, q2⟩ | ⟨j, q, _⟩
            · exact And.intro q1 q2
            · omega
          obtain ⟨C1, C2, C3, C4⟩ := crash_none S4.st.1 hr4 keep
          have hcr := dCrash S4.j.d hB3 keep kl hkl hkp
          refine condF hA rfl ?_
          cbv
          refine callGI hA (hcr) ?_
          intro rs_ g5 h_
          obtain ⟨q_1, lab5, u5, hD5⟩ := h_
          subst q_1
          cbv
          have hfi := dFind hD5 1 i64_1 jName
          have hop5 := gOpenK (c := 4) (recs := []) (file := 0) hD5 ⟨C1, .inl ⟨rfl, rfl, C3, by rw [C4]; exact hl4⟩⟩ C2 S4.ops (by simp) hB4
          have hnone : ((Dk.clearD k file ((kept (gs.take jx)).length : Nat)).1.crash keep).findE 1 jName = (0, 8) := find0 C1.up C3
          refine callGI hA (hfi) ?_
          intro rs_ g_ h_
          obtain ⟨fi, fe, q_1, _, hfe, q_2⟩ := h_
          subst q_1
          subst q_2
          cbv
          have hfe : fe = 8 := by rw [hfe, hnone]
          refine callGI hA (hop5) ?_
          intro rs_ g6 h_
          obtain ⟨jp6, l6, e6, q_1, he6, hl6, _, lab6, u6, hK6⟩ := h_
          subst q_1
          cbv
          refine condF hA (zne_f hA he6) ?_
          cbv
          refine condF hA (zne_f hA hfe) ?_
          cbv
          refine condF hA (zne_f hA ((lenR hA hl6).trans rfl)) ?_
          cbv
          refine loopF hA (ι := Int × Int × GH) (fun q => { n := 140, sl := [(1, .v (.slice m)), (7, .v (.gp p 0)), (8, .v (.gp jp6 0)), (16, .v (.int .i64 q.2.1)), (17, .v (.int .i64 q.1))], ob := [(hk, .heap q.2.2 [])] })
            (fun q => ∃ (jx B : Nat) (lab : Lab) (k : Dk) (file : Int), q.1 = (jx : Nat) ∧ q.2.1 = ((kept (ms.take jx)).length : Nat) ∧ jx ≤ ms.length ∧ B ≤ 60000 + 2000 * jx ∧ JK 4 q.2.2 lab p B jp6 (kept (ms.take jx)) k file) (fun q => ms.length - q.1.toNat) (_, _, _) (weakI rfl ⟨rfl, rfl, rfl, rfl, rfl, trivial⟩ ⟨rfl, trivial⟩) ⟨0, _, lab6, _, 0, rfl, rfl, Nat.zero_le _, hB5, hK6⟩ ?_
          rintro ⟨i2, n2, g7⟩ ⟨jy, B7, lab7, k7, file7, hi2, hn2, hj7, hB7, hJ7⟩
          dsimp only at hi2 hn2 hJ7
          cbv
          refine condI hA (fun hc2 => ?_) (fun hc2 => ?_)
          · have hjl := ltRs hA (natEq hi2) hm hc2
            have hgj := ho2 _ (List.getElem_mem hjl)
            have hkt := kept_next hjl
            have hkl2 : (kept (ms.take jy)).length ≤ 99 := by have := kept_len (ms.take jy); rw [List.length_take] at this; omega
            have hB8 : B7 + 2000 ≤ 1000000000 ∧ B7 + 2000 ≤ 60000 + 2000 * (jy + 1) := by omega
            cbv
            refine getRN hA hm (natEq hi2) hjl ?_
            rintro r lp hr hlp
            cbv
            refine condI hA (fun h3 => ?_) (fun h3 => ?_)
            · cbv
              refine callGI hA ((aw g7)) ?_
              intro rs_ g9 h_
              obtain ⟨b, q_1, hb⟩ := h_
              subst q_1
              cbv
              exact retGI hA rfl [.v (.bool b)] g9 ⟨b, rfl, hb⟩ (by first | exact ⟨rfl, trivial⟩ | trivial)
            · cbv
              refine getRN hA hm (natEq hi2) hjl ?_
              rintro r2 lp2 hr2 hlp2
              have hadd := gAddK (by decide) hJ7 hB8.1 hkl2 r2 lp2 hlp2 (hr2 ▸ hgj)
              cbv
              refine callGI hA (hadd) ?_
              intro rs_ g8 h_
              obtain ⟨e8, q_1, he8, lab8, k8, file8, u8, hJ8⟩ := h_
              subst q_1
              cbv
              refine condI hA (fun h9 => ?_) (fun h9 => ?_)
              · have h9 : checkM r2 = true := he8.1 (zeqT hA h9)
                cbv
                exact ⟨(_, _, g8), weakI rfl ⟨rfl, rfl, rfl, rfl, rfl, trivial⟩ ⟨rfl, trivial⟩, ⟨jy + 1, B7 + 2000, lab8, k8, file8, upI hA (natEq hi2) (by omega), (zadd hA n2 1).trans (by rw [hkt, ← hr2, natEq hn2, List.length_append, show kept [r2] = [r2] from by simp [kept, h9], w64_id (by omega)]; rfl), hjl, hB8.2, by rw [hkt, ← hr2]; exact hJ8⟩, upM hA (natEq hi2) hjl (by omega)⟩
              · have h9 : ¬ checkM r2 = true := fun q => zeqF hA h9 (he8.2 q)
                cbv
                exact ⟨(_, _, g8), weakI rfl ⟨rfl, rfl, rfl, rfl, rfl, trivial⟩ ⟨rfl, trivial⟩, ⟨jy + 1, B7 + 2000, lab8, k8, file8, upI hA (natEq hi2) (by omega), by rw [hkt, ← hr2, List.length_append, show kept [r2] = [] from by simp [kept, h9]]; exact hn2, hjl, hB8.2, by rw [hkt, ← hr2]; exact hJ8⟩, upM hA (natEq hi2) hjl (by omega)⟩
          · have hop7 := gOpenK hJ7.j.d hJ7.st hJ7.calm hJ7.ops hJ7.good (by omega)
            cbv
            refine callGI hA (hop7) ?_
            intro rs_ g8 h_
            obtain ⟨jp8, l8, e8, q_1, he8, hl8, _, lab8, u8, hK8⟩ := h_
            subst q_1
            cbv
            have K8 : JD g8 lab8 p k7 _ jp6 file7 _ := ⟨hK8.j.d, hJ7.j.j.upd u8⟩
            have hlen := gLen K8
            refine condT hA (zeq_t hA he8) ?_
            cbv
            refine condT hA (zeq_t hA ((lenR hA hl8).trans hn2.symm)) ?_
            cbv
            refine callGI hA (hlen) ?_
            intro rs_ g_ h_
            obtain ⟨m8, q_1, hm8, q_2⟩ := h_
            subst q_1
            subst q_2
            cbv
            refine condT hA (zeq_t hA (hm8.trans hn2.symm)) ?_
            cbv
            refine callGI hA ((aw g8)) ?_
            intro rs_ g9 h_
            obtain ⟨b, q_1, hb⟩ := h_
            subst q_1
            cbv
            exact retGI hA rfl [.v (.bool b)] g9 ⟨b, rfl, hb⟩ (by first | exact ⟨rfl, trivial⟩ | trivial)
theorem cClears (gs ms : List RecM) (l m : List V) (hl : l = recsV gs) (hm : m = recsV ms) (keep : Bs) (kl : List V) (hkl : kl = bytesV keep) (hkp : keep.length ≤ 140737488355328) (ho : ∀ a ∈ gs, RecOk a) (ho2 : ∀ a ∈ ms, RecOk a) : CallR Try.prog 5 [.slice l, .slice m, .slice kl] fun rs => rs = [.v (.bool true)] :=
  .ofLaw fun gh => gClears gh gs ms l m hl hm keep kl hkl hkp ho ho2
end Go.Proofs.Ythioccbgjkbmdaa.AM

/-
  Contracts: bytes behind the journal's records.
-/
set_option linter.unusedVariables false
set_option linter.unusedSimpArgs false
namespace Go.Proofs.Ythioccbgjkbmdaa.AM
open Go Go.RowKit
set_option maxRecDepth 100000
set_option maxHeartbeats 4000000

theorem no_lt {a b : Int} {m n : Nat} (ha : a = m) (hb : b = n) (h : n ≤ m) : ¬ a < b := by omega
theorem not_lt_of {a b : Int} {m n : Nat} (ha : a = m) (hb : b = n) (h : ¬ a < b) : n ≤ m := by omega
theorem last_lt (recs : List RecM) (a : RecM) : recs.length < (recs ++ [a]).length := by simp
theorem last_at (recs : List RecM) (a : RecM) (h : recs.length < (recs ++ [a]).length) : (recs ++ [a])[recs.length]'h = a := by simp
theorem sameM_refl (a : RecM) : sameM a a = true := by simp [sameM]
end Go.Proofs.Ythioccbgjkbmdaa.AM
