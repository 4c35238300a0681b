/-
 Contracts: what steps do.
-/
import Derived.Test.YthioccbgjkbmdaaGreatM19adf3db9e
set_option linter.unusedVariables false
set_option linter.unusedSimpArgs false
set_option maxRecDepth 100000
set_option maxHeartbeats 4000000
namespace Go.Proofs.YthioccbgjkbmdaaGreat.AM
open Go Go.RowKit
theorem ByV.app {gh : GH} {lab : Lab} {r : Nat × Nat} {v : V} {b : Bs} (h : ByV gh lab r v b) : SlApp gh 1 (bytesV b) v := by
 rcases h with ⟨h1, h2⟩ | h | ⟨id, h1, _, h2⟩
 ·exact .inl ⟨h1, by rw [h2]; rfl⟩
 ·exact .inr (.inl h)
 ·exact .inr (.inr ⟨id, by rw [h1, bytesV_len], h2⟩)
theorem SlApp.open {gh : GH} {z : Nat} {l : List V} {y : V} (h : SlApp gh z l y) : (y = .nils) ∨ (y = .xs l) ∨ ∃ (id : Nat) (n : Int), y = .gs id n := by
 rcases h with ⟨h, _⟩ | h | ⟨id, h, _⟩
 ·exact .inl h
 ·exact .inr (.inl h)
 ·exact .inr (.inr ⟨id, _, h⟩)
structure CtAt (gh : GH) (lab : Lab) (rb rm : Nat × Nat) (dir : Bool) (cid off : Nat) (l : List V) (c : Ct) : Prop where
 dom : Dom gh lab
 lt : cid < gh.next
 box : gh.get cid = some (.box l)
 ne : lab cid ≠ some rb ∧ lab cid ≠ some rm
 nb : rb ≠ rm
 vals : ∃ vb ve, l[off]? = some vb ∧ l[off + 1]? = some ve ∧ ByV gh lab rb vb c.b ∧ MpV gh lab rm dir ve c.en
def Done (gh g : GH) (lab : Lab) (rb rm : Nat × Nat) (dir : Bool) (cid off : Nat) (l : List V) (c : Ct) : Prop :=
 ∃ lab' vb ve, Upd gh g lab lab' (fun q => q = rb ∨ q = rm) (fun x => x = cid) ∧ g.get cid = some (.box ((l.set off vb).set (off + 1) ve)) ∧ ByV g lab' rb vb c.b ∧ MpV g lab' rm dir ve c.en
theorem gDoApp {gh : GH} {lab : Lab} {rb rm : Nat × Nat} {cid off : Nat} {l : List V} {c : Ct} (h : CtAt gh lab rb rm false cid off l c) (a : Bs) (k : Nat) (h1 : 1 ≤ k) (h2 : k ≤ a.length) (hr : c.b.length + k ≤ 140737488355328) :
  FnG Tryz.prog 77 [.gp cid off, .int .i64 k, .ref [.slice (bytesV a)]] gh fun rs g => rs = [] ∧ Done gh g lab rb rm false cid off l { c with b := c.b ++ a.take k } := by
 obtain ⟨hd, hlt, hbox, ⟨hn1, hn2⟩, hnb, vb, ve, hvb, hve, hby, hmp⟩ := h
 obtain ⟨kk, hkk⟩ : ∃ kk : Int, kk = (k : Nat) := ⟨_, rfl⟩
 obtain ⟨la, hla⟩ : ∃ la, la = bytesV a := ⟨_, rfl⟩
 obtain ⟨lb, hlb⟩ : ∃ lb, lb = bytesV c.b := ⟨_, rfl⟩
 have happ := hby.app
 rw [← hlb] at happ
 have f1 : (0 : Int) ≤ 0 ∧ (0 : Int) ≤ kk ∧ kk ≤ (la.length : Nat) := by rw [hla, bytesV_len]; omega
 have f2 : la.take kk.toNat = bytesV (a.take k) := by rw [hla, bytesV_take, hkk]; rfl
 have hofl := (List.getElem?_eq_some_iff.1 hvb).1
 rw [← hkk, ← hla]
 refine FnG.of' T_ok M_ok [13] (fn := Tryz.f77) (by kernel_rfl) rfl rfl rfl rfl (Nat.le_of_ble_eq_true rfl) fun A hA => ?_
 cbv
 refine chkI hA (by kernel_rfl) ?_
 cbv
 refine gldI hA l hbox ?_ (hv := hvb)
 cbv
 refine sizedI hA (bytesV_flat hla) ?_
 refine subLN hA f1 ?_
 intro r2 hr2
 have hr2 : r2 = bytesV (a.take k) := hr2.trans f2
 cbv
 have hne : r2 ≠ [] := by
  intro e
  have := congrArg List.length hr2
  rw [e, bytesV_len] at this
  simp at this; omega
 have hroom : (lb.length + r2.length) * 1 ≤ 140737488355328 := by rw [hlb, hr2, bytesV_len, bytesV_len]; simp; omega
 have hsrc : SrcIs gh 1 (.slice r2) r2 := ⟨rfl, bytesV_flat hr2⟩
 have hcat : lb ++ r2 = bytesV (c.b ++ a.take k) := by rw [hlb, hr2, bytesV_app]
 have hgs : ∀ x n, vb = .gs x n → lab x = some rb := fun x n e => by
  rcases hby with ⟨q, _⟩ | q | ⟨id, q, q2, _⟩
  ·rw [q] at e; cases e
  ·rw [q] at e; cases e
  ·rw [q] at e; cases e; exact q2
 obtain ⟨nx, hnx⟩ : ∃ nx, nx = gh.next := ⟨_, rfl⟩
 have last : ∀ (g1 g2 : GH) (m : Int), g1.next = gh.next + 1 → g1.get gh.next = some (.arow 1 (lb ++ r2)) → (∀ j, j < gh.next → (∀ n, vb ≠ .gs j n) → g1.get j = gh.get j) → m = ((lb ++ r2).length : Nat) → g2 = g1.set cid (.box (l.set off (.gs gh.next m))) → Done gh g2 lab rb rm false cid off l { c with b := c.b ++ a.take k } := fun g1 g2 m e1 e2 e3 e4 e5 => by
  have u : Upd gh g2 lab (fun x => if x = gh.next then some rb else lab x) (fun q => q = rb ∨ q = rm) (fun x => x = cid) := ⟨by rw [e5]; simp; omega, fun x hx => by rw [if_neg (by omega)], fun x hx => by
   rw [e5] at hx; simp at hx
   rw [if_neg (by omega)]; exact hd x (by omega), fun x hx n t => by
   rw [e5]; simp only [GH.set_get]; rw [if_neg n]
   refine e3 x hx fun m' e => ?_
   exact t rb (hgs x m' e) (.inl rfl)⟩
  refine ⟨_, .gs gh.next m, ve, u, ?_, .inr (.inr ⟨gh.next, by rw [e4, hcat, bytesV_len], by simp, ?_⟩), hmp⟩
  ·rw [e5]; simp only [GH.set_get, if_true]
   rw [set_same (l := l.set off _) (by rw [List.getElem?_set_ne (by omega)]; exact hve)]
  ·rw [e5]; simp only [GH.set_get]; rw [if_neg (by omega), e2, hcat]
 have hapo := happ.open
 rcases hapo with rfl | rfl | ⟨id, m0, rfl⟩
 all_goals cbv
 all_goals refine gappSI hA lb r2 happ hsrc hne (bytesV_flat hlb) hroom ?_
 all_goals intro g1 m e1 e2 e3 e4
 all_goals have hbox1 : g1.get cid = some (.box l) := (e3 cid hlt fun n e => hn1 (hgs cid n e)).trans hbox
 all_goals cbv
 all_goals refine gstI hA l hbox1 ?_ (hle := hofl)
 all_goals intro g2 hg2
 all_goals have hg2 : g2 = g1.set cid (.box (l.set off (.gs gh.next m))) := hg2.trans (congrArg (fun q => g1.set cid (.box q)) (box_put hofl rfl))
 all_goals cbv
 all_goals exact retGI hA rfl [] g2 ⟨rfl, last g1 g2 m e1 e2 e3 e4 hg2⟩ trivial
theorem gslN {A : Prim} {R : List (Nat × AObj) → List D → Prop} (hA : A = std Tryz.prog R) {t e z : Nat} {x y1 y2 : Operand} {gh : GH} {y : V} {s r : List V} {m : Int} {k k' : IntKind} {K : V → Prop} (hy : SlIs gh z s y) (h : 0 ≤ m ∧ m ≤ s.length) (hz : ∀ x ∈ s, x.flat.length = z) (hr : r = s.take m.toNat) (hK : K (.xs r)) (hk : (tyOf t).k = .slice e := by rfl) (hkn : known (tyOf e).k = true := by rfl) (hzz : (tyOf e).size = z := by rfl) : A.gq (.slice t x none (some y1) (some y2)) [y, .int k m, .int k' m] gh K := by
 subst hzz; exact gsl3I hA hy h hz (hr ▸ hK) hk hkn
theorem gDoCut {gh : GH} {lab : Lab} {rb rm : Nat × Nat} {cid off : Nat} {l : List V} {c : Ct} (h : CtAt gh lab rb rm false cid off l c) (n : Nat) (hn : n ≤ c.b.length) (k : Int) :
  FnG Tryz.prog 88 [.gp cid off, .int .i64 k, .ref [.int .i64 n]] gh fun rs g => rs = [] ∧ Done gh g lab rb rm false cid off l { c with b := c.b.take n } := by
 obtain ⟨hd, hlt, hbox, ⟨hn1, hn2⟩, hnb, vb, ve, hvb, hve, hby, hmp⟩ := h
 obtain ⟨m, hm⟩ : ∃ m : Int, m = (n : Nat) := ⟨_, rfl⟩
 obtain ⟨lb, hlb⟩ : ∃ lb, lb = bytesV c.b := ⟨_, rfl⟩
 have his := hby.is
 rw [← hlb] at his
 have f1 : 0 ≤ m ∧ m ≤ (lb.length : Nat) := by rw [hlb, bytesV_len]; omega
 obtain ⟨r, hr⟩ : ∃ r, r = lb.take m.toNat := ⟨_, rfl⟩
 have hr2 : r = bytesV (c.b.take n) := by rw [hr, hlb, bytesV_take, hm]; rfl
 have hofl := (List.getElem?_eq_some_iff.1 hvb).1
 rw [← hm]
 refine FnG.of' T_ok M_ok [] (fn := Tryz.f88) (by kernel_rfl) rfl rfl rfl rfl (Nat.le_of_ble_eq_true rfl) fun A hA => ?_
 cbv
 refine chkI hA (by kernel_rfl) ?_
 cbv
 refine gldI hA l hbox ?_ (hv := hvb)
 cbv
 refine gslN hA his f1 (bytesV_flat hlb) hr ?_
 cbv
 refine gstI hA l hbox ?_ (hle := hofl)
 intro g hg
 have hg : g = gh.set cid (.box (l.set off (.xs r))) := hg.trans (congrArg (fun q => gh.set cid (.box q)) (box_put hofl rfl))
 cbv
 refine retGI hA rfl [] g ⟨rfl, lab, .xs r, ve, Upd.mk0 hd (by rw [hg]; exact Nat.le_refl _) (fun x _ hx _ => by rw [hg]; simp only [GH.set_get]; rw [if_neg hx]), ?_, .inr (.inl (by rw [hr2])), hmp⟩ trivial
 rw [hg]; simp only [GH.set_get, if_true]
 rw [set_same (l := l.set off _) (by rw [List.getElem?_set_ne (by omega)]; exact hve)]
theorem done_map {gh g : GH} {lab : Lab} {rb rm : Nat × Nat} {cid off mid : Nat} {l : List V} {c : Ct} {o : GObj} {en : List (Bs × Nat)} (h : CtAt gh lab rb rm true cid off l c) (hm : lab mid = some rm) (hve : l[off + 1]? = some (.gm mid)) (hg : g = gh.set mid o) (t : List (Nat × Bs × Nat)) (ck : Nat) (ho : o = .map (encE t) ck) (hok : MpOk t ck en) : Done gh g lab rb rm true cid off l { c with en := en } := by
 obtain ⟨hd, hlt, hbox, ⟨hn1, hn2⟩, hnb, vb, ve, hvb, hve', hby, hmp⟩ := h
 have hne : cid ≠ mid := fun e => by subst e; exact hn2 hm
 have u : Upd gh g lab lab (fun q => q = rb ∨ q = rm) (fun x => x = cid) := Upd.mk0 hd (by rw [hg]; exact Nat.le_refl _) (fun x _ hx ht => by
  rw [hg]; simp only [GH.set_get]; rw [if_neg]
  intro e; subst e; exact ht rm hm (.inr rfl))
 have u2 : Upd gh g lab lab (fun q => q = rm) (fun _ => False) := Upd.mk0 hd (by rw [hg]; exact Nat.le_refl _) (fun x _ hx ht => by
  rw [hg]; simp only [GH.set_get]; rw [if_neg]
  intro e; subst e; exact ht rm hm rfl)
 refine ⟨lab, vb, .gm mid, u, ?_, hby.upd hd u2 hnb (fun _ h => h.elim), mid, t, ck, rfl, hm, by rw [hg, ho]; simp, hok⟩
 rw [hg]; simp only [GH.set_get]; rw [if_neg hne, set_same hvb, set_same hve]; exact hbox
theorem gDoLink {gh : GH} {lab : Lab} {rb rm : Nat × Nat} {cid off : Nat} {l : List V} {c : Ct} (h : CtAt gh lab rb rm true cid off l c) (s : Bs) (i : Nat) (k : Int) :
  FnG Tryz.prog 143 [.gp cid off, .int .i64 k, .ref [.int .i64 i], .ref [.str s]] gh fun rs g => rs = [] ∧ Done gh g lab rb rm true cid off l { c with en := enWith c.en s i } := by
 have h0 := h
 obtain ⟨hd, hlt, hbox, ⟨hn1, hn2⟩, hnb, vb, ve, hvb, hve, hby, mid, t, ck, rfl, hlm, hgm, hok⟩ := h
 obtain ⟨m, hm⟩ : ∃ m : Int, m = (i : Nat) := ⟨_, rfl⟩
 obtain ⟨t', ht1, ht2⟩ := set_enc hok s i
 rw [← hm] at ht1 ⊢
 refine FnG.of' T_ok M_ok [] (fn := Tryz.f143) (by kernel_rfl) rfl rfl rfl rfl (Nat.le_of_ble_eq_true rfl) fun A hA => ?_
 cbv
 refine chkI hA (by kernel_rfl) ?_
 cbv
 refine gldI hA l hbox ?_ (hv := hve)
 cbv
 refine gmapI hA hgm (strKeys_enc t) ?_ uMap uStr
 intro g hg
 cbv
 exact retGI hA rfl [] g ⟨rfl, done_map h0 hlm hve hg t' _ (by rw [ht1]) ht2⟩ trivial
theorem gDoUnl {gh : GH} {lab : Lab} {rb rm : Nat × Nat} {cid off : Nat} {l : List V} {c : Ct} (h : CtAt gh lab rb rm true cid off l c) (s : Bs) (k : Int) :
  FnG Tryz.prog 102 [.gp cid off, .int .i64 k, .ref [.str s]] gh fun rs g => rs = [] ∧ Done gh g lab rb rm true cid off l { c with en := enWithout c.en s } := by
 have h0 := h
 obtain ⟨hd, hlt, hbox, ⟨hn1, hn2⟩, hnb, vb, ve, hvb, hve, hby, mid, t, ck, rfl, hlm, hgm, hok⟩ := h
 obtain ⟨t', ht1, ht2⟩ := del_enc hok s
 refine FnG.of' T_ok M_ok [] (fn := Tryz.f102) (by kernel_rfl) rfl rfl rfl rfl (Nat.le_of_ble_eq_true rfl) fun A hA => ?_
 cbv
 refine chkI hA (by kernel_rfl) ?_
 cbv
 refine gldI hA l hbox ?_ (hv := hve)
 cbv
 refine gdelI hA hgm (strKeys_enc t) ?_ uMap uStr
 intro g hg
 cbv
 exact retGI hA rfl [] g ⟨rfl, done_map h0 hlm hve hg t' _ (by rw [ht1]) ht2⟩ trivial
def StOk (dir : Bool) (c : Ct) (k : Nat) : Stp → Prop
 | .app a => dir = false ∧ 1 ≤ k ∧ k ≤ a.length ∧ c.b.length + k ≤ 140737488355328
 | .cut n => dir = false ∧ n ≤ c.b.length
 | .link _ _ => dir = true
 | .unl _ => dir = true
 | .ren _ _ _ => False
theorem gDo {gh : GH} {lab : Lab} {rb rm : Nat × Nat} {dir : Bool} {cid off : Nat} {l : List V} {c : Ct} (h : CtAt gh lab rb rm dir cid off l c) (s : Stp) (k : Nat) (hs : StOk dir c k s) :
  ∃ f caps, encC s = .clo f caps ∧ FnG Tryz.prog f (.gp cid off :: .int .i64 k :: caps) gh fun rs g => rs = [] ∧ Done gh g lab rb rm dir cid off l (s.run c k) := by
 cases s with
 | app a => obtain ⟨rfl, h1, h2, h3⟩ := hs; exact ⟨_, _, rfl, gDoApp h a k h1 h2 h3⟩
 | cut n => obtain ⟨rfl, h1⟩ := hs; exact ⟨_, _, rfl, gDoCut h n h1 k⟩
 | link s i => have : dir = true := hs; subst this; exact ⟨_, _, rfl, gDoLink h s i k⟩
 | unl s => have : dir = true := hs; subst this; exact ⟨_, _, rfl, gDoUnl h s k⟩
 | ren f t i => exact hs.elim
open Go Go.RowKit
def fnOf (s : Stp) : Nat := match encC s with
 | .clo f _ => f
 | _ => 0
def capsOf (s : Stp) : List V := match encC s with
 | .clo _ c => c
 | _ => []
theorem gDo' {gh : GH} {lab : Lab} {rb rm : Nat × Nat} {dir : Bool} {cid off : Nat} {l : List V} {c : Ct} (h : CtAt gh lab rb rm dir cid off l c) (s : Stp) (k : Nat) (hs : StOk dir c k s) (kk : Int) (hk : kk = (k : Nat)) :
  FnG Tryz.prog (fnOf s) (.gp cid off :: .int .i64 kk :: capsOf s) gh fun rs g => rs = [] ∧ Done gh g lab rb rm dir cid off l (s.run c k) := by
 subst hk
 obtain ⟨f, caps, h1, h2⟩ := gDo h s k hs
 unfold fnOf capsOf
 rw [h1]; exact h2
theorem shapeC {dir : Bool} {c : Ct} {k : Nat} (s : Stp) (hs : StOk dir c k s) : (∃ f y, encC s = .clo f [y]) ∨ ∃ f y z, encC s = .clo f [y, z] := by
 cases s with
 | app a => exact .inl ⟨_, _, rfl⟩
 | cut n => exact .inl ⟨_, _, rfl⟩
 | link s i => exact .inr ⟨_, _, _, rfl⟩
 | unl s => exact .inl ⟨_, _, rfl⟩
 | ren f t i => exact hs.elim
theorem fn_of {s : Stp} {f : Nat} {l : List V} (h : encC s = .clo f l) : fnOf s = f ∧ capsOf s = l := by unfold fnOf capsOf; rw [h]; exact ⟨rfl, rfl⟩
theorem LsV.app {gh : GH} {lab : Lab} {r : Nat × Nat} {v : V} {l : List Stp} (h : LsV gh lab r v l) : SlApp gh 2 (l.map encS) v := by
 rcases h with ⟨h1, h2⟩ | ⟨id, h1, _, h2⟩
 ·exact .inl ⟨h1, by rw [h2]; rfl⟩
 ·exact .inr (.inr ⟨id, by rw [h1, List.length_map], h2⟩)
theorem nodeCt {gh : GH} {lab : Lab} {i id : Nat} {nd : Nd} {vb ve wb we vl : V} (hd : Dom gh lab) (hbox : gh.get id = some (.box [.bool nd.dir, vb, ve, wb, we, vl])) (hli : lab id = some (i, 0)) (hwb : ByV gh lab (i, 3) wb nd.seen.b) (hwe : MpV gh lab (i, 4) nd.dir we nd.seen.en) : CtAt gh lab (i, 3) (i, 4) nd.dir id 3 [.bool nd.dir, vb, ve, wb, we, vl] nd.seen :=
 ⟨hd, hd.lt hli, hbox, by rw [hli]; exact ⟨by simp, by simp⟩, by simp, wb, we, rfl, rfl, hwb, hwe⟩
def NdT (i : Nat) (r : Nat × Nat) : Prop := r.1 = i ∧ r.2 ≤ 5
theorem pair_ne {i j k : Nat} (h : j ≠ k) : ((i, j) : Nat × Nat) ≠ (i, k) := fun e => h (congrArg Prod.snd e)
theorem gAddN {gh : GH} {lab : Lab} {i id : Nat} {nd : Nd} (hd : Dom gh lab) (h : NodeAt gh lab i id nd) (s : Stp) (hs : StOk nd.dir nd.seen s.parts s) (hl : nd.loose.length ≤ 1000000000) (pk : Int) (hpk : pk = (s.parts : Nat)) (x : V) (hx : x = encC s) : FnG Tryz.prog 76 [.gp id 0, .agg [.int .i64 pk, x]] gh fun rs g => rs = [] ∧ ∃ lab', Upd gh g lab lab' (NdT i) (fun _ => False) ∧ NodeAt g lab' i id (nd.add s) := by
 obtain ⟨vb, ve, wb, we, vl, hbox, hli, hvb, hve, hwb, hwe, hvl⟩ := h
 have hlt := hd.lt hli
 have hdo := gDo' (nodeCt (vb := vb) (ve := ve) (vl := vl) hd hbox hli hwb hwe) s s.parts hs pk hpk
 have last : ∀ (g1 : GH) (lab1 : Lab) (wb' we' : V) (g2 g3 : GH) (m : Int), Upd gh g1 lab lab1 (fun q => q = (i, 3) ∨ q = (i, 4)) (fun x => x = id) → ByV g1 lab1 (i, 3) wb' (s.run nd.seen s.parts).b → MpV g1 lab1 (i, 4) nd.dir we' (s.run nd.seen s.parts).en → LsV g1 lab1 (i, 5) vl nd.loose →
   g2.next = g1.next + 1 → g2.get g1.next = some (.arow 2 (nd.loose.map encS ++ [encS s])) → (∀ j, j < g1.next → (∀ n, vl ≠ .gs j n) → g2.get j = g1.get j) → m = ((nd.loose.map encS ++ [encS s]).length : Nat) → g3 = g2.set id (.box [.bool nd.dir, vb, ve, wb', we', .gs g1.next m]) → ∃ lab', Upd gh g3 lab lab' (NdT i) (fun _ => False) ∧ NodeAt g3 lab' i id (nd.add s) := by
  intro g1 lab1 wb' we' g2 g3 m u h1 h2 h3 e1 e2 e3 e4 e5
  have hl1 : lab1 id = some (i, 0) := (u.old id hlt).trans hli
  have hls : ∀ x n, vl = .gs x n → lab1 x = some (i, 5) := fun x n e => by
   rcases h3 with ⟨q, _⟩ | ⟨y, q, q2, _⟩
   ·rw [q] at e; cases e
   ·rw [q] at e; cases e; exact q2
  have hlt1 : id < g1.next := Nat.lt_of_lt_of_le hlt u.next
  have u2 : Upd g1 g3 lab1 (fun x => if x = g1.next then some (i, 5) else lab1 x) (fun q => q = (i, 0) ∨ q = (i, 5)) (fun _ => False) := ⟨by rw [e5]; simp; omega, fun x hx => by rw [if_neg (by omega)], fun x hx => by
   rw [e5] at hx; simp at hx
   rw [if_neg (by omega)]; exact u.dom x (by omega), fun x hx _ t => by
   rw [e5]; simp only [GH.set_get]
   rw [if_neg (fun e => t (i, 0) (by rw [e]; exact hl1) (.inl rfl))]
   exact e3 x hx fun m' e => t (i, 5) (hls x m' e) (.inr rfl)⟩
  have noX : ∀ (r : Nat × Nat), r ≠ (i, 0) → ∀ x, x = id → lab x ≠ some r := fun r hr x hx e => by subst hx; rw [hli] at e; cases e; exact hr rfl
  refine ⟨_, (u.weak (T' := NdT i) (X' := fun _ => False) (fun r h => by rcases h with rfl | rfl <;> exact ⟨rfl, Nat.le_of_ble_eq_true rfl⟩) (fun x hx => by subst hx; exact .inr ⟨_, hli, ⟨rfl, Nat.zero_le _⟩⟩)).trans (u2.weak (T' := NdT i) (fun r h => by rcases h with rfl | rfl <;> exact ⟨rfl, Nat.le_of_ble_eq_true rfl⟩) (fun x hx => .inl hx)), vb, ve, wb', we', .gs g1.next m, by rw [e5]; simp; rfl, (u2.old id hlt1).trans hl1,
   (hvb.upd hd u (by simp) (noX _ (by simp))).upd u.dom u2 (by simp) (fun _ h => h.elim), (hve.upd hd u (by simp) (noX _ (by simp))).upd u.dom u2 (by simp) (fun _ h => h.elim), ?_, ?_, .inr ⟨g1.next, by rw [e4]; simp [Nd.add], by simp, ?_⟩⟩
  ·rw [Nd.seen_add]; exact h1.upd u.dom u2 (by simp) (fun _ h => h.elim)
  ·rw [Nd.seen_add]; exact h2.upd u.dom u2 (by simp) (fun _ h => h.elim)
  ·rw [e5]; simp only [GH.set_get]; rw [if_neg (by omega), e2]; simp [Nd.add]
 have hsA : encS s = .agg [.int .i64 pk, x] := by rw [hpk, hx]; rfl
 have hap := hvl.app
 obtain ⟨ls, hls⟩ : ∃ ls, ls = nd.loose.map encS := ⟨_, rfl⟩
 rw [← hls] at hap
 have hlz : ∀ x ∈ ls, x.flat.length = 2 := fun x hx => by
  rw [hls] at hx
  obtain ⟨q, _, rfl⟩ := List.mem_map.1 hx
  rfl
 have hroom : (ls.length + 1) * 16 ≤ 140737488355328 := by rw [hls]; simp; omega
 obtain ⟨b, hb⟩ : ∃ b, b = nd.dir := ⟨_, rfl⟩
 rw [← hb] at hbox
 obtain ⟨e, he⟩ : ∃ e, e = encS s := ⟨_, rfl⟩
 rw [← he] at last hsA
 have hE : [e] = [encS s] := by rw [he]
 rcases shapeC s hs with ⟨f, y, hsh⟩ | ⟨f, y, z, hsh⟩
 all_goals (
  obtain ⟨q1, q2⟩ := fn_of hsh
  rw [q1, q2] at hdo
  rw [hsh] at hx
  clear hsh q1 q2
  subst hx)
 all_goals (
  refine FnG.of' T_ok M_ok [19] (fn := Tryz.f76) (by kernel_rfl) rfl rfl rfl rfl (Nat.le_of_ble_eq_true rfl) fun A hA => ?_
  cbv
  refine chkI hA (by kernel_rfl) ?_
  cbv
  refine callGI hA (hdo) ?_
  intro rs_ g1 h_
  obtain ⟨q_1, lab1, wb', we', u, hbox1, h1, h2⟩ := h_
  subst q_1
  cbv
  have hbox1 : g1.get id = some (.box [.bool b, vb, ve, wb', we', vl]) := by rw [hb]; exact hbox1
  have h3 := hvl.upd hd u (by simp) (fun x hx e => by subst hx; rw [hli] at e; cases e)
  have hap1 : SlApp g1 2 ls vl := hls ▸ h3.app
  refine chkI hA (by kernel_rfl) ?_
  cbv
  refine gldI hA _ (hbox1) ?_
  cbv
  obtain ⟨ex, hex⟩ : ∃ ex, ex = [e] := ⟨_, rfl⟩
  rcases hap1.open with rfl | rfl | ⟨x, m0, rfl⟩
  all_goals (
   refine gappSI hA ls [e] hap1 ?_ (by simp) hlz hroom ?_
   ·rw [hsA]; exact ⟨rfl, by intro q hq; simp at hq; subst hq; rfl⟩
   ·intro g2 m e1 e2 e3 e4
    have hbox2 : g2.get id = some (.box [.bool b, vb, ve, wb', we', _]) := (e3 id (Nat.lt_of_lt_of_le hlt u.next) (fun n eq => by
     rcases h3 with ⟨q, _⟩ | ⟨y0, q, q2, _⟩
     ·rw [q] at eq; cases eq
     ·rw [q] at eq; cases eq
      rw [u.old id hlt, hli] at q2; exact absurd (Option.some.inj q2) (pair_ne (by decide)))).trans hbox1
    refine gstI hA _ (hbox2) ?_
    rintro g3 hg3
    cbv
    rw [hls] at e2 e4
    rw [hb] at hg3
    exact retGI hA rfl [] g3 ⟨rfl, last g1 lab1 wb' we' g2 g3 m u h1 h2 h3 e1 e2 e3 e4 hg3⟩ trivial))
open Go Go.RowKit
def pSum (l : List Stp) (j : Nat) : Nat := ((l.take j).map Stp.parts).sum
theorem pSum_succ {l : List Stp} {j : Nat} {s : Stp} (h : l[j]? = some s) : pSum l (j + 1) = pSum l j + s.parts := by
 unfold pSum
 obtain ⟨h1, rfl⟩ := List.getElem?_eq_some_iff.1 h
 rw [List.take_succ_eq_append_getElem h1, List.map_append, List.sum_append]; simp
theorem pSum_mono {l : List Stp} {j k : Nat} (h : j ≤ k) : pSum l j ≤ pSum l k := by
 induction k with
 | zero => rw [show j = 0 by omega]; exact Nat.le_refl _
 | succ k ih =>
  rcases Nat.lt_or_ge j (k + 1) with q | q
  ·refine Nat.le_trans (ih (by omega)) ?_
   cases hk : l[k]? with
   | some s => rw [pSum_succ hk]; omega
   | none =>
    have := List.getElem?_eq_none_iff.1 hk
    unfold pSum; rw [List.take_of_length_le this, List.take_of_length_le (by omega)]; exact Nat.le_refl _
  ·rw [show j = k + 1 by omega]; exact Nat.le_refl _
theorem pSum_all (nd : Nd) : pSum nd.loose nd.loose.length = nd.parts := by unfold pSum Nd.parts; rw [List.take_length]
theorem pSum_le (nd : Nd) (j : Nat) : pSum nd.loose j ≤ nd.parts := by
 rw [← pSum_all]
 rcases Nat.le_total j nd.loose.length with h | h
 ·exact pSum_mono h
 ·unfold pSum; rw [List.take_of_length_le h, List.take_length]; exact Nat.le_refl _
theorem w64_add {a b : Int} {j k : Nat} (ha : a = (j : Nat)) (hb : b = (k : Nat)) (h : j + k ≤ 140737488355328) : w64 (a + b) = ((j + k : Nat) : Int) := by
 rw [ha, hb, w64_id (by omega)]; omega
theorem shapeX (s : Stp) : (∃ f caps, encC s = .clo f caps) ∨ encC s = .nilfn := by
 cases s with
 | app a => exact .inl ⟨_, _, rfl⟩
 | cut n => exact .inl ⟨_, _, rfl⟩
 | link s i => exact .inl ⟨_, _, rfl⟩
 | unl s => exact .inl ⟨_, _, rfl⟩
 | ren f t i => exact .inr rfl
theorem gParts {gh : GH} {lab : Lab} {i id : Nat} {nd : Nd} (h : NodeAt gh lab i id nd) (hl : nd.loose.length ≤ 1000000000) (hp : nd.parts ≤ 140737488355328) : FnG Tryz.prog 60 [.gp id 0] gh fun rs g => ∃ c : Int, rs = [.v (.int .i64 c)] ∧ c = (nd.parts : Nat) ∧ gh = g := by
 obtain ⟨vb, ve, wb, we, vl, hbox, hli, hvb, hve, hwb, hwe, hvl⟩ := h
 obtain ⟨b, hb⟩ : ∃ b, b = nd.dir := ⟨_, rfl⟩
 rw [← hb] at hbox
 rcases hvl with ⟨rfl, h0⟩ | ⟨lid, rfl, hll, hlg⟩
 ·have hz : nd.parts = 0 := by unfold Nd.parts; rw [h0]; rfl
  refine FnG.of' T_ok M_ok [] (fn := Tryz.f60) (by kernel_rfl) rfl rfl rfl rfl (Nat.le_of_ble_eq_true rfl) fun A hA => ?_
  cbv
  refine gldI hA _ (hbox) ?_
  cbv
  refine loopF hA (ι := Unit) (fun p => { n := 21, sl := [(3, .v (.int .i64 0)), (10, .v (.int .i64 0)), (11, .v (.int .i64 0))], ob := [(hk, .heap gh [])] }) (fun _ => True) (fun _ => 0) () (weakI rfl ⟨rfl, rfl, rfl, trivial⟩ ⟨rfl, trivial⟩) trivial ?_
  rintro _ _
  cbv
  refine condI hA (fun h => ?_) (fun h => ?_)
  ·exact absurd (zltT hA h) (by decide)
  ·cbv
   exact retGI hA rfl [.v (.int .i64 0)] gh (⟨_, rfl, by rw [hz]; rfl, rfl⟩)
 ·obtain ⟨n, hn⟩ : ∃ n : Int, n = (nd.loose.length : Nat) := ⟨_, rfl⟩
  rw [← hn] at hbox
  refine FnG.of' T_ok M_ok [] (fn := Tryz.f60) (by kernel_rfl) rfl rfl rfl rfl (Nat.le_of_ble_eq_true rfl) fun A hA => ?_
  cbv
  refine gldI hA _ (hbox) ?_
  cbv
  refine glenI hA ?_
  cbv
  refine loopF hA (ι := Int × Int) (fun p => { n := 21, sl := [(3, .v (.int .i64 p.2)), (9, .v (.gs lid n)), (10, .v (.int .i64 n)), (11, .v (.int .i64 p.1))], ob := [(hk, .heap gh [])] }) (fun p => ∃ j : Nat, p.1 = j ∧ j ≤ nd.loose.length ∧ p.2 = (pSum nd.loose j : Nat)) (fun p => nd.loose.length - p.1.toNat) (_, _) (weakI rfl ⟨rfl, rfl, rfl, rfl, trivial⟩ ⟨rfl, trivial⟩) ⟨0, rfl, Nat.zero_le _, rfl⟩ ?_
  rintro ⟨m, a⟩ ⟨j, hm, hj, ha⟩
  dsimp only at hm ha
  cbv
  replace hm := natEq hm
  replace ha := natEq ha
  replace hn := natEq hn
  refine condI hA (fun h => ?_) (fun h => ?_)
  ·have h := zltT hA h
   have f1 : 0 ≤ m ∧ m < n := by rw [hm]; omega
   have f2 : j < nd.loose.length := by omega
   obtain ⟨s, hs⟩ : ∃ s, nd.loose[j]? = some s := ⟨_, List.getElem?_eq_getElem f2⟩
   have f3 : (nd.loose.map encS)[m.toNat]? = some (encS s) := by rw [hm, List.getElem?_map]; simp [hs]
   have hsum := pSum_succ hs
   have hle := pSum_le nd (j + 1)
   obtain ⟨pk, hpk⟩ : ∃ pk : Int, pk = (s.parts : Nat) := ⟨_, rfl⟩
   have f4 : w64 (a + pk) = (pSum nd.loose (j + 1) : Nat) := by rw [w64_add ha hpk (by omega), hsum]
   have f5 : w64 (m + 1) = ((j + 1 : Nat) : Int) := w64_add hm rfl (by omega)
   have hen : encS s = .agg [.int .i64 pk, encC s] := by rw [hpk]; rfl
   rw [hen] at f3
   obtain ⟨x, hx⟩ : ∃ x, x = encC s := ⟨_, rfl⟩
   rw [← hx] at f3
   have hstep : nd.loose.length - (j + 1) < nd.loose.length - j := by omega
   have hmu : (w64 (m + 1)).toNat = j + 1 := by rw [f5]; rfl
   have hmm : m.toNat = j := by rw [hm]; rfl
   cbv
   refine gixN hA rfl f1 ?_
   cbv
   rcases shapeX s with ⟨f, caps, hsh⟩ | hsh
   all_goals rw [← hx] at hsh
   all_goals subst hsh
   all_goals refine gldRAN hA rfl _ (.inr (.inr hlg)) f3 ?_
   all_goals cbv
   all_goals refine ⟨(_, _), weakI rfl ⟨rfl, rfl, rfl, rfl, trivial⟩ ⟨rfl, trivial⟩, ⟨j + 1, ?_, f2, ?_⟩, ?_⟩
   all_goals first
    | exact (zadd hA m 1).trans f5
    | exact (zadd hA a pk).trans f4
    | (change nd.loose.length - (A.wrap .i64 (A.add m 1)).toNat < nd.loose.length - m.toNat
       rw [zadd hA, hmu, hmm]; exact hstep)
  ·have h := zltF hA h
   have hjn : j = nd.loose.length := by omega
   cbv
   exact retGI hA rfl [.v (.int .i64 a)] gh (⟨_, rfl, by rw [ha, hjn, pSum_all], rfl⟩)
def LsOk (dir : Bool) : Ct → List Stp → Prop
 | _, [] => True
 | c, s :: r => StOk dir c s.parts s ∧ 1 ≤ s.parts ∧ LsOk dir (s.run c s.parts) r
theorem StOk.less {dir : Bool} {c : Ct} {k : Nat} {s : Stp} (h : StOk dir c s.parts s) (h1 : 1 ≤ k) (h2 : k ≤ s.parts) : StOk dir c k s := by
 cases s with
 | app a => obtain ⟨q1, q2, q3, q4⟩ := h; exact ⟨q1, h1, h2, by have h2 : k ≤ a.length := h2; have : Stp.parts (.app a) = a.length := rfl; omega⟩
 | cut n => exact h
 | link s i => exact h
 | unl s => exact h
 | ren f t i => exact h
theorem runs_zero (c : Ct) (l : List Stp) : runs c l 0 = c := by cases l <;> simp [runs]
theorem cShape {dir : Bool} {c : Ct} {k : Nat} {s : Stp} (h : StOk dir c k s) : (∃ f y, encC s = .clo f [y]) ∨ ∃ f y z, encC s = .clo f [y, z] := shapeC s h
theorem gCloneN {gh : GH} {lab : Lab} {r r' : Nat × Nat} {vb ve : V} {b : Bs} {en : List (Bs × Nat)} {dir : Bool} (hd : Dom gh lab) (hb : ByV gh lab r vb b) (he : MpV gh lab r' dir ve en) (hl : b.length ≤ 140737488355328) : FnG Tryz.prog 103 [.agg [vb, ve]] gh fun rs g => ∃ (x : Nat) (n : Int) (we : V), rs = [.v (.agg [.gs x n, we])] ∧ x = gh.next ∧ Copied gh g dir b en n we :=
 (gClone hd hb he hl).mono fun rs g ⟨n, we, h1, h2⟩ => ⟨_, n, we, h1, rfl, h2⟩
theorem galN {A : Prim} {R : List (Nat × AObj) → List D → Prop} (hA : A = std Tryz.prog R) {o : Oper} {t : Nat} {gh : GH} {l : List V} {K : V → GH → Prop} (hK : ∀ g' x, x = gh.next → g' = gh.new (.box l) → K (.gp x 0) g') (ho : o.op = .alloc t := by rfl) (hkn : known (tyOf t).k = true := by rfl) (hz : toVas [] (tyOf t).zero = some l := by rfl) : A.gop o [] gh K := galI hA (fun g' h => hK g' _ rfl h) ho hkn hz
theorem Upd.new {gh g : GH} {lab lab' : Lab} {T : Nat × Nat → Prop} {X : Nat → Prop} (u : Upd gh g lab lab' T X) (hX : ∀ x, X x → gh.next ≤ x) : Upd gh g lab lab' T (fun _ => False) :=
 ⟨u.next, u.old, u.dom, fun x hx _ t => u.get x hx (fun q => absurd (hX x q) (by omega)) t⟩
theorem lsOk_at {dir : Bool} : ∀ {l : List Stp} {c : Ct}, LsOk dir c l → ∀ (j : Nat) (s : Stp), l[j]? = some s → ∃ c', StOk dir c' s.parts s ∧ 1 ≤ s.parts
 | [], _, _, j, s, h => by simp at h
 | x :: r, c, h, 0, s, e => by simp at e; subst e; exact ⟨c, h.1, h.2.1⟩
 | x :: r, c, h, j + 1, s, e => lsOk_at h.2.2 j s (by simpa using e)
theorem drop_cons {l : List Stp} {j : Nat} {s : Stp} (h : l[j]? = some s) : l.drop j = s :: l.drop (j + 1) := by
 obtain ⟨h1, rfl⟩ := List.getElem?_eq_some_iff.1 h
 exact List.drop_eq_getElem_cons h1
structure CrIn (gh : GH) (lab : Lab) (i cid : Nat) (nd : Nd) (k : Nat) (m q : Int) (g : GH) (j : Nat) (c : Ct) (lab' : Lab) (vb ve : V) : Prop where
 m_ : m = (j : Nat)
 j_ : j ≤ nd.loose.length
 q1 : -140737488355328 ≤ q
 q2 : q ≤ 140737488355328
 run : runs c (nd.loose.drop j) q.toNat = runs nd.safe nd.loose k
 ok : 0 < q → LsOk nd.dir c (nd.loose.drop j)
 u : Upd gh g lab lab' (fun r => r = (i, 3) ∨ r = (i, 4)) (fun x => x = cid)
 box : g.get cid = some (.box [vb, ve])
 b : ByV g lab' (i, 3) vb c.b
 e : MpV g lab' (i, 4) nd.dir ve c.en
 lo : gh.next ≤ cid
 hi : cid < g.next
 no : lab' cid = none
theorem CrIn.at_ {gh : GH} {lab : Lab} {i cid : Nat} {nd : Nd} {k : Nat} {m q : Int} {g : GH} {j : Nat} {c : Ct} {lab' : Lab} {vb ve : V} (h : CrIn gh lab i cid nd k m q g j c lab' vb ve) : CtAt g lab' (i, 3) (i, 4) nd.dir cid 0 [vb, ve] c :=
 ⟨h.u.dom, h.hi, h.box, by rw [h.no]; exact ⟨by simp, by simp⟩, by simp, vb, ve, rfl, rfl, h.b, h.e⟩
theorem CrIn.step {gh : GH} {lab : Lab} {i cid : Nat} {nd : Nd} {k : Nat} {m q : Int} {g : GH} {j : Nat} {c : Ct} {lab' : Lab} {vb ve : V} (h : CrIn gh lab i cid nd k m q g j c lab' vb ve) (hl : nd.loose.length ≤ 1000000000) (hp : nd.parts ≤ 140737488355328) {s : Stp} (hs : nd.loose[j]? = some s) (h0 : ¬ q ≤ 0) {g' : GH} (hd : Done g g' lab' (i, 3) (i, 4) nd.dir cid 0 [vb, ve] (s.run c (min q.toNat s.parts))) {m' q' : Int} (hm' : m' = w64 (m + 1)) (hq' : q' = w64 (q - (s.parts : Nat))) :
  ∃ j c lab' vb ve, CrIn gh lab i cid nd k m' q' g' j c lab' vb ve := by
 obtain ⟨lab2, vb2, ve2, u2, e1, e2, e3⟩ := hd
 have hj := (List.getElem?_eq_some_iff.1 hs).1
 have hpa := pSum_le nd (j + 1)
 rw [pSum_succ hs] at hpa
 have hdr := drop_cons hs
 have h1 := h.q1
 have h2 := h.q2
 have hq2 : q' = q - (s.parts : Nat) := by rw [hq', w64_id (by omega)]
 refine ⟨j + 1, _, lab2, vb2, ve2, by rw [hm']; exact w64_add h.m_ rfl (by omega), hj, by omega, by omega, ?_, fun hq0 => ?_, (h.u.trans (u2.weak (fun _ t => t) (fun x t => .inl t))), e1, e2, e3, h.lo, Nat.lt_of_lt_of_le h.hi u2.next, (u2.old cid h.hi).trans h.no⟩
 ·rw [← h.run, hdr]
  rw [show runs c (s :: nd.loose.drop (j + 1)) q.toNat = runs (s.run c (min q.toNat s.parts)) (nd.loose.drop (j + 1)) (q.toNat - s.parts) from by rw [runs, if_neg (by omega)]]
  congr 1; omega
 ·have q3 := h.ok (by omega)
  rw [hdr] at q3
  rw [show min q.toNat s.parts = s.parts by omega]
  exact q3.2.2
theorem CrIn.done {gh : GH} {lab : Lab} {i cid : Nat} {nd : Nd} {k : Nat} {m q : Int} {g : GH} {j : Nat} {c : Ct} {lab' : Lab} {vb ve : V} (h : CrIn gh lab i cid nd k m q g j c lab' vb ve) (h0 : q ≤ 0 ∨ j = nd.loose.length) : c = runs nd.safe nd.loose k := by
 rw [← h.run]
 rcases h0 with h0 | h0
 ·rw [show q.toNat = 0 by omega, runs_zero]
 ·rw [h0, List.drop_length]; rfl
theorem gCrashN {gh : GH} {lab : Lab} {i id : Nat} {nd : Nd} (hd : Dom gh lab) (h : NodeAt gh lab i id nd) (hok : LsOk nd.dir nd.safe nd.loose) (hl : nd.loose.length ≤ 1000000000) (hp : nd.parts ≤ 140737488355328) (hs : nd.safe.b.length ≤ 140737488355328) (k : Nat) (hkp : k ≤ nd.parts) (kk : Int) (hkk : kk = (k : Nat)) (hfin : (runs nd.safe nd.loose k).b.length ≤ 140737488355328) : FnG Tryz.prog 67 [.gp id 0, .int .i64 kk] gh fun rs g => rs = [] ∧ ∃ lab', Upd gh g lab lab' (NdT i) (fun _ => False) ∧ NodeAt g lab' i id (nd.crash k) := by
 obtain ⟨vb, ve, wb, we, vl, hbox, hli, hvb, hve, hwb, hwe, hvl⟩ := h
 have hlt := hd.lt hli
 obtain ⟨b, hb⟩ : ∃ b, b = nd.dir := ⟨_, rfl⟩
 rw [← hb] at hbox
 have hcl := gCloneN hd hvb hve hs
 have fin : ∀ (g5 g6 : GH) (m q : Int) (j : Nat) (lab5 : Lab) (vb' ve' : V) (c' : Ct) (cid : Nat), CrIn gh lab i cid nd k m q g5 j c' lab5 vb' ve' → (q ≤ 0 ∨ j = nd.loose.length) → g6 = g5.set id (.box [.bool b, vb, ve, vb', ve', vl]) →
   FnG Tryz.prog 54 [.gp id 0] g6 fun rs g => rs = [] ∧ ∃ lab', Upd gh g lab lab' (NdT i) (fun _ => False) ∧ NodeAt g lab' i id (nd.crash k) := by
  intro g5 g6 m q j lab5 vb' ve' c' cid hI h0 hg6
  have hc := hI.done h0
  have hli5 : lab5 id = some (i, 0) := (hI.u.old id hlt).trans hli
  have u6 := upd_set hI.u.dom (.box [.bool b, vb, ve, vb', ve', vl]) hli5
  rw [← hg6] at u6
  have h5 : Upd gh g5 lab lab5 (NdT i) (fun _ => False) := (hI.u.new (fun x hx => hx ▸ hI.lo)).weak (fun r h => by rcases h with rfl | rfl <;> exact ⟨rfl, Nat.le_of_ble_eq_true rfl⟩) (fun _ h => h.elim)
  have b6 := hI.b.upd hI.u.dom u6 (by simp) (fun _ h => h.elim)
  have e6 := hI.e.upd hI.u.dom u6 (by simp) (fun _ h => h.elim)
  refine (gSyncG u6.dom (dir := nd.dir) (c := c') (vb := vb) (ve := ve) (vl := vl) (by rw [hg6, hb]; simp) hli5 b6 e6 (by rw [hc]; exact hfin)).mono fun rs g ⟨r1, lab', u7, hN⟩ => ⟨r1, lab', (h5.trans (u6.weak (fun r h => by rw [h]; exact ⟨rfl, Nat.zero_le _⟩) (fun _ h => h.elim))).trans (u7.weak (fun r h => by rw [h]; exact ⟨rfl, Nat.le_of_ble_eq_true rfl⟩) (fun _ h => h.elim)), ?_⟩
  rw [hc] at hN; exact hN
 have start : ∀ (g1 g2 g3 : GH) (n : Int) (x cid : Nat) (me : V), Copied gh g1 nd.dir nd.safe.b nd.safe.en n me → x = gh.next → cid = g1.next → g2 = g1.new (.box [.nils, .nilmap]) → g3 = g2.set cid (.box [.gs x n, me]) → ∃ lab', CrIn gh lab i cid nd k 0 kk g3 0 nd.safe lab' (.gs x n) me := by
  intro g1 g2 g3 n x cid me hcp hx hc hg2 hg3
  subst hx hc
  obtain ⟨lab1, u, q1, q2⟩ := hcp.by hd (i, 3) (i, 4)
  have hno : lab1 g1.next = none := u.dom _ (Nat.le_refl _)
  have u2 : Upd g1 g3 lab1 lab1 (fun _ => False) (fun _ => False) := Upd.mk0 u.dom (by rw [hg3, hg2]; simp) (fun x hx _ _ => by rw [hg3, hg2]; simp; rw [if_neg (by omega), if_neg (by omega)])
  exact ⟨lab1, rfl, Nat.zero_le _, by omega, by omega, by rw [hkk]; rfl, fun _ => hok, (u.trans u2).weak (fun _ h => h.elim) (fun _ h => h.elim), by rw [hg3]; simp, q1.upd u.dom u2 (fun h => h) (fun _ h => h.elim), q2.upd u.dom u2 (fun h => h) (fun _ h => h.elim), u.next, by rw [hg3, hg2]; simp, hno⟩
 have boxAt : ∀ (g5 : GH) (m q : Int) (j : Nat) (lab5 : Lab) (vb' ve' : V) (c' : Ct) (cid : Nat), CrIn gh lab i cid nd k m q g5 j c' lab5 vb' ve' → g5.get id = some (.box [.bool b, vb, ve, wb, we, vl]) := fun g5 m q j lab5 vb' ve' c' cid hI => (hI.u.get id hlt (fun e => absurd hI.lo (by omega)) (fun r e => by rw [hli] at e; cases e; simp)).trans hbox
 rcases hvl with ⟨rfl, h0⟩ | ⟨lid, rfl, hll, hlg⟩
 ·refine FnG.of' T_ok M_ok [4] (fn := Tryz.f67) (by kernel_rfl) rfl rfl rfl rfl (Nat.le_of_ble_eq_true rfl) fun A hA => ?_
  cbv
  refine gldAI hA _ hbox ?_
  cbv
  refine callGI hA (hcl) ?_
  intro rs_ g1 h_
  obtain ⟨x, n, me, q_1, hx, hcp⟩ := h_
  subst q_1
  cbv
  refine galN hA ?_
  intro g2 cid hcid hg2
  cbv
  refine gstI hA _ (show g2.get cid = some (.box [.nils, .nilmap]) by rw [hg2, hcid]; simp) ?_
  intro g3 hg3
  obtain ⟨lab', hI⟩ := start g1 g2 g3 n x cid me hcp hx hcid hg2 hg3
  have hb3 := boxAt _ _ _ _ _ _ _ _ _ hI
  cbv
  refine gldI hA _ (hb3) ?_
  cbv
  refine loopF hA (ι := Unit) (fun p => { n := 41, sl := [(0, .v (.gp id 0)), (4, .v (.gp cid 0)), (16, .v (.int .i64 0)), (17, .v (.int .i64 0))], ob := [(hk, .heap g3 [4])] }) (fun _ => True) (fun _ => 0) () (weakI rfl ⟨rfl, rfl, rfl, rfl, trivial⟩ ⟨rfl, trivial⟩) trivial ?_
  rintro _ _
  cbv
  refine condI hA (fun h => ?_) (fun h => ?_)
  ·exact absurd (zltT hA h) (by decide)
  ·cbv
   refine gldAI hA _ hI.box ?_
   cbv
   refine gstI hA _ (hb3) ?_
   rintro g6 hg6
   cbv
   refine callGI hA (fin _ _ _ _ _ _ _ _ _ _ hI (.inr (by rw [h0]; rfl)) hg6) ?_
   intro rs_ g7 h_
   obtain ⟨q_1, hpost⟩ := h_
   subst q_1
   cbv
   exact retGI hA rfl [] g7 ⟨rfl, hpost⟩ trivial
 ·obtain ⟨n0, hn0⟩ : ∃ n : Int, n = (nd.loose.length : Nat) := ⟨_, rfl⟩
  rw [← hn0] at hbox boxAt fin
  refine FnG.of' T_ok M_ok [4] (fn := Tryz.f67) (by kernel_rfl) rfl rfl rfl rfl (Nat.le_of_ble_eq_true rfl) fun A hA => ?_
  cbv
  refine gldAI hA _ hbox ?_
  cbv
  refine callGI hA (hcl) ?_
  intro rs_ g1 h_
  obtain ⟨x, n, me, q_1, hx, hcp⟩ := h_
  subst q_1
  cbv
  refine galN hA ?_
  intro g2 cid hcid hg2
  cbv
  refine gstI hA _ (show g2.get cid = some (.box [.nils, .nilmap]) by rw [hg2, hcid]; simp) ?_
  intro g3 hg3
  obtain ⟨lab3, hI3⟩ := start g1 g2 g3 n x cid me hcp hx hcid hg2 hg3
  have hb3 := boxAt _ _ _ _ _ _ _ _ _ hI3
  cbv
  refine gldI hA _ (hb3) ?_
  cbv
  refine glenI hA ?_
  cbv
  refine loopF hA (ι := Int × Int × GH) (fun p => { n := 41, sl := [(0, .v (.gp id 0)), (1, .v (.int .i64 p.2.1)), (4, .v (.gp cid 0)), (15, .v (.gs lid n0)), (16, .v (.int .i64 n0)), (17, .v (.int .i64 p.1))], ob := [(hk, .heap p.2.2 [4])] }) (fun p => ∃ j c lab' vb ve, CrIn gh lab i cid nd k p.1 p.2.1 p.2.2 j c lab' vb ve) (fun p => nd.loose.length - p.1.toNat) (_, _, _) (weakI rfl ⟨rfl, rfl, rfl, rfl, rfl, rfl, trivial⟩ ⟨rfl, trivial⟩) ⟨_, _, _, _, _, hI3⟩ ?_
  rintro ⟨m, q, g⟩ ⟨j, c, lab', vb', ve', hI⟩
  dsimp only at hI
  have hm := hI.m_
  have hbg := boxAt _ _ _ _ _ _ _ _ _ hI
  cbv
  replace hn0 := natEq hn0
  replace hm := natEq hm
  refine condI hA (fun h => ?_) (fun h => ?_)
  ·have h := zltT hA h
   have f1 : 0 ≤ m ∧ m < n0 := by omega
   have f2 : j < nd.loose.length := by omega
   obtain ⟨s, hs⟩ : ∃ s, nd.loose[j]? = some s := ⟨_, List.getElem?_eq_getElem f2⟩
   have f3 : (nd.loose.map encS)[m.toNat]? = some (encS s) := by rw [hm, List.getElem?_map]; simp [hs]
   obtain ⟨pk, hpk⟩ : ∃ pk : Int, pk = (s.parts : Nat) := ⟨_, rfl⟩
   rw [show encS s = .agg [.int .i64 pk, encC s] by rw [hpk]; rfl] at f3
   obtain ⟨c0, hok0, hp1⟩ := lsOk_at hok j s hs
   have hlg1 : g.get lid = some (.arow 2 (nd.loose.map encS)) := (hI.u.get lid (hd.lt hll) (fun e => absurd hI.lo (by have := hd.lt hll; omega)) (fun r e => by rw [hll] at e; cases e; simp)).trans hlg
   have hdo : ¬ q ≤ 0 → FnG Tryz.prog (fnOf s) (.gp cid 0 :: .int .i64 (A.imin q pk) :: capsOf s) g fun rs g' => rs = [] ∧ Done g g' lab' (i, 3) (i, 4) nd.dir cid 0 [vb', ve'] (s.run c (min q.toNat s.parts)) := fun h0 => by
    have hcok := hI.ok (by omega)
    rw [drop_cons hs] at hcok
    refine gDo' hI.at_ s _ (hcok.1.less (by omega) (by omega)) _ ?_
    rw [hA, hpk]
    change (if ((s.parts : Nat) : Int) < q then ((s.parts : Nat) : Int) else q) = _
    split <;> omega
   have hstep : nd.loose.length - (w64 (m + 1)).toNat < nd.loose.length - m.toNat := by rw [show w64 (m + 1) = ((j + 1 : Nat) : Int) from w64_add hm rfl (by omega)]; omega
   cbv
   refine gixN hA rfl f1 ?_
   cbv
   rcases cShape hok0 with ⟨f, y, hsh⟩ | ⟨f, y, z, hsh⟩
   all_goals (
    obtain ⟨q1, q2⟩ := fn_of hsh
    rw [q1, q2] at hdo
    rw [hsh] at f3
    refine gldRAN hA rfl _ (.inr (.inr hlg1)) f3 ?_
    cbv
    refine condI hA (fun h2 => ?_) (fun h2 => ?_)
    skip)
   ·cbv
    refine gldAI hA _ hI.box ?_
    cbv
    refine gstI hA _ (hbg) ?_
    rintro g6 hg6
    cbv
    refine callGI hA (fin _ _ _ _ _ _ _ _ _ _ hI (.inl (zleT hA h2)) hg6) ?_
    intro rs_ g7 h_
    obtain ⟨q_1, hpost⟩ := h_
    subst q_1
    cbv
    exact retGI hA rfl [] g7 ⟨rfl, hpost⟩ trivial
   ·have h2 := zleF hA h2
    have hq : w64 (q - pk) = w64 (q - (s.parts : Nat)) := by rw [hpk]
    cbv
    refine callGI hA (hdo h2) ?_
    intro rs_ g4 h_
    obtain ⟨q_1, hD⟩ := h_
    subst q_1
    cbv
    refine ⟨(_, _, _), weakI rfl ⟨rfl, rfl, rfl, rfl, rfl, rfl, trivial⟩ ⟨rfl, trivial⟩, hI.step hl hp hs h2 hD (zadd hA m 1) ((zsub hA q pk).trans hq), ?_⟩
    change nd.loose.length - (A.wrap .i64 (A.add m 1)).toNat < nd.loose.length - m.toNat
    rw [zadd hA]; exact hstep
   ·cbv
    refine gldAI hA _ hI.box ?_
    cbv
    refine gstI hA _ (hbg) ?_
    rintro g6 hg6
    cbv
    refine callGI hA (fin _ _ _ _ _ _ _ _ _ _ hI (.inl (zleT hA h2)) hg6) ?_
    intro rs_ g7 h_
    obtain ⟨q_1, hpost⟩ := h_
    subst q_1
    cbv
    exact retGI hA rfl [] g7 ⟨rfl, hpost⟩ trivial
   ·have h2 := zleF hA h2
    have hq : w64 (q - pk) = w64 (q - (s.parts : Nat)) := by rw [hpk]
    cbv
    refine callGI hA (hdo h2) ?_
    intro rs_ g4 h_
    obtain ⟨q_1, hD⟩ := h_
    subst q_1
    cbv
    refine ⟨(_, _, _), weakI rfl ⟨rfl, rfl, rfl, rfl, rfl, rfl, trivial⟩ ⟨rfl, trivial⟩, hI.step hl hp hs h2 hD (zadd hA m 1) ((zsub hA q pk).trans hq), ?_⟩
    change nd.loose.length - (A.wrap .i64 (A.add m 1)).toNat < nd.loose.length - m.toNat
    rw [zadd hA]; exact hstep
  ·have h := zltF hA h
   have hjn : j = nd.loose.length := by have := hI.j_; omega
   cbv
   refine gldAI hA _ hI.box ?_
   cbv
   refine gstI hA _ (hbg) ?_
   rintro g6 hg6
   cbv
   refine callGI hA (fin _ _ _ _ _ _ _ _ _ _ hI (.inr hjn) hg6) ?_
   intro rs_ g7 h_
   obtain ⟨q_1, hpost⟩ := h_
   subst q_1
   cbv
   exact retGI hA rfl [] g7 ⟨rfl, hpost⟩ trivial
end Go.Proofs.YthioccbgjkbmdaaGreat.AM
