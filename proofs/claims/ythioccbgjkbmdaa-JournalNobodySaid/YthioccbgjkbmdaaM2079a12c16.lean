/-
  Contracts: a new node; a new disk.
-/
import Derived.Test.YthioccbgjkbmdaaM195eac6c00
set_option linter.unusedVariables false
set_option linter.unusedSimpArgs false
namespace Go.Proofs.Ythioccbgjkbmdaa.AM
open Go Go.RowKit
set_option maxRecDepth 100000
set_option maxHeartbeats 4000000

theorem NsV.app {gh : GH} {lab : Lab} {v : V} {ids : List Nat} (h : NsV gh lab v ids) : SlApp gh 1 (ids.map fun i => V.gp i 0) v := by
  rcases h with ⟨h1, h2⟩ | ⟨id, h1, _, h2⟩
  · exact .inl ⟨h1, by rw [h2]; rfl⟩
  · exact .inr (.inr ⟨id, by rw [h1, List.length_map], h2⟩)
def nd0 (dir : Bool) : Nd := ⟨dir, ⟨[], []⟩, []⟩
def NewT (n : Nat) (r : Nat × Nat) : Prop := r = (0, 6) ∨ r = (0, 7) ∨ NdT n r
/-- A node is put behind the others. -/
theorem DkX.push {gh g g5 g6 : GH} {lab lab' : Lab} {p : Nat} {k : Dk} {v : V} {ids : List Nat} (h : DkX gh lab p k v ids) {nid x : Nat} {nd : Nd} {m : Int}
    (u : Upd gh g lab lab' (NdT k.nodes.length) (fun _ => False)) (hN : NodeAt g lab' k.nodes.length nid nd) (hx : x = g.next) (e1 : g5.next = g.next + 1) (e2 : g5.get x = some (.arow 1 ((ids.map fun i => V.gp i 0) ++ [.gp nid 0]))) (e3 : ∀ j, j < g.next → (∀ n, v ≠ .gs j n) → g5.get j = g.get j) (e4 : m = (((ids.map fun i => V.gp i 0) ++ [V.gp nid 0]).length : Nat)) (e5 : g6 = g5.set p (boxD (.gs x m) k)) :
    m = ((k.nodes.length + 1 : Nat) : Int) ∧ ∃ lab6 ids', Upd gh g6 lab lab6 (NewT k.nodes.length) (fun _ => False) ∧ DkX g6 lab6 p { k with nodes := k.nodes ++ [nd] } (.gs x m) ids' ∧ ∀ (j id : Nat), ids[j]? = some id → ids'[j]? = some id := by
  subst hx
  have no : ∀ {j : Nat}, 5 < j → ¬ NdT k.nodes.length (0, j) := fun h t => by have := t.2; dsimp only at this; omega
  obtain ⟨q1, q2⟩ := upd_id h.dom u h.lp (no (by decide)) (fun h => h) h.box
  have hns := h.ns.upd h.dom u (no (by decide)) (fun _ h => h.elim)
  have hlen : m = ((k.nodes.length + 1 : Nat) : Int) := by rw [e4, ← h.len]; simp
  have hvl : ∀ j n, v = .gs j n → lab' j = some (0, 7) := fun j n e => by
    rcases hns with ⟨q, _⟩ | ⟨y, q, q3, _⟩
    · rw [q] at e; cases e
    · rw [q] at e; cases e; exact q3
  have u6 : Upd g g6 lab' (fun y => if y = g.next then some (0, 7) else lab' y) (fun r => r = (0, 6) ∨ r = (0, 7)) (fun _ => False) := by
    refine ⟨by rw [e5]; simp; omega, fun y hy => by rw [if_neg (by omega)], fun y hy => ?_, fun y hy _ t => ?_⟩
    · rw [e5] at hy; simp at hy
      rw [if_neg (by omega)]; exact u.dom y (by omega)
    · rw [e5]; simp only [GH.set_get]
      rw [if_neg (fun e => t (0, 6) (by rw [e]; exact q1) (.inl rfl))]
      exact e3 y hy fun n e => t (0, 7) (hvl y n e) (.inr rfl)
  have hp : p < g.next := u.dom.lt q1
  refine ⟨hlen, _, ids ++ [nid], (u.weak (T' := NewT k.nodes.length) (fun r t => .inr (.inr t)) (fun _ h => h.elim)).trans (u6.weak (fun r t => t.elim .inl (fun t => .inr (.inl t))) (fun _ h => h.elim)), ⟨u6.dom, (u6.old p hp).trans q1, by rw [e5]; simp; rfl, .inr ⟨g.next, by rw [e4]; simp, by simp, ?_⟩, by simp [h.len], fun i id nj h1 h2 => ?_⟩, fun j id q => by rw [List.getElem?_append_left (List.getElem?_eq_some_iff.1 q).1]; exact q⟩
  · rw [e5]; simp only [GH.set_get]; rw [if_neg (by omega), e2]; simp
  · have f : ∀ (r : Nat × Nat), r.2 ≤ 5 → ¬ (r = (0, 6) ∨ r = (0, 7)) := fun r hr e => by rcases e with rfl | rfl <;> simp at hr
    rcases Nat.lt_or_ge i k.nodes.length with q | q
    · have h1' : ids[i]? = some id := by rw [List.getElem?_append_left (by rw [h.len]; exact q)] at h1; exact h1
      have h2' : k.nodes[i]? = some nj := by dsimp only at h2; rw [List.getElem?_append_left q] at h2; exact h2
      exact ((h.at_ i id nj h1' h2').upd h.dom u (fun j _ t => by have := t.1; dsimp only at this; omega) (fun _ h => h.elim)).upd u.dom u6 (fun j hj => f _ hj) (fun _ h => h.elim)
    · dsimp only at h2
      have hi : i = k.nodes.length := by
        have := (List.getElem?_eq_some_iff.1 h2).1; simp at this; omega
      subst hi
      rw [List.getElem?_append_right (Nat.le_refl _)] at h2
      rw [List.getElem?_append_right (by rw [h.len]; exact Nat.le_refl _)] at h1
      simp [h.len] at h1 h2
      subst h1 h2
      exact hN.upd u.dom u6 (fun j hj => f _ hj) (fun _ h => h.elim)
section
variable {A : Prim} {R : List (Nat × AObj) → List D → Prop} (hA : A = std Try.prog R)
include hA
theorem gbxN {o : Oper} {t : Nat} {x : Operand} {gh : GH} {v : V} {K : V → GH → Prop} (hK : ∀ g' i, i = gh.next → g' = gh.new (.box v.flat) → K (.gp i 0) g') (ho : o.op = .box t x := by rfl) (hc : v.okc = true := by rfl) : A.gop o [v] gh K := gbxI hA (fun g' h => hK g' _ rfl h) ho hc
theorem gmakeN {o : Oper} {t : Nat} {gh : GH} {K : V → GH → Prop} (hK : ∀ g' i, i = gh.next → g' = gh.new (.map [] 0) → K (.gm i) g') (ho : o.op = .makeMap t none := by rfl) : A.gop o [] gh K := gmakeI hA (fun g' h => hK g' _ rfl h) ho
theorem gappN {o : Oper} {c : Call} {t t2 e z bt : Nat} {s x : Operand} {gh : GH} {y v : V} {K : V → GH → Prop} (l l2 : List V) (hy : SlApp gh z l y) (hsrc : SrcIs gh z v l2) (hne : l2 ≠ []) (hzl : ∀ x ∈ l, x.flat.length = z) (hroom : (l.length + l2.length) * bt ≤ 140737488355328)
    (hK : ∀ (g' : GH) (m : Int) (i : Nat), i = gh.next → g'.next = gh.next + 1 → g'.get i = some (.arow z (l ++ l2)) → (∀ j, j < gh.next → (∀ n, y ≠ .gs j n) → g'.get j = gh.get j) → m = ((l ++ l2).length : Nat) → K (.gs i m) g')
    (ho : o.op = .call c := by rfl) (hcb : c.callee = .builtin .append := by rfl) (hat : c.argTypes = #[t, t2] := by rfl) (has : c.args = #[s, x] := by rfl) (hkt : (tyOf t).k = .slice e := by rfl) (hkn : known (tyOf e).k = true := by rfl) (hz : (tyOf e).size = z := by rfl) (hbt : (tyOf e).bytes = bt := by rfl) (hz0 : 0 < z := by decide)
    (hst : isSrcV (tyOf t2).k v = true := by rfl) (hb0 : 0 < bt := by decide) : A.gop o [y, v] gh K :=
  gappSI hA l l2 hy hsrc hne hzl hroom (fun g' m h1 h2 h3 h4 => hK g' m _ rfl h1 h2 h3 h4) ho hcb hat has hkt hkn hz hbt hz0 hst hb0
end
theorem mp0 : MpOk [] 0 [] := ⟨by simp, by simp, .refl _, by first | exact .nil | simp [Ord]⟩
theorem gFresh {gh : GH} {lab : Lab} {p : Nat} {k : Dk} {v : V} {ids : List Nat} (h : DkX gh lab p k v ids) (dir : Bool) (hn : k.nodes.length ≤ 1000000000) : FnG Try.prog 26 [.gp p 0, .bool dir] gh fun rs g => ∃ (m : Int) (lab' : Lab) (v' : V) (ids' : List Nat), rs = [.v (.int .i64 m)] ∧ m = ((k.nodes.length + 1 : Nat) : Int) ∧ Upd gh g lab lab' (NewT k.nodes.length) (fun _ => False) ∧ DkX g lab' p { k with nodes := k.nodes ++ [nd0 dir] } v' ids' ∧ ∀ (j id : Nat), ids[j]? = some id → ids'[j]? = some id := by
  obtain ⟨n, hnn⟩ : ∃ n, n = k.nodes.length := ⟨_, rfl⟩
  have hp := h.dom.lt h.lp
  -- where the node has been made
  have mid : ∀ (g3 : GH) (lab3 : Lab) (g4 : GH) (lab4 : Lab) (nid : Nat), Upd gh g3 lab lab3 (fun _ => False) (fun _ => False) → Upd g3 g4 lab3 lab4 (fun r => r = (n, 0)) (fun _ => False) → Upd gh g4 lab lab4 (NdT k.nodes.length) (fun _ => False) ∧ g4.get p = some (boxD v k) ∧ SlApp g4 1 (ids.map fun i => V.gp i 0) v := fun g3 lab3 g4 lab4 nid u3 u4 => by
    have u : Upd gh g4 lab lab4 (NdT k.nodes.length) (fun _ => False) := (u3.weak (fun _ h => h.elim) (fun _ h => h.elim)).trans (u4.weak (fun r e => by rw [e, hnn]; exact ⟨rfl, Nat.zero_le _⟩) (fun _ h => h.elim))
    have no : ∀ {j : Nat}, 5 < j → ¬ NdT k.nodes.length (0, j) := fun h t => by have := t.2; dsimp only at this; omega
    exact ⟨u, (upd_id h.dom u h.lp (no (by decide)) (fun h => h) h.box).2, (h.ns.upd h.dom u (no (by decide)) (fun _ h => h.elim)).app⟩
  have hzl : ∀ x ∈ (ids.map fun i => V.gp i 0), x.flat.length = 1 := fun x hx => by
    obtain ⟨_, _, rfl⟩ := List.mem_map.1 hx
    rfl
  have hroom : ((ids.map fun i => V.gp i 0).length + 1) * 8 ≤ 140737488355328 := by
    rw [List.length_map, h.len]; omega
  obtain ⟨ls, hls⟩ : ∃ ls, ls = ids.map fun i => V.gp i 0 := ⟨_, rfl⟩
  rw [← hls] at mid hzl hroom
  have push : ∀ {g g5 g6 : GH} {lab' : Lab} {nid x : Nat} {nd : Nd} {m : Int}, Upd gh g lab lab' (NdT k.nodes.length) (fun _ => False) → NodeAt g lab' k.nodes.length nid nd → x = g.next → g5.next = g.next + 1 → g5.get x = some (.arow 1 (ls ++ [.gp nid 0])) → (∀ j, j < g.next → (∀ n, v ≠ .gs j n) → g5.get j = g.get j) → m = ((ls ++ [V.gp nid 0]).length : Nat) → g6 = g5.set p (boxD (.gs x m) k) →
      m = ((k.nodes.length + 1 : Nat) : Int) ∧ ∃ lab6 ids', Upd gh g6 lab lab6 (NewT k.nodes.length) (fun _ => False) ∧ DkX g6 lab6 p { k with nodes := k.nodes ++ [nd] } (.gs x m) ids' ∧ ∀ (j id : Nat), ids[j]? = some id → ids'[j]? = some id := fun u hN hx e1 e2 e3 e4 e5 => h.push u hN hx e1 (hls ▸ e2) e3 (hls ▸ e4) e5
  have hvp : ∀ (g : GH) (lab' : Lab), Upd gh g lab lab' (NdT k.nodes.length) (fun _ => False) → ∀ n, v ≠ .gs p n := fun g lab' u n e => by
    rcases h.ns with ⟨q, _⟩ | ⟨y, q, q3, _⟩
    · rw [q] at e; cases e
    · rw [q] at e; cases e
      rw [h.lp] at q3; cases q3
  have bp := h.box
  have hv : v = .nils ∨ ∃ a n, v = .gs a n := by
    rcases h.ns with ⟨q, _⟩ | ⟨y, q, _⟩
    · exact .inl q
    · exact .inr ⟨_, _, q⟩
  have hd := h.dom
  clear h
  rcases hv with rfl | ⟨va, vn, rfl⟩
  all_goals cases dir
  · refine FnG.of' T_ok M_ok [8, 24] (fn := Try.f26) (by kernel_rfl) rfl rfl rfl rfl (Nat.le_of_ble_eq_true rfl) fun A hA => ?_
    cbv
    refine gbxN hA ?_
    intro g1 nid hnid hg1
    have hb1 : g1.get nid = some (.box [.bool false, .nils, .nilmap, .nils, .nilmap, .nils]) := by rw [hg1, hnid]; simp; rfl
    cbv
    refine condF hA rfl ?_
    cbv
    have u3 : Upd gh g1 lab (fun x => if x = nid then some (n, 0) else lab x) (fun _ => False) (fun _ => False) := ⟨by rw [hg1]; simp, fun x hx => by rw [if_neg (by omega)], fun x hx => by
      rw [hg1] at hx; simp at hx
      rw [if_neg (by omega)]; exact hd x (by omega), fun x hx _ _ => by
      rw [hg1]; simp only [GH.new_get]; rw [if_neg (by omega)]⟩
    have hsy := gSyncG (i := n) (c := ⟨[], []⟩) (dir := false) u3.dom hb1 (by rw [if_pos rfl]) (.inl ⟨rfl, rfl⟩) ⟨rfl, rfl⟩ (by simp)
    refine callGI hA (hsy) ?_
    intro rs_ g4 h_
    obtain ⟨q_1, lab4, u4, hN⟩ := h_
    subst q_1
    cbv
    obtain ⟨u, bp4, hap⟩ := mid _ _ g4 lab4 nid u3 u4
    rw [hnn] at hN
    have hvp4 := hvp g4 lab4 u
    refine gldI hA _ (bp4) ?_
    cbv
    refine gappN hA ls [.gp nid 0] hap ?_ (by simp) hzl hroom ?_
    · exact ⟨rfl, by intro q hq; simp at hq; subst hq; rfl⟩
    intro g5 m x hx e1 e2 e3 e4
    have bp5 : g5.get p = some (boxD _ k) := (e3 p (Nat.lt_of_lt_of_le hp u.next) hvp4).trans bp4
    cbv
    refine gstI hA _ bp5 ?_
    intro g6 hg6
    have hg6 : g6 = g5.set p (boxD (.gs x m) k) := hg6
    obtain ⟨hm, lab6, ids', u6, hX, hids⟩ := push u hN hx e1 e2 e3 e4 hg6
    have bp6 := hX.box
    cbv
    refine gldI hA _ (bp6) ?_
    cbv
    refine glenI hA ?_
    cbv
    exact retGI hA rfl [.v (.int .i64 m)] g6 (⟨m, lab6, _, ids', rfl, hm, u6, hX, hids⟩) (by first | exact ⟨rfl, trivial⟩ | exact ⟨rfl, rfl, trivial⟩ | exact ⟨rfl, rfl, rfl, trivial⟩ | trivial)
  · refine FnG.of' T_ok M_ok [8, 24] (fn := Try.f26) (by kernel_rfl) rfl rfl rfl rfl (Nat.le_of_ble_eq_true rfl) fun A hA => ?_
    cbv
    refine gbxN hA ?_
    intro g1 nid hnid hg1
    have hb1 : g1.get nid = some (.box [.bool true, .nils, .nilmap, .nils, .nilmap, .nils]) := by rw [hg1, hnid]; simp; rfl
    cbv
    refine condT hA rfl ?_
    cbv
    refine gmakeN hA ?_
    intro g2 mid1 hmid hg2
    have hne : nid ≠ g1.next := by rw [hnid, hg1, GH.new_next]; omega
    have hb2 : g2.get nid = some (.box [.bool true, .nils, .nilmap, .nils, .nilmap, .nils]) := by rw [hg2]; simp only [GH.new_get]; rw [if_neg hne]; exact hb1
    cbv
    refine gstI hA _ hb2 ?_
    intro g3 hg3
    have hg3 : g3 = g2.set nid (.box [.bool true, .nils, .nilmap, .nils, .gm mid1, .nils]) := hg3
    cbv
    have hn1 : g1.next = gh.next + 1 := by rw [hg1]; rfl
    have u3 : Upd gh g3 lab (labN lab gh.next (n, 0) (n, 4)) (fun _ => False) (fun _ => False) := ⟨by rw [hg3, hg2, hg1]; simp; omega, fun x hx => by unfold labN; rw [if_neg (by omega), if_neg (by omega)], fun x hx => by
      rw [hg3, hg2, hg1] at hx; simp at hx
      unfold labN; rw [if_neg (by omega), if_neg (by omega)]; exact hd x (by omega), fun x hx _ _ => by
      rw [hg3]; simp only [GH.set_get]; rw [if_neg (by omega), hg2]; simp only [GH.new_get]; rw [if_neg (by omega), hg1]; simp only [GH.new_get]; rw [if_neg (by omega)]⟩
    have hb3 : g3.get nid = some (.box [.bool true, .nils, .nilmap, .nils, .gm mid1, .nils]) := by rw [hg3]; simp
    have hsy := gSyncG (i := n) (c := ⟨[], []⟩) (dir := true) u3.dom hb3 (by unfold labN; rw [if_pos hnid]) (.inl ⟨rfl, rfl⟩) ⟨mid1, [], 0, rfl, by unfold labN; rw [if_neg (by omega), if_pos (by omega)], by rw [hg3]; simp only [GH.set_get]; rw [if_neg (by omega), hg2, hmid]; simp; rfl, mp0⟩ (by simp)
    refine callGI hA (hsy) ?_
    intro rs_ g4 h_
    obtain ⟨q_1, lab4, u4, hN⟩ := h_
    subst q_1
    cbv
    obtain ⟨u, bp4, hap⟩ := mid _ _ g4 lab4 nid u3 u4
    rw [hnn] at hN
    have hvp4 := hvp g4 lab4 u
    refine gldI hA _ (bp4) ?_
    cbv
    refine gappN hA ls [.gp nid 0] hap ?_ (by simp) hzl hroom ?_
    · exact ⟨rfl, by intro q hq; simp at hq; subst hq; rfl⟩
    intro g5 m x hx e1 e2 e3 e4
    have bp5 : g5.get p = some (boxD _ k) := (e3 p (Nat.lt_of_lt_of_le hp u.next) hvp4).trans bp4
    cbv
    refine gstI hA _ bp5 ?_
    intro g6 hg6
    have hg6 : g6 = g5.set p (boxD (.gs x m) k) := hg6
    obtain ⟨hm, lab6, ids', u6, hX, hids⟩ := push u hN hx e1 e2 e3 e4 hg6
    have bp6 := hX.box
    cbv
    refine gldI hA _ (bp6) ?_
    cbv
    refine glenI hA ?_
    cbv
    exact retGI hA rfl [.v (.int .i64 m)] g6 (⟨m, lab6, _, ids', rfl, hm, u6, hX, hids⟩) (by first | exact ⟨rfl, trivial⟩ | exact ⟨rfl, rfl, trivial⟩ | exact ⟨rfl, rfl, rfl, trivial⟩ | trivial)
  · refine FnG.of' T_ok M_ok [8, 24] (fn := Try.f26) (by kernel_rfl) rfl rfl rfl rfl (Nat.le_of_ble_eq_true rfl) fun A hA => ?_
    cbv
    refine gbxN hA ?_
    intro g1 nid hnid hg1
    have hb1 : g1.get nid = some (.box [.bool false, .nils, .nilmap, .nils, .nilmap, .nils]) := by rw [hg1, hnid]; simp; rfl
    cbv
    refine condF hA rfl ?_
    cbv
    have u3 : Upd gh g1 lab (fun x => if x = nid then some (n, 0) else lab x) (fun _ => False) (fun _ => False) := ⟨by rw [hg1]; simp, fun x hx => by rw [if_neg (by omega)], fun x hx => by
      rw [hg1] at hx; simp at hx
      rw [if_neg (by omega)]; exact hd x (by omega), fun x hx _ _ => by
      rw [hg1]; simp only [GH.new_get]; rw [if_neg (by omega)]⟩
    have hsy := gSyncG (i := n) (c := ⟨[], []⟩) (dir := false) u3.dom hb1 (by rw [if_pos rfl]) (.inl ⟨rfl, rfl⟩) ⟨rfl, rfl⟩ (by simp)
    refine callGI hA (hsy) ?_
    intro rs_ g4 h_
    obtain ⟨q_1, lab4, u4, hN⟩ := h_
    subst q_1
    cbv
    obtain ⟨u, bp4, hap⟩ := mid _ _ g4 lab4 nid u3 u4
    rw [hnn] at hN
    have hvp4 := hvp g4 lab4 u
    refine gldI hA _ (bp4) ?_
    cbv
    refine gappN hA ls [.gp nid 0] hap ?_ (by simp) hzl hroom ?_
    · exact ⟨rfl, by intro q hq; simp at hq; subst hq; rfl⟩
    intro g5 m x hx e1 e2 e3 e4
    have bp5 : g5.get p = some (boxD _ k) := (e3 p (Nat.lt_of_lt_of_le hp u.next) hvp4).trans bp4
    cbv
    refine gstI hA _ bp5 ?_
    intro g6 hg6
    have hg6 : g6 = g5.set p (boxD (.gs x m) k) := hg6
    obtain ⟨hm, lab6, ids', u6, hX, hids⟩ := push u hN hx e1 e2 e3 e4 hg6
    have bp6 := hX.box
    cbv
    refine gldI hA _ (bp6) ?_
    cbv
    refine glenI hA ?_
    cbv
    exact retGI hA rfl [.v (.int .i64 m)] g6 (⟨m, lab6, _, ids', rfl, hm, u6, hX, hids⟩) (by first | exact ⟨rfl, trivial⟩ | exact ⟨rfl, rfl, trivial⟩ | exact ⟨rfl, rfl, rfl, trivial⟩ | trivial)
  · refine FnG.of' T_ok M_ok [8, 24] (fn := Try.f26) (by kernel_rfl) rfl rfl rfl rfl (Nat.le_of_ble_eq_true rfl) fun A hA => ?_
    cbv
    refine gbxN hA ?_
    intro g1 nid hnid hg1
    have hb1 : g1.get nid = some (.box [.bool true, .nils, .nilmap, .nils, .nilmap, .nils]) := by rw [hg1, hnid]; simp; rfl
    cbv
    refine condT hA rfl ?_
    cbv
    refine gmakeN hA ?_
    intro g2 mid1 hmid hg2
    have hne : nid ≠ g1.next := by rw [hnid, hg1, GH.new_next]; omega
    have hb2 : g2.get nid = some (.box [.bool true, .nils, .nilmap, .nils, .nilmap, .nils]) := by rw [hg2]; simp only [GH.new_get]; rw [if_neg hne]; exact hb1
    cbv
    refine gstI hA _ hb2 ?_
    intro g3 hg3
    have hg3 : g3 = g2.set nid (.box [.bool true, .nils, .nilmap, .nils, .gm mid1, .nils]) := hg3
    cbv
    have hn1 : g1.next = gh.next + 1 := by rw [hg1]; rfl
    have u3 : Upd gh g3 lab (labN lab gh.next (n, 0) (n, 4)) (fun _ => False) (fun _ => False) := ⟨by rw [hg3, hg2, hg1]; simp; omega, fun x hx => by unfold labN; rw [if_neg (by omega), if_neg (by omega)], fun x hx => by
      rw [hg3, hg2, hg1] at hx; simp at hx
      unfold labN; rw [if_neg (by omega), if_neg (by omega)]; exact hd x (by omega), fun x hx _ _ => by
      rw [hg3]; simp only [GH.set_get]; rw [if_neg (by omega), hg2]; simp only [GH.new_get]; rw [if_neg (by omega), hg1]; simp only [GH.new_get]; rw [if_neg (by omega)]⟩
    have hb3 : g3.get nid = some (.box [.bool true, .nils, .nilmap, .nils, .gm mid1, .nils]) := by rw [hg3]; simp
    have hsy := gSyncG (i := n) (c := ⟨[], []⟩) (dir := true) u3.dom hb3 (by unfold labN; rw [if_pos hnid]) (.inl ⟨rfl, rfl⟩) ⟨mid1, [], 0, rfl, by unfold labN; rw [if_neg (by omega), if_pos (by omega)], by rw [hg3]; simp only [GH.set_get]; rw [if_neg (by omega), hg2, hmid]; simp; rfl, mp0⟩ (by simp)
    refine callGI hA (hsy) ?_
    intro rs_ g4 h_
    obtain ⟨q_1, lab4, u4, hN⟩ := h_
    subst q_1
    cbv
    obtain ⟨u, bp4, hap⟩ := mid _ _ g4 lab4 nid u3 u4
    rw [hnn] at hN
    have hvp4 := hvp g4 lab4 u
    refine gldI hA _ (bp4) ?_
    cbv
    refine gappN hA ls [.gp nid 0] hap ?_ (by simp) hzl hroom ?_
    · exact ⟨rfl, by intro q hq; simp at hq; subst hq; rfl⟩
    intro g5 m x hx e1 e2 e3 e4
    have bp5 : g5.get p = some (boxD _ k) := (e3 p (Nat.lt_of_lt_of_le hp u.next) hvp4).trans bp4
    cbv
    refine gstI hA _ bp5 ?_
    intro g6 hg6
    have hg6 : g6 = g5.set p (boxD (.gs x m) k) := hg6
    obtain ⟨hm, lab6, ids', u6, hX, hids⟩ := push u hN hx e1 e2 e3 e4 hg6
    have bp6 := hX.box
    cbv
    refine gldI hA _ (bp6) ?_
    cbv
    refine glenI hA ?_
    cbv
    exact retGI hA rfl [.v (.int .i64 m)] g6 (⟨m, lab6, _, ids', rfl, hm, u6, hX, hids⟩) (by first | exact ⟨rfl, trivial⟩ | exact ⟨rfl, rfl, trivial⟩ | exact ⟨rfl, rfl, rfl, trivial⟩ | trivial)
def lab0 : Lab := fun _ => none
def dk0 (cap : Int) : Dk := ⟨[], cap, 0, 0, false, false, ⟨false, 0⟩, ⟨false, 0⟩⟩
def dkNew (cap : Int) : Dk := { dk0 cap with nodes := [nd0 true] }
theorem gNew (gh : GH) (lab : Lab) (hd : Dom gh lab) (hl : ∀ x, lab x ≠ some (0, 6)) (c : Int) (hc : 0 ≤ c) : FnG Try.prog 9 [.int .i64 c] gh fun rs g => ∃ (p : Nat) (lab' : Lab), rs = [.v (.gp p 0)] ∧ gh.next ≤ p ∧ Upd gh g lab lab' (NewT 0) (fun _ => False) ∧ DkIn g lab' p (dkNew c) := by
  have hX : ∀ (g1 : GH) (p : Nat), p = gh.next → g1 = gh.new (boxD .nils (dk0 c)) → DkX g1 (fun x => if x = p then some (0, 6) else lab x) p (dk0 c) .nils [] ∧ Upd gh g1 lab (fun x => if x = p then some (0, 6) else lab x) (NewT 0) (fun _ => False) := fun g1 p hp hg => by
    have hd1 : Dom g1 (fun x => if x = p then some (0, 6) else lab x) := fun x hx => by
      rw [hg] at hx; simp at hx
      dsimp only
      rw [if_neg (by omega)]; exact hd x (by omega)
    exact ⟨⟨hd1, by simp, by rw [hg, hp]; simp, .inl ⟨rfl, rfl⟩, rfl, fun i id nd h1 h2 => by simp at h1⟩, by rw [hg]; simp, fun x hx => by rw [if_neg (by omega)], hd1, fun x hx _ _ => by rw [hg]; simp only [GH.new_get]; rw [if_neg (by omega)]⟩
  refine FnG.of' T_ok M_ok [7] (fn := Try.f9) (by kernel_rfl) rfl rfl rfl rfl (Nat.le_of_ble_eq_true rfl) fun A hA => ?_
  cbv
  have hmx : A.imax 0 c = c := by
    rw [hA]
    change (if c > 0 then c else 0) = c
    split <;> omega
  refine gbxN hA ?_
  intro g1 p hp hg1
  have hg1 : g1 = gh.new (boxD .nils (dk0 c)) := hg1.trans (congrArg (fun n => gh.new (boxD .nils (dk0 n))) hmx)
  obtain ⟨hX1, u1⟩ := hX g1 p hp hg1
  cbv
  refine callGI hA (gFresh hX1 true (by simp [dk0])) ?_
  intro rs_ g2 h_
  obtain ⟨m, lab2, v2, ids2, q_1, hm, u2, hX2, _⟩ := h_
  subst q_1
  cbv
  exact retGI hA rfl [.v (.gp p 0)] g2 (⟨p, lab2, rfl, by omega, u1.trans u2, hX2.at, by simp [dkNew]⟩) (by first | exact ⟨rfl, trivial⟩ | exact ⟨rfl, rfl, trivial⟩ | exact ⟨rfl, rfl, rfl, trivial⟩ | trivial)
end Go.Proofs.Ythioccbgjkbmdaa.AM

/-
  Contracts: an op on one node.
-/
set_option linter.unusedVariables false
set_option linter.unusedSimpArgs false
namespace Go.Proofs.Ythioccbgjkbmdaa.AM
open Go Go.RowKit
set_option maxRecDepth 100000
set_option maxHeartbeats 4000000

theorem boxD_down {v v' : V} {k k' : Dk} (h : boxD v' k' = boxD v k) : boxD v' { k' with down := true } = boxD v { k with down := true } := by
  unfold boxD at *
  simp only [GObj.box.injEq, List.cons.injEq, V.int.injEq, V.bool.injEq, true_and, and_true] at h ⊢
  obtain ⟨h1, h2, h3, h4, h5, h6, h7, h8, h9, h10⟩ := h
  simp_all
theorem node_at {k : Dk} {i : Nat} {nd : Nd} (h : k.nodes[i]? = some nd) : k.node? ((i : Int) + 1) = some nd := by
  unfold Dk.node?
  rw [if_pos (by omega), show ((i : Int) + 1 - 1).toNat = i by omega]; exact h
theorem set_at_ (k : Dk) (i : Nat) (nd : Nd) : k.set ((i : Int) + 1) nd = { k with nodes := k.nodes.set i nd } := by
  unfold Dk.set; rw [show ((i : Int) + 1 - 1).toNat = i by omega]
def Op1T (i : Nat) (r : Nat × Nat) : Prop := r = (0, 6) ∨ NdT i r
theorem OpPost.node {gh g : GH} {lab : Lab} {p : Nat} {k : Dk} {v : V} {ids : List Nat} (h : DkX gh lab p k v ids) (hup : k.down = false) {i id : Nat} {nd : Nd} (hi : ids[i]? = some id) (hn : k.nodes[i]? = some nd) (f : Nd → Nd) {change : Bool}
    (hO : OpPost gh p k v change (fun g => ∃ lab2, Upd (gh.set p (boxD v (k.tick0 change))) g lab lab2 (NdT i) (fun _ => False) ∧ NodeAt g lab2 i id (f nd)) g) :
    ∃ lab', Upd gh g lab lab' (Op1T i) (fun _ => False) ∧ DkX g lab' p (k.op change ((i : Int) + 1) f) v ids := by
  obtain ⟨hX0, u0⟩ := h.cells (k' := k.tick0 change) rfl rfl
  have u0' := u0.weak (T' := Op1T i) (X' := fun _ => False) (fun r e => .inl e) (fun _ h => h.elim)
  unfold OpPost at hO
  have hop : k.op change ((i : Int) + 1) f = if k.does then { k.tick change with nodes := k.nodes.set i (f nd) } else k.tick change := by
    unfold Dk.op; rw [node_at hn]; dsimp only; rw [set_at_]; rfl
  rw [hop]
  split at hO
  · rename_i hdoes
    rw [if_pos hdoes]
    obtain ⟨g2, ⟨lab2, u2, hN⟩, e1, e2⟩ := hO
    have hX2 := hX0.node hi hn u2 hN
    have u2' := u0'.trans (u2.weak (T' := Op1T i) (X' := fun _ => False) (fun r e => .inr e) (fun _ h => h.elim))
    cases hh : k.fail.hit with
    | false =>
      obtain rfl := e1 hh
      refine ⟨lab2, u2', ?_⟩
      have e : ({ k.tick change with nodes := k.nodes.set i (f nd) } : Dk) = { k.tick0 change with nodes := k.nodes.set i (f nd) } := by
        unfold Dk.tick Dk.tick0; rw [hh, hup]; rfl
      rw [e]; exact hX2
    | true =>
      obtain ⟨v', k', q1, q2⟩ := e2 hh
      have hb : boxD v' k' = boxD v { k.tick0 change with nodes := k.nodes.set i (f nd) } := Option.some.inj (q1.symm.trans hX2.box)
      obtain ⟨hX3, u3⟩ := hX2.cells (g := g) (k' := { k.tick change with nodes := k.nodes.set i (f nd) }) (by rw [q2, boxD_down hb]; unfold Dk.tick Dk.tick0; rw [hh, Bool.or_true]) rfl
      exact ⟨lab2, u2'.trans (u3.weak (fun r e => .inl e) (fun _ h => h.elim)), hX3⟩
  · rename_i hdoes
    rw [if_neg hdoes]
    have hh : k.fail.hit = true := by
      cases q : k.fail.hit with
      | true => rfl
      | false => exact absurd (show k.does = true by simp [Dk.does, q]) hdoes
    obtain ⟨hX1, u1⟩ := h.cells (k' := k.tick change) (g := g) (by rw [hO]; unfold Dk.tick Dk.tick0; rw [hh, Bool.or_true]) rfl
    exact ⟨lab, u1.weak (fun r e => .inl e) (fun _ h => h.elim), hX1⟩
/-- What an error leads to. -/
theorem Got.at_ {k : Dk} {ids : List Nat} {i : Int} {x : V} {id : Nat} {nd : Nd} (h : Got k ids i x id nd) : ∃ j : Nat, i = (j : Int) + 1 ∧ ids[j]? = some id ∧ k.nodes[j]? = some nd :=
  ⟨(i - 1).toNat, by have := h.pos; omega, h.id, h.nd⟩
/-- The sizes of nodes. -/
structure PkOk (k : Dk) (B : Nat) : Prop where
  one : 1 ≤ k.nodes.length
  most : k.nodes.length ≤ 4096
  ls : ∀ nd ∈ k.nodes, LsOk nd.dir nd.safe nd.loose
  sz : ∀ nd ∈ k.nodes, nd.safe.b.length + nd.parts ≤ B
  root : ∃ nd, k.nodes[0]? = some nd ∧ nd.dir = true
  en : ∀ (i : Nat) (nd : Nd), k.nodes[i]? = some nd → (∀ e ∈ nd.safe.en, i + 1 < e.2 ∧ e.2 ≤ k.nodes.length) ∧ ∀ s j, Stp.link s j ∈ nd.loose → i + 1 < j ∧ j ≤ k.nodes.length
theorem seen_len (nd : Nd) : nd.seen.b.length ≤ nd.safe.b.length + nd.parts := by
  unfold Nd.seen Nd.parts
  generalize nd.safe = c
  generalize nd.loose = l
  induction l generalizing c with
  | nil => simp
  | cons s r ih =>
    have h1 := ih (s.run c s.parts)
    have h2 := s.run_len c s.parts
    simp only [List.foldl_cons, List.map_cons, List.sum_cons]; omega
theorem lsOk_app {dir : Bool} : ∀ {l : List Stp} {c : Ct} {s : Stp}, LsOk dir c l → StOk dir (l.foldl (fun c s => s.run c s.parts) c) s.parts s → 1 ≤ s.parts → LsOk dir c (l ++ [s])
  | [], c, s, _, h, h1 => ⟨h, h1, trivial⟩
  | x :: r, c, s, h, h2, h1 => ⟨h.1, h.2.1, lsOk_app h.2.2 h2 h1⟩
end Go.Proofs.Ythioccbgjkbmdaa.AM

/-
  Contracts: Sync, Cut, Unlink.
-/
set_option linter.unusedVariables false
set_option linter.unusedSimpArgs false
namespace Go.Proofs.Ythioccbgjkbmdaa.AM
open Go Go.RowKit
set_option maxRecDepth 100000
set_option maxHeartbeats 4000000

theorem PkOk.op {k : Dk} {B B' : Nat} (h : PkOk k B) {i : Nat} {nd : Nd} (hn : k.nodes[i]? = some nd) (f : Nd → Nd) (change : Bool) (hdir : (f nd).dir = nd.dir) (hls : LsOk (f nd).dir (f nd).safe (f nd).loose) (hsz : (f nd).safe.b.length + (f nd).parts ≤ B') (hB : B ≤ B') (hen : (∀ e ∈ (f nd).safe.en, i + 1 < e.2 ∧ e.2 ≤ k.nodes.length) ∧ ∀ s j, Stp.link s j ∈ (f nd).loose → i + 1 < j ∧ j ≤ k.nodes.length) : PkOk (k.op change ((i : Int) + 1) f) B' := by
  have hop : (k.op change ((i : Int) + 1) f).nodes = if k.does then k.nodes.set i (f nd) else k.nodes := by
    unfold Dk.op; rw [node_at hn]; dsimp only; rw [set_at_]; split <;> rfl
  have hlen : (k.op change ((i : Int) + 1) f).nodes.length = k.nodes.length := by rw [hop]; split <;> simp
  have hat : ∀ (j : Nat) (x : Nd), (k.op change ((i : Int) + 1) f).nodes[j]? = some x → k.nodes[j]? = some x ∨ j = i ∧ x = f nd := fun j x hx => by
    rw [hop] at hx
    split at hx
    · rw [List.getElem?_set] at hx
      split at hx
      · rename_i e
        split at hx
        · cases hx; exact .inr ⟨e.symm, rfl⟩
        · cases hx
      · exact .inl hx
    · exact .inl hx
  have hmem : ∀ x ∈ (k.op change ((i : Int) + 1) f).nodes, x ∈ k.nodes ∨ x = f nd := fun x hx => by
    obtain ⟨j, hj⟩ := List.mem_iff_getElem?.1 hx
    rcases hat j x hj with q | ⟨_, q⟩
    · exact .inl (List.mem_of_getElem? q)
    · exact .inr q
  refine ⟨by rw [hlen]; exact h.one, by rw [hlen]; exact h.most, fun x hx => ?_, fun x hx => ?_, ?_, fun j x hx => ?_⟩
  · rcases hmem x hx with q | rfl
    · exact h.ls x q
    · exact hls
  · rcases hmem x hx with q | rfl
    · exact Nat.le_trans (h.sz x q) hB
    · exact hsz
  · obtain ⟨r, hr, hd⟩ := h.root
    rw [hop]
    split
    · rcases Nat.decEq i 0 with q | q
      · exact ⟨r, by rw [List.getElem?_set_ne q]; exact hr, hd⟩
      · subst q
        rw [hr] at hn; cases hn
        exact ⟨f nd, by rw [List.getElem?_set_self (by have := h.one; omega)], by rw [hdir]; exact hd⟩
    · exact ⟨r, hr, hd⟩
  · rw [hlen]
    rcases hat j x hx with q | ⟨rfl, rfl⟩
    · exact h.en j x q
    · exact hen
theorem enIns_mem {x e : Bs × Nat} : ∀ {l : List (Bs × Nat)}, x ∈ enIns l e → x = e ∨ x ∈ l
  | [], h => by simp [enIns] at h; exact .inl h
  | y :: r, h => by
    unfold enIns at h
    split at h
    · rcases List.mem_cons.1 h with h | h
      · exact .inr (by simp [h])
      · exact (enIns_mem h).elim .inl fun q => .inr (by simp [q])
    · rcases List.mem_cons.1 h with h | h
      · exact .inl h
      · exact .inr h
theorem enWith_mem {x : Bs × Nat} {l : List (Bs × Nat)} {s : Bs} {i : Nat} (h : x ∈ enWith l s i) : x.2 = i ∨ x ∈ l :=
  (enIns_mem h).elim (fun e => .inl (by rw [e])) fun q => .inr (List.mem_filter.1 q).1
theorem run_en {P : Nat → Prop} {dir : Bool} {c : Ct} {s : Stp} {k k' : Nat} (h : StOk dir c k s) (h1 : ∀ e ∈ c.en, P e.2) (h2 : ∀ t j, s = Stp.link t j → P j) : ∀ e ∈ (s.run c k').en, P e.2 := by
  cases s with
  | app a => exact h1
  | cut n => exact h1
  | link t i => exact fun e he => (enWith_mem he).elim (fun q => q ▸ h2 t i rfl) fun q => h1 e q
  | unl t => exact fun e he => h1 e (List.mem_filter.1 he).1
  | ren f t i => exact h.elim
theorem fold_en {P : Nat → Prop} {dir : Bool} : ∀ {l : List Stp} {c : Ct}, LsOk dir c l → (∀ e ∈ c.en, P e.2) → (∀ t j, Stp.link t j ∈ l → P j) → ∀ e ∈ (l.foldl (fun c s => s.run c s.parts) c).en, P e.2
  | [], _, _, h1, _ => h1
  | s :: r, c, h, h1, h2 => fold_en (l := r) (c := s.run c s.parts) h.2.2 (run_en h.1 h1 fun t j e => h2 t j (by simp [e])) fun t j e => h2 t j (by simp [e])
theorem runs_en {P : Nat → Prop} {dir : Bool} : ∀ {l : List Stp} {c : Ct} (k : Nat), LsOk dir c l → (∀ e ∈ c.en, P e.2) → (∀ t j, Stp.link t j ∈ l → P j) → ∀ e ∈ (runs c l k).en, P e.2
  | [], _, _, _, h1, _ => h1
  | s :: r, c, k, h, h1, h2 => by
    rw [runs]
    split
    · exact h1
    · rename_i hk
      rcases Nat.lt_or_ge k s.parts with q | q
      · rw [show k - s.parts = 0 by omega, runs_zero]
        exact run_en h.1 h1 fun t j e => h2 t j (by simp [e])
      · rw [Nat.min_eq_right q]
        exact runs_en _ h.2.2 (run_en h.1 h1 fun t j e => h2 t j (by simp [e])) fun t j e => h2 t j (by simp [e])
theorem PkOk.seen_en {k : Dk} {B : Nat} (h : PkOk k B) {i : Nat} {nd : Nd} (hn : k.nodes[i]? = some nd) : ∀ e ∈ nd.seen.en, i + 1 < e.2 ∧ e.2 ≤ k.nodes.length :=
  fold_en (P := fun j => i + 1 < j ∧ j ≤ k.nodes.length) (h.ls nd (List.mem_of_getElem? hn)) (h.en i nd hn).1 (h.en i nd hn).2
theorem PkOk.sync {k : Dk} {B : Nat} (h : PkOk k B) {i : Nat} {nd : Nd} (hn : k.nodes[i]? = some nd) (change : Bool) : PkOk (k.op change ((i : Int) + 1) Nd.sync) B := by
  have h1 := h.sz nd (List.mem_of_getElem? hn)
  have h2 := seen_len nd
  exact h.op hn Nd.sync change rfl trivial (by simp only [Nd.sync, Nd.parts, List.map_nil, List.sum_nil]; omega) (Nat.le_refl _) ⟨h.seen_en hn, fun s j q => by simp [Nd.sync] at q⟩
theorem PkOk.add {k : Dk} {B : Nat} (h : PkOk k B) {i : Nat} {nd : Nd} (hn : k.nodes[i]? = some nd) (change : Bool) (s : Stp) (hs : StOk nd.dir nd.seen s.parts s) (h1 : 1 ≤ s.parts) (hl : ∀ t j, s = Stp.link t j → i + 1 < j ∧ j ≤ k.nodes.length) : PkOk (k.op change ((i : Int) + 1) (·.add s)) (B + s.parts) := by
  have h2 := h.sz nd (List.mem_of_getElem? hn)
  have h3 := h.en i nd hn
  refine h.op hn (·.add s) change rfl (lsOk_app (h.ls nd (List.mem_of_getElem? hn)) hs h1) (by simp only [Nd.add, Nd.parts, List.map_append, List.sum_append, List.map_cons, List.map_nil, List.sum_cons, List.sum_nil] at *; omega) (by omega) ⟨h3.1, fun t j q => ?_⟩
  simp only [Nd.add, List.mem_append, List.mem_singleton] at q
  exact q.elim (fun q => h3.2 t j q) fun q => hl t j q.symm
/-- What is to be shown of an op on one node. -/
def NodeQ (gh : GH) (lab : Lab) (p : Nat) (k : Dk) (v : V) (change : Bool) (i id : Nat) (nd : Nd) (g : GH) : Prop := ∃ lab2, Upd (gh.set p (boxD v (k.tick0 change))) g lab lab2 (NdT i) (fun _ => False) ∧ NodeAt g lab2 i id nd
theorem NodeQ.box {gh : GH} {lab : Lab} {p : Nat} {k : Dk} {v : V} {ids : List Nat} (h : DkX gh lab p k v ids) {i id : Nat} {nd nd' : Nd} {change : Bool} (hi : ids[i]? = some id) (hn : k.nodes[i]? = some nd) : ∀ g, NodeQ gh lab p k v change i id nd' g → ∃ v' k', g.get p = some (boxD v' k') := fun g ⟨lab2, u2, hN⟩ =>
  ⟨_, _, ((h.cells (k' := k.tick0 change) rfl rfl).1.node hi hn u2 hN).box⟩
theorem NodeQ.at0 {gh : GH} {lab : Lab} {p : Nat} {k : Dk} {v : V} {ids : List Nat} (h : DkX gh lab p k v ids) {i id : Nat} {nd : Nd} (change : Bool) (hi : ids[i]? = some id) (hn : k.nodes[i]? = some nd) : Dom (gh.set p (boxD v (k.tick0 change))) lab ∧ NodeAt (gh.set p (boxD v (k.tick0 change))) lab i id nd :=
  have q := (h.cells (k' := k.tick0 change) rfl rfl).1
  ⟨q.dom, q.at_ i id nd hi hn⟩
def Dk.syncD (k : Dk) (i : Int) : Dk × Int := if k.anyE i ≠ 0 then (k, k.anyE i) else (k.op false i Nd.sync, k.opE)
theorem gSync {gh : GH} {lab : Lab} {p : Nat} {k : Dk} {B : Nat} (h : DkIn gh lab p k) (hk : PkOk k B) (hB : B ≤ 1000000000) (i : Int) (hi : I64 i) : FnG Try.prog 34 [.gp p 0, .int .i64 i] gh fun rs g => ∃ (e : Int) (lab' : Lab), rs = [.v (.int .i64 e)] ∧ e = (k.syncD i).2 ∧ Upd gh g lab lab' (fun _ => True) (fun _ => False) ∧ DkIn g lab' p (k.syncD i).1 ∧ PkOk (k.syncD i).1 B := by
  obtain ⟨v, ids, hX⟩ := h.at_.x
  have hne : k.anyE i ≠ 0 → k.syncD i = (k, k.anyE i) := fun q => by unfold Dk.syncD; rw [if_pos q]
  have heq : k.anyE i = 0 → k.syncD i = (k.op false i Nd.sync, k.opE) := fun q => by unfold Dk.syncD; rw [if_neg (fun f => f q)]
  have hany := gAny gh lab p v k ids i hX.box hX.ns hX.len h.one hi
  refine FnG.of' T_ok M_ok [] (fn := Try.f34) (by kernel_rfl) rfl rfl rfl rfl (Nat.le_of_ble_eq_true rfl) fun A hA => ?_
  cbv
  refine callGI hA (hany) ?_
  intro rs_ g_ h_
  obtain ⟨x, e, q_1, hx, he, q_2⟩ := h_
  subst q_1
  subst q_2
  cbv
  refine condI hA (fun h1 => ?_) (fun h1 => ?_)
  · have h1 := zneT hA h1
    cbv
    exact retGI hA rfl [.v (.int .i64 e)] gh (⟨e, lab, rfl, by rw [hne (he ▸ h1)]; exact he, Upd.refl hX.dom _ _, by rw [hne (he ▸ h1)]; exact h, by rw [hne (he ▸ h1)]; exact hk⟩) (by first | exact ⟨rfl, trivial⟩ | exact ⟨rfl, rfl, trivial⟩ | exact ⟨rfl, rfl, rfl, trivial⟩ | trivial)
  · have h1 := zneF hA h1
    have h1' : k.anyE i = 0 := he ▸ h1
    obtain ⟨id, nd, hG⟩ := got_any (i := i) hX.len h1'
    have hx2 : x = .gp id 0 := hx.trans hG.x
    obtain ⟨j, rfl, hj1, hj2⟩ := hG.at_
    subst hx2
    have hsz := hk.sz nd (List.mem_of_getElem? hj2)
    have hsl := seen_len nd
    have hop := gOpM hX.box false 60 (.gp id 0) (NodeQ gh lab p k v false j id nd.sync) (fun _ => by
      obtain ⟨q1, q2⟩ := NodeQ.at0 hX false hj1 hj2
      exact (gSyncN q1 q2 (by omega)).mono fun rs g ⟨r1, lab', u, hN⟩ => ⟨r1, lab', u.weak (fun r e => by rw [e]; exact ⟨rfl, Nat.zero_le _⟩) (fun _ h => h.elim), hN⟩) (NodeQ.box hX hj1 hj2)
    cbv
    refine callGI hA (hop) ?_
    intro rs_ g1 h_
    obtain ⟨e1, q_1, he1, hO⟩ := h_
    subst q_1
    cbv
    obtain ⟨lab', u, hX'⟩ := OpPost.node hX hG.up hj1 hj2 Nd.sync hO
    have hP := hk.sync hj2 false
    exact retGI hA rfl [.v (.int .i64 e1)] g1 (⟨e1, lab', rfl, by rw [heq h1']; exact he1, u.weak (fun _ _ => trivial) (fun _ h => h.elim), by rw [heq h1']; exact ⟨hX'.at, hP.one⟩, by rw [heq h1']; exact hP⟩) (by first | exact ⟨rfl, trivial⟩ | exact ⟨rfl, rfl, trivial⟩ | exact ⟨rfl, rfl, rfl, trivial⟩ | trivial)
end Go.Proofs.Ythioccbgjkbmdaa.AM

/-
  Contracts: Cut, Unlink.
-/
set_option linter.unusedVariables false
set_option linter.unusedSimpArgs false
namespace Go.Proofs.Ythioccbgjkbmdaa.AM
open Go Go.RowKit
set_option maxRecDepth 100000
set_option maxHeartbeats 4000000

theorem gCut1 {gh : GH} {lab : Lab} {i id : Nat} {nd : Nd} (hd : Dom gh lab) (h : NodeAt gh lab i id nd) (n : Nat) (hdir : nd.dir = false) (hn : n ≤ nd.seen.b.length) (hl : nd.loose.length ≤ 1000000000) (m : Int) (hm : m = (n : Nat)) : FnG Try.prog 63 [.ref [.gp id 0], .ref [.int .i64 m]] gh fun rs g => rs = [] ∧ ∃ lab', Upd gh g lab lab' (NdT i) (fun _ => False) ∧ NodeAt g lab' i id (nd.add (.cut n)) := by
  have ha := gAddN hd h (.cut n) ⟨hdir, hn⟩ hl 1 rfl (.clo 64 [.ref [.int .i64 m]]) (by rw [hm]; rfl)
  refine FnG.of' T_ok M_ok [] (fn := Try.f63) (by kernel_rfl) rfl rfl rfl rfl (Nat.le_of_ble_eq_true rfl) fun A hA => ?_
  cbv
  refine callGI hA (ha) ?_
  intro rs_ g h_
  obtain ⟨q_1, hq⟩ := h_
  subst q_1
  cbv
  exact retGI hA rfl [] g ⟨rfl, hq⟩ trivial
def Dk.cutD (k : Dk) (i n : Int) : Dk × Int := if k.ofE i false ≠ 0 then (k, k.ofE i false) else match k.node? i with
  | some nd => if n < 0 ∨ (nd.seen.b.length : Nat) < n then (k, 13) else (k.op true i (·.add (.cut n.toNat)), k.opE)
  | none => (k, 13)
theorem gCut {gh : GH} {lab : Lab} {p : Nat} {k : Dk} {B : Nat} (h : DkIn gh lab p k) (hk : PkOk k B) (hB : B ≤ 1000000000) (i : Int) (hi : I64 i) (n : Int) : FnG Try.prog 32 [.gp p 0, .int .i64 i, .int .i64 n] gh fun rs g => ∃ (e : Int) (lab' : Lab), rs = [.v (.int .i64 e)] ∧ e = (k.cutD i n).2 ∧ Upd gh g lab lab' (fun _ => True) (fun _ => False) ∧ DkIn g lab' p (k.cutD i n).1 ∧ PkOk (k.cutD i n).1 (B + 1) := by
  obtain ⟨v, ids, hX⟩ := h.at_.x
  have hkB : PkOk k (B + 1) := { hk with sz := fun nd q => Nat.le_succ_of_le (hk.sz nd q) }
  have hof := gOfS gh lab p v k ids i false hX.box hX.ns hX.len hX.at_ h.one hi
  have stay : ∀ e, k.cutD i n = (k, e) → ∃ (e' : Int) (lab' : Lab), [Rs.v (.int .i64 e)] = [.v (.int .i64 e')] ∧ e' = (k.cutD i n).2 ∧ Upd gh gh lab lab' (fun _ => True) (fun _ => False) ∧ DkIn gh lab' p (k.cutD i n).1 ∧ PkOk (k.cutD i n).1 (B + 1) := fun e q => ⟨e, lab, rfl, by rw [q], Upd.refl hX.dom _ _, by rw [q]; exact h, by rw [q]; exact hkB⟩
  refine FnG.of' T_ok M_ok [] (fn := Try.f32) (by kernel_rfl) rfl rfl rfl rfl (Nat.le_of_ble_eq_true rfl) fun A hA => ?_
  cbv
  refine callGI hA (hof) ?_
  intro rs_ g_ h_
  obtain ⟨x, e, q_1, hx, he, hnil, q_2⟩ := h_
  subst q_1
  subst q_2
  cbv
  rcases Int.decEq e 0 with h0 | h0
  · have hxn := hnil h0
    have hk0 : k.ofE i false ≠ 0 := he ▸ h0
    subst hxn
    cbv
    refine condI hA (fun h1 => ?_) (fun h1 => ?_)
    · cbv
      exact retGI hA rfl [.v (.int .i64 e)] gh (stay e (by unfold Dk.cutD; rw [if_pos hk0, he])) (by first | exact ⟨rfl, trivial⟩ | exact ⟨rfl, rfl, trivial⟩ | exact ⟨rfl, rfl, rfl, trivial⟩ | trivial)
    · exact absurd (zneF hA h1) h0
  · obtain ⟨id, nd, hG, hdir⟩ := hx h0
    have hx2 := hG.x
    have hk0 : ¬ k.ofE i false ≠ 0 := fun q => q (he ▸ h0)
    have hnode := hG.node
    obtain ⟨j, hij, hj1, hj2⟩ := hG.at_
    have hat := hX.at_ _ _ _ hj1 hj2
    obtain ⟨vb, ve, wb, we, vl, hbox, _, _, _, hwb, _⟩ := hat
    subst hx2
    cbv
    refine condI hA (fun h1 => ?_) (fun h1 => ?_)
    · exact absurd h0 (zneT hA h1)
    · have hE : ∀ (q : n < 0 ∨ (nd.seen.b.length : Nat) < n), k.cutD i n = (k, 13) := fun q => by unfold Dk.cutD; rw [if_neg hk0, hnode]; dsimp only; rw [if_pos q]
      have hF : ∀ (q : ¬ (n < 0 ∨ (nd.seen.b.length : Nat) < n)), k.cutD i n = (k.op true i (·.add (.cut n.toNat)), k.opE) := fun q => by unfold Dk.cutD; rw [if_neg hk0, hnode]; dsimp only; rw [if_neg q]
      have hop : ¬ (n < 0 ∨ (nd.seen.b.length : Nat) < n) → FnG Try.prog 46 [.gp p 0, .bool true, .clo 63 [.ref [.gp id 0], .ref [.int .i64 n]]] gh fun rs g => ∃ (e : Int) (lab' : Lab), rs = [.v (.int .i64 e)] ∧ e = (k.cutD i n).2 ∧ Upd gh g lab lab' (fun _ => True) (fun _ => False) ∧ DkIn g lab' p (k.cutD i n).1 ∧ PkOk (k.cutD i n).1 (B + 1) := fun q => by
        have hle : n.toNat ≤ nd.seen.b.length := by omega
        have hm : n = (n.toNat : Nat) := by omega
        refine (gOp2 hX.box true 63 (.ref [.gp id 0]) (.ref [.int .i64 n]) (NodeQ gh lab p k v true j id (nd.add (.cut n.toNat))) (fun _ => by
          obtain ⟨q1, q2⟩ := NodeQ.at0 hX true hj1 hj2
          exact gCut1 q1 q2 n.toNat hdir hle (Nat.le_trans (lsOk_len (hk.ls nd (List.mem_of_getElem? hj2))) (by have := hk.sz nd (List.mem_of_getElem? hj2); unfold Nd.parts at this; omega)) n hm) (NodeQ.box hX hj1 hj2)).mono fun rs g ⟨e1, r1, he1, hO⟩ => ?_
        obtain ⟨lab', u, hX'⟩ := OpPost.node hX hG.up hj1 hj2 (·.add (.cut n.toNat)) hO
        have hP := hk.add hj2 true (.cut n.toNat) ⟨hdir, hle⟩ (Nat.le_refl _) (fun t j e => nomatch e)
        rw [← hij] at hX' hP
        exact ⟨e1, lab', r1, by rw [hF q]; exact he1, u.weak (fun _ _ => trivial) (fun _ h => h.elim), by rw [hF q]; exact ⟨hX'.at, hP.one⟩, by rw [hF q]; exact hP⟩
      have hlen : ∀ (z : Int), z = (nd.seen.b.length : Nat) → (z < n ↔ (nd.seen.b.length : Nat) < n) := fun z hz => by rw [hz]
      have hno : ¬ n < 0 → ∀ z : Int, z = (nd.seen.b.length : Nat) → ¬ z < n → ¬ (n < 0 ∨ (nd.seen.b.length : Nat) < n) := fun q1 z hz q2 q => by
        rcases q with q | q
        · exact q1 q
        · exact q2 (hz ▸ q)
      have hyes : ∀ z : Int, z = (nd.seen.b.length : Nat) → z < n → (n < 0 ∨ (nd.seen.b.length : Nat) < n) := fun z hz q => .inr (hz ▸ q)
      clear hlen
      have hby := hwb.is
      rcases hwb.open with ⟨rfl, hb0⟩ | ⟨l, rfl, hl⟩ | ⟨bid, m0, l, rfl, hm0, hl, hl2, hg2⟩
      · have hz : (0 : Int) = (nd.seen.b.length : Nat) := by rw [hb0]; rfl
        cbv
        refine chkI hA (by kernel_rfl) ?_
        cbv
        refine condI hA (fun h2 => ?_) (fun h2 => ?_)
        · have h2 := zltT hA h2
          cbv
          exact retGI hA rfl [.v (.int .i64 13)] gh (stay 13 (hE (.inl h2))) (by first | exact ⟨rfl, trivial⟩ | exact ⟨rfl, rfl, trivial⟩ | exact ⟨rfl, rfl, rfl, trivial⟩ | trivial)
        · have h2 := zltF hA h2
          cbv
          refine gldI hA _ (hbox) ?_
          cbv
          refine condI hA (fun h3 => ?_) (fun h3 => ?_)
          · have h3 := zltT hA h3
            cbv
            exact retGI hA rfl [.v (.int .i64 13)] gh (stay 13 (hE (hyes 0 hz h3))) (by first | exact ⟨rfl, trivial⟩ | exact ⟨rfl, rfl, trivial⟩ | exact ⟨rfl, rfl, rfl, trivial⟩ | trivial)
          · have h3 := zltF hA h3
            cbv
            refine callGI hA (hop (hno h2 0 hz h3)) ?_
            intro rs_ g1 h_
            obtain ⟨e1, lab', q_1, r1, r2, r3, r4⟩ := h_
            subst q_1
            cbv
            exact retGI hA rfl [.v (.int .i64 e1)] g1 (⟨e1, lab', rfl, r1, r2, r3, r4⟩) (by first | exact ⟨rfl, trivial⟩ | exact ⟨rfl, rfl, trivial⟩ | exact ⟨rfl, rfl, rfl, trivial⟩ | trivial)
      · obtain ⟨z, hz⟩ : ∃ z : Int, z = (nd.seen.b.length : Nat) := ⟨_, rfl⟩
        have hzl : z = (l.length : Nat) := by rw [hz, hl, bytesV_len]
        cbv
        refine chkI hA (by kernel_rfl) ?_
        cbv
        refine condI hA (fun h2 => ?_) (fun h2 => ?_)
        · have h2 := zltT hA h2
          cbv
          exact retGI hA rfl [.v (.int .i64 13)] gh (stay 13 (hE (.inl h2))) (by first | exact ⟨rfl, trivial⟩ | exact ⟨rfl, rfl, trivial⟩ | exact ⟨rfl, rfl, rfl, trivial⟩ | trivial)
        · have h2 := zltF hA h2
          cbv
          refine gldI hA _ (hbox) ?_
          cbv
          refine glnSN hA (.inr (.inl rfl)) hzl ?_
          cbv
          refine condI hA (fun h3 => ?_) (fun h3 => ?_)
          · have h3 := zltT hA h3
            cbv
            exact retGI hA rfl [.v (.int .i64 13)] gh (stay 13 (hE (hyes z hz h3))) (by first | exact ⟨rfl, trivial⟩ | exact ⟨rfl, rfl, trivial⟩ | exact ⟨rfl, rfl, rfl, trivial⟩ | trivial)
          · have h3 := zltF hA h3
            cbv
            refine callGI hA (hop (hno h2 z hz h3)) ?_
            intro rs_ g1 h_
            obtain ⟨e1, lab', q_1, r1, r2, r3, r4⟩ := h_
            subst q_1
            cbv
            exact retGI hA rfl [.v (.int .i64 e1)] g1 (⟨e1, lab', rfl, r1, r2, r3, r4⟩) (by first | exact ⟨rfl, trivial⟩ | exact ⟨rfl, rfl, trivial⟩ | exact ⟨rfl, rfl, rfl, trivial⟩ | trivial)
      · cbv
        refine chkI hA (by kernel_rfl) ?_
        cbv
        refine condI hA (fun h2 => ?_) (fun h2 => ?_)
        · have h2 := zltT hA h2
          cbv
          exact retGI hA rfl [.v (.int .i64 13)] gh (stay 13 (hE (.inl h2))) (by first | exact ⟨rfl, trivial⟩ | exact ⟨rfl, rfl, trivial⟩ | exact ⟨rfl, rfl, rfl, trivial⟩ | trivial)
        · have h2 := zltF hA h2
          cbv
          refine gldI hA _ (hbox) ?_
          cbv
          refine glenI hA ?_
          cbv
          refine condI hA (fun h3 => ?_) (fun h3 => ?_)
          · have h3 := zltT hA h3
            cbv
            exact retGI hA rfl [.v (.int .i64 13)] gh (stay 13 (hE (hyes m0 hm0 h3))) (by first | exact ⟨rfl, trivial⟩ | exact ⟨rfl, rfl, trivial⟩ | exact ⟨rfl, rfl, rfl, trivial⟩ | trivial)
          · have h3 := zltF hA h3
            cbv
            refine callGI hA (hop (hno h2 m0 hm0 h3)) ?_
            intro rs_ g1 h_
            obtain ⟨e1, lab', q_1, r1, r2, r3, r4⟩ := h_
            subst q_1
            cbv
            exact retGI hA rfl [.v (.int .i64 e1)] g1 (⟨e1, lab', rfl, r1, r2, r3, r4⟩) (by first | exact ⟨rfl, trivial⟩ | exact ⟨rfl, rfl, trivial⟩ | exact ⟨rfl, rfl, rfl, trivial⟩ | trivial)
end Go.Proofs.Ythioccbgjkbmdaa.AM

/-
  Contracts: Unlink.
-/
set_option linter.unusedVariables false
set_option linter.unusedSimpArgs false
namespace Go.Proofs.Ythioccbgjkbmdaa.AM
open Go Go.RowKit
set_option maxRecDepth 100000
set_option maxHeartbeats 4000000

theorem gUnl1 {gh : GH} {lab : Lab} {p : Nat} {k : Dk} {v : V} {ids : List Nat} (h : DkX gh lab p k v ids) {j id : Nat} {nd : Nd} (hj1 : ids[j]? = some id) (hj2 : k.nodes[j]? = some nd) (hdir : nd.dir = true) (hl : nd.loose.length ≤ 1000000000) (i : Int) (hi : i = (j : Int) + 1) (hn : k.nodes.length ≤ 1000000000) (s : Bs) : FnG Try.prog 79 [.ref [.gp p 0], .ref [.int .i64 i], .ref [.str s]] gh fun rs g => rs = [] ∧ ∃ lab', Upd gh g lab lab' (NdT j) (fun _ => False) ∧ NodeAt g lab' j id (nd.add (.unl s)) := by
  have ha := gAddN h.dom (h.at_ j id nd hj1 hj2) (.unl s) hdir hl 1 rfl (.clo 80 [.ref [.str s]]) rfl
  have hv : ∃ nid n, v = .gs nid n ∧ n = (ids.length : Nat) ∧ gh.get nid = some (.arow 1 (ids.map fun i => V.gp i 0)) := by
    rcases h.ns with ⟨_, h2⟩ | ⟨nid, h1, h2, h3⟩
    · rw [h2] at hj1; simp at hj1
    · exact ⟨nid, _, h1, rfl, h3⟩
  obtain ⟨nid, n, rfl, hnn, hng⟩ := hv
  have hbox := h.box
  have hjl := (List.getElem?_eq_some_iff.1 hj1).1
  have f1 : w64 (i - 1) = (j : Nat) := by rw [hi, w64_id (by rw [h.len] at hjl; omega)]; omega
  have f2 : (0 : Int) ≤ (j : Nat) ∧ ((j : Nat) : Int) < n := by omega
  have f3 : (ids.map fun i => V.gp i 0)[((j : Nat) : Int).toNat]? = some (.gp id 0) := by rw [Int.toNat_natCast, List.getElem?_map, hj1]; rfl
  obtain ⟨z, hz⟩ : ∃ z : Int, z = (j : Nat) := ⟨_, rfl⟩
  rw [← hz] at f1 f2 f3
  refine FnG.of' T_ok M_ok [] (fn := Try.f79) (by kernel_rfl) rfl rfl rfl rfl (Nat.le_of_ble_eq_true rfl) fun A hA => ?_
  cbv
  refine chkI hA (by kernel_rfl) ?_
  cbv
  refine gldI hA _ (hbox) ?_
  cbv
  refine gixN hA ((zsub hA i 1).trans f1) f2 ?_
  cbv
  refine gldRN hA (y := .gp id 0) ((zsub hA i 1).trans f1) _ (.inr (.inr hng)) f3 ?_
  cbv
  refine callGI hA (ha) ?_
  intro rs_ g h_
  obtain ⟨q_1, hq⟩ := h_
  subst q_1
  cbv
  exact retGI hA rfl [] g ⟨rfl, hq⟩ trivial
def Dk.unlD (k : Dk) (i : Int) (s : Bs) : Dk × Int := if (k.findE i s).2 ≠ 0 then (k, (k.findE i s).2) else match k.node? (k.findE i s).1 with
  | some nd => if nd.dir then (k, 10) else (k.op true i (·.add (.unl s)), k.opE)
  | none => (k, 10)
theorem enGet_mem {l : List (Bs × Nat)} {s : Bs} {i : Nat} (h : enGet l s = some i) : ∃ e ∈ l, e.2 = i := by
  unfold enGet at h
  cases hf : l.find? (fun e => e.1 == s) with
  | none => rw [hf] at h; cases h
  | some e => rw [hf] at h; cases h; exact ⟨e, List.mem_of_find?_eq_some hf, rfl⟩
theorem ofE_ok {k : Dk} {i : Int} {dir : Bool} (h : k.ofE i dir = 0) : k.down = false ∧ ∃ (j : Nat) (nd : Nd), i = (j : Int) + 1 ∧ k.nodes[j]? = some nd ∧ nd.dir = dir ∧ k.node? i = some nd := by
  unfold Dk.ofE at h
  cases hd : k.down with
  | true => rw [hd] at h; cases h
  | false =>
    rw [hd, if_neg (by simp)] at h
    split at h
    · rename_i nd hn
      have hn2 := hn
      unfold Dk.node? at hn2
      split at hn2
      · split at h
        · rename_i q1 q2
          exact ⟨rfl, (i - 1).toNat, nd, by omega, hn2, q2, hn⟩
        · cases h
      · cases hn2
    · cases h
theorem findE_ok {k : Dk} {B : Nat} (hk : PkOk k B) {i : Int} {s : Bs} (h : (k.findE i s).2 = 0) : k.down = false ∧ ∃ (j0 j1 : Nat) (n0 n1 : Nd), i = (j0 : Int) + 1 ∧ k.nodes[j0]? = some n0 ∧ n0.dir = true ∧ (k.findE i s).1 = (j1 : Int) + 1 ∧ k.nodes[j1]? = some n1 ∧ k.node? (k.findE i s).1 = some n1 := by
  unfold Dk.findE at *
  split at h
  · rename_i q; exact absurd h q
  · rename_i q
    obtain ⟨hd, j0, n0, h1, h2, h3, h4⟩ := ofE_ok (Decidable.not_not.1 q)
    rw [if_neg q]
    rw [h4] at h ⊢
    dsimp only at h ⊢
    split at h
    · rename_i v hv
      obtain ⟨e, he, hev⟩ := enGet_mem hv
      obtain ⟨b1, b2⟩ := hk.seen_en h2 e he
      obtain ⟨n1, hn1⟩ : ∃ n1, k.nodes[v - 1]? = some n1 := ⟨_, List.getElem?_eq_getElem (by omega)⟩
      refine ⟨hd, j0, v - 1, n0, n1, h1, h2, h3, by dsimp only; omega, hn1, ?_⟩
      have := node_at hn1
      rw [show ((v - 1 : Nat) : Int) + 1 = (v : Int) by omega] at this
      exact this
    · cases h
theorem gUnl {gh : GH} {lab : Lab} {p : Nat} {k : Dk} {B : Nat} (h : DkIn gh lab p k) (hk : PkOk k B) (hB : B ≤ 1000000000) (i : Int) (hi : I64 i) (s : Bs) : FnG Try.prog 53 [.gp p 0, .int .i64 i, .str s] gh fun rs g => ∃ (e : Int) (lab' : Lab), rs = [.v (.int .i64 e)] ∧ e = (k.unlD i s).2 ∧ Upd gh g lab lab' (fun _ => True) (fun _ => False) ∧ DkIn g lab' p (k.unlD i s).1 ∧ PkOk (k.unlD i s).1 (B + 1) := by
  obtain ⟨v, ids, hX⟩ := h.at_.x
  have hkB : PkOk k (B + 1) := { hk with sz := fun nd q => Nat.le_succ_of_le (hk.sz nd q) }
  have hfi := gFind h i hi s
  have stay : ∀ e, k.unlD i s = (k, e) → ∃ (e' : Int) (lab' : Lab), [Rs.v (.int .i64 e)] = [.v (.int .i64 e')] ∧ e' = (k.unlD i s).2 ∧ Upd gh gh lab lab' (fun _ => True) (fun _ => False) ∧ DkIn gh lab' p (k.unlD i s).1 ∧ PkOk (k.unlD i s).1 (B + 1) := fun e q => ⟨e, lab, rfl, by rw [q], Upd.refl hX.dom _ _, by rw [q]; exact h, by rw [q]; exact hkB⟩
  refine FnG.of' T_ok M_ok [] (fn := Try.f53) (by kernel_rfl) rfl rfl rfl rfl (Nat.le_of_ble_eq_true rfl) fun A hA => ?_
  cbv
  refine callGI hA (hfi) ?_
  intro rs_ g_ h_
  obtain ⟨x, e, q_1, hx, he, q_2⟩ := h_
  subst q_1
  subst q_2
  cbv
  refine condI hA (fun h1 => ?_) (fun h1 => ?_)
  · have h1 := zneT hA h1
    have hk0 : (k.findE i s).2 ≠ 0 := he ▸ h1
    cbv
    exact retGI hA rfl [.v (.int .i64 e)] gh (stay e (by unfold Dk.unlD; rw [if_pos hk0, he])) (by first | exact ⟨rfl, trivial⟩ | exact ⟨rfl, rfl, trivial⟩ | exact ⟨rfl, rfl, rfl, trivial⟩ | trivial)
  · have h1 := zneF hA h1
    have hk0 : (k.findE i s).2 = 0 := he ▸ h1
    obtain ⟨hup, j0, j1, n0, n1, r1, r2, r3, r4, r5, r6⟩ := findE_ok hk hk0
    have hml := hk.most
    have hv : ∃ nid n, v = .gs nid n ∧ n = (ids.length : Nat) ∧ gh.get nid = some (.arow 1 (ids.map fun i => V.gp i 0)) := by
      rcases hX.ns with ⟨_, h2⟩ | ⟨nid, h1, h2, h3⟩
      · have := hk.one; rw [← hX.len, h2] at this; exact absurd this (by decide)
      · exact ⟨nid, _, h1, rfl, h3⟩
    obtain ⟨nid, n, rfl, hnn, hng⟩ := hv
    have hbox := hX.box
    have hl1 := (List.getElem?_eq_some_iff.1 r5).1
    have hl0 := (List.getElem?_eq_some_iff.1 r2).1
    have hidl := hX.len
    obtain ⟨id0, hid0⟩ : ∃ id, ids[j0]? = some id := ⟨_, List.getElem?_eq_getElem (by omega)⟩
    obtain ⟨id1, hid1⟩ : ∃ id, ids[j1]? = some id := ⟨_, List.getElem?_eq_getElem (by omega)⟩
    have f1 : w64 (x - 1) = (j1 : Nat) := by rw [hx, r4, w64_id (by omega)]; omega
    have f2 : (0 : Int) ≤ (j1 : Nat) ∧ ((j1 : Nat) : Int) < n := by omega
    have f3 : (ids.map fun i => V.gp i 0)[((j1 : Nat) : Int).toNat]? = some (.gp id1 0) := by rw [Int.toNat_natCast, List.getElem?_map, hid1]; rfl
    obtain ⟨z, hz⟩ : ∃ z : Int, z = (j1 : Nat) := ⟨_, rfl⟩
    rw [← hz] at f1 f2 f3
    obtain ⟨vb, ve, wb, we, vl, hb1, _⟩ := hX.at_ _ _ _ hid1 r5
    obtain ⟨d1, hd1⟩ : ∃ d, d = n1.dir := ⟨_, rfl⟩
    rw [← hd1] at hb1
    have hop : d1 = false → FnG Try.prog 46 [.gp p 0, .bool true, .clo 79 [.ref [.gp p 0], .ref [.int .i64 i], .ref [.str s]]] gh fun rs g => ∃ (e : Int) (lab' : Lab), rs = [.v (.int .i64 e)] ∧ e = (k.unlD i s).2 ∧ Upd gh g lab lab' (fun _ => True) (fun _ => False) ∧ DkIn g lab' p (k.unlD i s).1 ∧ PkOk (k.unlD i s).1 (B + 1) := fun q => by
      have hF : k.unlD i s = (k.op true i (·.add (.unl s)), k.opE) := by unfold Dk.unlD; rw [if_neg (fun f => f hk0), r6]; dsimp only; rw [← hd1, q]; rfl
      refine (gOp3 hX.box true 79 (.ref [.gp p 0]) (.ref [.int .i64 i]) (.ref [.str s]) (NodeQ gh lab p k (.gs nid n) true j0 id0 (n0.add (.unl s))) (fun _ => by
        have q0 := (hX.cells (k' := k.tick0 true) rfl rfl).1
        exact gUnl1 q0 hid0 r2 r3 (Nat.le_trans (lsOk_len (hk.ls n0 (List.mem_of_getElem? r2))) (by have := hk.sz n0 (List.mem_of_getElem? r2); unfold Nd.parts at this; omega)) i r1 (Nat.le_trans hml (by decide)) s) (NodeQ.box hX hid0 r2)).mono fun rs g ⟨e1, q1, he1, hO⟩ => ?_
      obtain ⟨lab', u, hX'⟩ := OpPost.node hX hup hid0 r2 (·.add (.unl s)) hO
      have hP := hk.add r2 true (.unl s) r3 (Nat.le_refl _) (fun t j e => nomatch e)
      rw [← r1] at hX' hP
      exact ⟨e1, lab', q1, by rw [hF]; exact he1, u.weak (fun _ _ => trivial) (fun _ h => h.elim), by rw [hF]; exact ⟨hX'.at, hP.one⟩, by rw [hF]; exact hP⟩
    have hE : d1 = true → k.unlD i s = (k, 10) := fun q => by unfold Dk.unlD; rw [if_neg (fun f => f hk0), r6]; dsimp only; rw [← hd1, q]; rfl
    cbv
    refine gldI hA _ (hbox) ?_
    cbv
    refine gixN hA ((zsub hA x 1).trans f1) f2 ?_
    cbv
    refine gldRN hA (y := .gp id1 0) ((zsub hA x 1).trans f1) _ (.inr (.inr hng)) f3 ?_
    cbv
    refine gldI hA _ (hb1) ?_
    cbv
    refine condI hA (fun h2 => ?_) (fun h2 => ?_)
    · cbv
      exact retGI hA rfl [.v (.int .i64 10)] gh (stay 10 (hE h2)) (by first | exact ⟨rfl, trivial⟩ | exact ⟨rfl, rfl, trivial⟩ | exact ⟨rfl, rfl, rfl, trivial⟩ | trivial)
    · cbv
      refine callGI hA (hop h2) ?_
      intro rs_ g1 h_
      obtain ⟨e1, lab', q_1, q1, q2, q3, q4⟩ := h_
      subst q_1
      cbv
      exact retGI hA rfl [.v (.int .i64 e1)] g1 (⟨e1, lab', rfl, q1, q2, q3, q4⟩) (by first | exact ⟨rfl, trivial⟩ | exact ⟨rfl, rfl, trivial⟩ | exact ⟨rfl, rfl, rfl, trivial⟩ | trivial)
end Go.Proofs.Ythioccbgjkbmdaa.AM

/-
  Contracts: a node that is made.
-/
set_option linter.unusedVariables false
set_option linter.unusedSimpArgs false
namespace Go.Proofs.Ythioccbgjkbmdaa.AM
open Go Go.RowKit
set_option maxRecDepth 100000
set_option maxHeartbeats 4000000

theorem cLink (s : Bs) (v : Int) : CallR Try.prog 78 [.str s, .int .i64 v] fun rs => ∃ x, rs = [.v x] ∧ x = .agg [.int .i64 1, .clo 92 [.ref [.int .i64 v], .ref [.str s]]] := by
  obtain ⟨x, hx⟩ : ∃ x, x = V.agg [.int .i64 1, .clo 92 [.ref [.int .i64 v], .ref [.str s]]] := ⟨_, rfl⟩
  refine .of [.v x] ⟨x, rfl, hx⟩ ?_
  refine FnR.of' T_ok M_ok (fn := Try.f78) (by kernel_rfl) rfl rfl rfl rfl (Nat.le_of_ble_eq_true rfl) fun A hA => ?_
  cbv
  refine retI hA ?_
  exact ⟨congrArg some hx.symm, trivial⟩
/-- Where nothing of the disk is touched. -/
theorem DkX.upd {gh g : GH} {lab lab' : Lab} {X : Nat → Prop} {p : Nat} {k : Dk} {v : V} {ids : List Nat} (h : DkX gh lab p k v ids) (u : Upd gh g lab lab' (fun _ => False) X) (hX : ∀ x, X x → lab x = none) : DkX g lab' p k v ids := by
  have hX' : ∀ (x : Nat) (r : Nat × Nat), X x → lab x ≠ some r := fun x r q e => by rw [hX x q] at e; cases e
  obtain ⟨q1, q2⟩ := upd_id h.dom u h.lp (fun h => h) (fun q => hX' _ _ q h.lp) h.box
  exact ⟨u.dom, q1, q2, h.ns.upd h.dom u (fun h => h) (fun x q => hX' x _ q), h.len, fun i id nd k1 k2 => (h.at_ i id nd k1 k2).upd h.dom u (fun _ _ h => h) (fun x q j => hX' x _ q)⟩
/-- A disk's new node, with an entry that leads to it. -/
def Dk.mk1 (k : Dk) (j : Nat) (nd : Nd) (s : Bs) (dir : Bool) : Dk := { k with nodes := (k.nodes ++ [nd0 dir]).set j (nd.add (.link s (k.nodes.length + 1))) }
theorem gMk1 {gh : GH} {lab : Lab} {p : Nat} {k : Dk} {v : V} {ids : List Nat} (h : DkX gh lab p k v ids) {j id : Nat} {nd : Nd} (hj1 : ids[j]? = some id) (hj2 : k.nodes[j]? = some nd) (hdir : nd.dir = true) (hl : nd.loose.length ≤ 1000000000) (hn : k.nodes.length ≤ 1000000000) (s : Bs) (d : Bool) (iv : Nat) (hiv : gh.get iv = some (.box [.int .i64 0])) (hlv : lab iv = none) (hivn : iv < gh.next) : FnG Try.prog 77 [.ref [.gp p 0], .ref [.bool d], .gp iv 0, .ref [.gp id 0], .ref [.str s]] gh fun rs g => rs = [] ∧ ∃ lab' v' ids', Upd gh g lab lab' (fun _ => True) (fun x => x = iv) ∧ DkX g lab' p (k.mk1 j nd s d) v' ids' ∧ g.get iv = some (.box [.int .i64 ((k.nodes.length + 1 : Nat) : Int)]) := by
  have hf := gFresh h d hn
  refine FnG.of' T_ok M_ok [] (fn := Try.f77) (by kernel_rfl) rfl rfl rfl rfl (Nat.le_of_ble_eq_true rfl) fun A hA => ?_
  cbv
  refine callGI hA (hf) ?_
  intro rs_ g1 h_
  obtain ⟨m, lab1, v1, ids1, q_1, hm, u1, hX1, hids⟩ := h_
  subst q_1
  cbv
  have hiv1 : g1.get iv = some (.box [.int .i64 0]) := (u1.get iv hivn (fun h => h) (fun r e => by rw [hlv] at e; cases e)).trans hiv
  have hlv1 : lab1 iv = none := (u1.old iv hivn).trans hlv
  have hivn1 : iv < g1.next := Nat.lt_of_lt_of_le hivn u1.next
  refine gstI hA _ hiv1 ?_
  intro g2 hg2
  have hg2 : g2 = g1.set iv (.box [.int .i64 m]) := hg2
  have u2 : Upd g1 g2 lab1 lab1 (fun _ => False) (fun x => x = iv) := Upd.mk0 hX1.dom (by rw [hg2]; exact Nat.le_refl _) (fun x _ hx _ => by rw [hg2]; simp only [GH.set_get]; rw [if_neg hx])
  have hX2 := hX1.upd u2 (fun x e => by rw [e]; exact hlv1)
  have hiv2 : g2.get iv = some (.box [.int .i64 m]) := by rw [hg2]; simp
  have hj2' : (k.nodes ++ [nd0 d])[j]? = some nd := by rw [List.getElem?_append_left (List.getElem?_eq_some_iff.1 hj2).1]; exact hj2
  have ha := gAddN hX2.dom (hX2.at_ j id nd (hids j id hj1) hj2') (.link s (k.nodes.length + 1)) hdir hl 1 rfl (.clo 92 [.ref [.int .i64 m], .ref [.str s]]) (by rw [hm]; rfl)
  cbv
  refine chkI hA (by kernel_rfl) ?_
  cbv
  refine gldI hA _ (hiv2) ?_
  cbv
  refine callI hA (cLink s m) ?_
  intro rs_ h_
  obtain ⟨x, q_1, hx⟩ := h_
  subst q_1
  cbv
  subst hx
  cbv
  refine callGI hA (ha) ?_
  intro rs_ g3 h_
  obtain ⟨q_1, lab3, u3, hN⟩ := h_
  subst q_1
  cbv
  have hX3 := hX2.node (hids j id hj1) hj2' u3 hN
  have hiv3 : g3.get iv = some (.box [.int .i64 m]) := (u3.get iv (by rw [hg2]; exact hivn1) (fun h => h) (fun r e => by rw [hlv1] at e; cases e)).trans hiv2
  exact retGI hA rfl [] g3 ⟨rfl, lab3, v1, ids1, ((u1.weak (fun _ _ => trivial) (fun _ h => h.elim)).trans (u2.weak (fun _ _ => trivial) (fun x e => .inl e))).trans (u3.weak (fun _ _ => trivial) (fun _ h => h.elim)), hX3, by rw [hiv3, hm]⟩ trivial
end Go.Proofs.Ythioccbgjkbmdaa.AM
