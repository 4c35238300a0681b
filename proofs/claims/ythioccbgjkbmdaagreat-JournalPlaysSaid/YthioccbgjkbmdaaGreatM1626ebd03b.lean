/-
 The common heap: more rules for proofs with a variable 'A'.
-/
import Derived.Test.YthioccbgjkbmdaaGreatM153f9e4031
import Derived.Test.YthioccbgjkbmdaaGreatM135e2507fb
set_option linter.unusedVariables false
set_option linter.unusedSimpArgs false
set_option linter.unusedSectionVars false
set_option maxRecDepth 100000
set_option maxHeartbeats 4000000
namespace Go.Proofs.YthioccbgjkbmdaaGreat.AM
open Go Go.RowKit
open Go.ChangeMaps (setBlock)
section
variable {P : Program} (hT : tableOf P = T)
include hT
theorem gop_appendX {o : Oper} {c : Call} (ho : o.op = .call c) (hcb : c.callee = .builtin .append) {t t2 e : Nat} (hat : c.argTypes = #[t, t2]) {s x : Operand} (has : c.args = #[s, x]) {gh : GH} {v : V} {l l2 : List V} (hkt : (tyOf t).k = .slice e) (hkn : known (tyOf e).k = true) (hz0 : 0 < (tyOf e).size) (hzl : ∀ x ∈ l, x.flat.length = (tyOf e).size)
  (hst : isSrcV (tyOf t2).k v = true) (hsrc : SrcIs gh (tyOf e).size v l2) (hne : l2 ≠ []) (hroom : (l.length + l2.length) * (tyOf e).bytes ≤ 140737488355328) (hb0 : 0 < (tyOf e).bytes) : GOp P o [.xs l, v] gh (One (.gs gh.next (l ++ l2).length) (gh.new (.arow (tyOf e).size (l ++ l2)))) := by
 refine GOp.of_run fun ok w a gl hokb hx => ?_
 rw [ho] at hx
 have hs := hx.get 0 rfl (y := s) (by simp [Op.operands, Call.operands, hcb, has])
 have hv := hx.get 1 rfl (y := x) (by simp [Op.operands, Call.operands, hcb, has])
 obtain ⟨news, hsrc', hnews⟩ := srcIs_sound hT hst hz0 hsrc gl hv
 obtain ⟨i, zv, hi, hz, hsz, hby, _, _, _, hzs⟩ := ty_info hT (t := e) (known_ne' hkn)
 have hnm : l.length + l2.length ≤ 140737488355328 := Nat.le_trans (Nat.le_mul_of_pos_right _ hb0) hroom
 have hpos : 0 < l2.length := List.length_pos_iff.2 hne
 cases hs with
 | xs _ u ad hu hr =>
 obtain ⟨ad', cp, z, us, hu', hc, hm, ha, hzz, hcell, hrr⟩ := rep_sl hr
 rw [hu] at hu'
 cases hu'
 have olds : ∃ olds : List Value, News ok w (tyOf e).size l olds ∧ (Builtin.firstCells i.size l.length (.slice ad l.length l.length)).run P w.drew = .ok olds.toArray w.drew := by
  by_cases h0 : l = []
  ·subst h0
   refine ⟨[], ⟨by simp, by simp, by simp⟩, ?_⟩
   cases ad with
   | none => exact run_firstCells_none _ _ _ _ _
   | some q => exact run_firstCells_some _ _ _ _ _ _ _ (by simp) (fun j u hu => by simp at hu)
  ·have hp : 0 < l.length := List.length_pos_iff.2 h0
   obtain ⟨b, off, rfl, hx⟩ := ha hp
   have hz1 : z = (tyOf e).size := by
    rw [← hzz 0 hp]; exact hzl _ (List.getElem_mem _)
   subst hz1
   have hrow : RowAt ok w b off (tyOf e).size l := ⟨hzz, hcell, fun i hi j hj => ⟨us i j, (hx i j hi (by rw [← hzz i hi]; exact hj)).2, hrr i hi j hj⟩⟩
   obtain ⟨olds, o1, o2, _⟩ := hrow.news
   refine ⟨olds, o1, ?_⟩
   rw [hsz]
   exact run_firstCells_some _ _ _ _ _ _ _ o1.1 (fun j u hu => by rw [add_plain]; exact o2 j u hu)
 obtain ⟨olds, o1, o2⟩ := olds
 have hrun := run_append_grow_src (P := P) w t t2 o.type e i zv (ty_slice hT hkt) hi hz ad l.length l.length olds o2 (a.eval x) l2.length news (by rw [hsz]; exact hsrc') (by omega) (by omega) (growslice_fits (by omega) (by rw [hby]; exact hroom))
 have c1 := grownCap_ge w (l.length + l2.length) l.length e
 have c2 := grownCap_le_maxLen w (l.length + l2.length) l.length e (by simp [maxLen]; omega)
 generalize grownCap w (l.length + l2.length) l.length e = q at hrun c1 c2
 rw [← List.length_append] at hrun c1
 exact pack_toA (gl_grown hT gl hokb (o1.append hnews) hzs hsz hrun c1 c2 fun hr => .inl (exec_append hT ho hcb hat has hu hr))
end
def SlApp (gh : GH) (z : Nat) (l : List V) (y : V) : Prop := (y = .nils ∧ l = []) ∨ y = .xs l ∨ ∃ id, y = .gs id (l.length : Int) ∧ gh.get id = some (.arow z l)
theorem SlApp.is {gh : GH} {z : Nat} {l : List V} {y : V} (h : SlApp gh z l y) : SlIs gh z l y := by
 rcases h with h | h | h
 ·exact .inl h
 ·exact .inr (.inl h)
 ·exact .inr (.inr (.inr h))
section
variable {A : Prim} {R : List (Nat × AObj) → List D → Prop} (hA : A = std Tryz.prog R)
include hA
theorem gappSI {o : Oper} {c : Call} {t t2 e z bt : Nat} {s x : Operand} {gh : GH} {y v : V} {K : V → GH → Prop} (l l2 : List V) (hy : SlApp gh z l y) (hsrc : SrcIs gh z v l2) (hne : l2 ≠ []) (hzl : ∀ x ∈ l, x.flat.length = z) (hroom : (l.length + l2.length) * bt ≤ 140737488355328)
  (hK : ∀ (g' : GH) (m : Int), g'.next = gh.next + 1 → g'.get gh.next = some (.arow z (l ++ l2)) → (∀ j, j < gh.next → (∀ n, y ≠ .gs j n) → g'.get j = gh.get j) → m = ((l ++ l2).length : Nat) → K (.gs gh.next m) g')
  (ho : o.op = .call c := by rfl) (hcb : c.callee = .builtin .append := by rfl) (hat : c.argTypes = #[t, t2] := by rfl) (has : c.args = #[s, x] := by rfl) (hkt : (tyOf t).k = .slice e := by rfl) (hkn : known (tyOf e).k = true := by rfl) (hz : (tyOf e).size = z := by rfl) (hbt : (tyOf e).bytes = bt := by rfl) (hz0 : 0 < z := by decide)
  (hst : isSrcV (tyOf t2).k v = true := by rfl) (hb0 : 0 < bt := by decide) : A.gop o [y, v] gh K := by
 subst hz hbt
 rcases hy with ⟨rfl, rfl⟩ | rfl | ⟨id, rfl, hg⟩
 ·have h := (gop_append0 T_ok ho hcb hat has hkt hkn hz0 hst hsrc (by simpa using hroom) hb0).toA (id := gh.next) (z := (tyOf e).size) (l := l2) (by simp)
  rw [new_toA] at h
  exact gop1 hA h fun g' hg' => hK g' _ (by rw [hg']; rfl) (by rw [hg']; simp) (fun j hj _ => by rw [hg']; simp [Nat.ne_of_lt hj]) (by simp)
 ·exact gop1 hA (gop_appendX T_ok ho hcb hat has hkt hkn hz0 hzl hst hsrc hne hroom hb0) fun g' hg' => hK g' _ (by rw [hg']; rfl) (by rw [hg']; simp) (fun j hj _ => by rw [hg']; simp [Nat.ne_of_lt hj]) rfl
 ·exact gop1 hA (gop_appendA T_ok ho hcb hat has hkt hkn hz0 hg rfl hst hsrc hroom hb0) fun g' hg' => hK g' _ (by rw [hg']; rfl) (by rw [hg']; simp) (fun j hj hne2 => by
   have : j ≠ id := fun e => by subst e; exact hne2 _ rfl
   rw [hg']; simp [Nat.ne_of_lt hj, this]) rfl
theorem glookI {t kt et : Nat} {m x : Operand} {gh : GH} {id clock : Nat} {es : List (Nat × V × V)} {k : List UInt8} {z : V} {K : V → Prop} (hg : gh.get id = some (.map es clock)) (hs : StrKeys es) (hK : K (match mIdx es k with
   | some j => .tup [(es[j]?.map (·.2.2)).getD z, .bool true]
   | none => .tup [z, .bool false])) (hm : Tryz.prog.underlying t = some (.map kt et)) (hkt : Tryz.prog.underlying kt = some .string) (hz : ∃ zv, (∀ w, (zeroValue et).run Tryz.prog w = .ok zv w) ∧ ∀ ok w, Rep ok w z zv) : A.gq (.lookup t m x true) [.gm id, .str k] gh K :=
 gqI hA _ (gq_lookup T_ok hm hkt hg hs hz) hK
theorem gmakeI {o : Oper} {t : Nat} {gh : GH} {K : V → GH → Prop} (hK : ∀ g', g' = gh.new (.map [] 0) → K (.gm gh.next) g') (ho : o.op = .makeMap t none := by rfl) : A.gop o [] gh K := gop1 hA (gop_makeMap T_ok ho) hK
theorem gmapI {o : Oper} {t kt et : Nat} {m x y : Operand} {gh : GH} {id clock : Nat} {es : List (Nat × V × V)} {k : List UInt8} {v : V} {K : V → GH → Prop} (hg : gh.get id = some (.map es clock)) (hs : StrKeys es) (hK : ∀ g', g' = gh.set id (.map (mSet es clock k v) (mClk es clock k)) → K (.tup []) g') (hm : Tryz.prog.underlying t = some (.map kt et)) (hkt : Tryz.prog.underlying kt = some .string) (ho : o.op = .mapUpdate t m x y := by rfl) : A.gop o [.gm id, .str k, v] gh K :=
 gop1 hA (gop_mapUpdate T_ok ho hm hkt hg hs) hK
theorem gdelI {o : Oper} {c : Call} {t kt et t2 : Nat} {m x : Operand} {gh : GH} {id clock : Nat} {es : List (Nat × V × V)} {k : List UInt8} {K : V → GH → Prop} (hg : gh.get id = some (.map es clock)) (hs : StrKeys es) (hK : ∀ g', g' = gh.set id (.map (mDel es k) clock) → K (.tup []) g') (hm : Tryz.prog.underlying t = some (.map kt et)) (hkt : Tryz.prog.underlying kt = some .string) (ho : o.op = .call c := by rfl) (hc : c.callee = .builtin .delete := by rfl) (ha : c.args = #[m, x] := by rfl) (hat : c.argTypes = #[t, t2] := by rfl) : A.gop o [.gm id, .str k] gh K :=
 gop1 hA (gop_delete T_ok ho hc ha hat hm hkt hg hs) hK
theorem grngI {o : Oper} {t kt et : Nat} {x : Operand} {gh : GH} {id clock : Nat} {es : List (Nat × V × V)} {K : V → GH → Prop} (hg : gh.get id = some (.map es clock)) (hK : ∀ g', g' = gh.new (.mit (some id) clock [] clock) → K (.gp gh.next 0) g') (hm : Tryz.prog.underlying t = some (.map kt et)) (ho : o.op = .range t x := by rfl) : A.gop o [.gm id] gh K := gop1 hA (gop_range T_ok ho hm hg) hK
theorem gnxtI {o : Oper} {x : Operand} {gh : GH} {it id since st clock : Nat} {seen : List Nat} {es : List (Nat × V × V)} {K : V → GH → Prop} (hi : gh.get it = some (.mit (some id) since seen st)) (hg : gh.get id = some (.map es clock)) (hold : ∀ e ∈ es, e.1 < since) (hst : since ≤ st) (hK : ∀ r gh', NextR gh it id since seen es clock r gh' → K r gh') (ho : o.op = .next x false := by rfl) : A.gopN o [.gp it 0] gh K :=
 gopNI hA _ (gop_next T_ok ho hi hg hold hst) hK
theorem gentI {x : Operand} {gh : GH} {it id since clock : Nat} {seen : List Nat} {es : List (Nat × V × V)} {e : Nat × V × V} {K : V → Prop} (hi : gh.get it = some (.mit (some id) since (seen ++ [e.1]) clock)) (hg : gh.get id = some (.map es clock)) (he : e ∈ es) (hnd : (es.map (·.1)).Nodup) (hK : K (.tup [e.2.1, e.2.2])) : A.gq (.entry x) [.gp it 0] gh K :=
 gqI hA _ (gq_entry T_ok hi hg he hnd) hK
theorem gsl3I {t e : Nat} {x y1 y2 : Operand} {gh : GH} {y : V} {s : List V} {m : Int} {k k' : IntKind} {K : V → Prop} (hy : SlIs gh (tyOf e).size s y) (h : 0 ≤ m ∧ m ≤ s.length) (hz : ∀ x ∈ s, x.flat.length = (tyOf e).size) (hK : K (.xs (s.take m.toNat))) (hk : (tyOf t).k = .slice e := by rfl) (hkn : known (tyOf e).k = true := by rfl) : A.gq (.slice t x none (some y1) (some y2)) [y, .int k m, .int k' m] gh K :=
 gqI hA _ (gq_slice3 T_ok hy hk hkn h.1 h.2 hz) hK
theorem glnSI {c : Call} {t e : Nat} {x : Operand} {gh : GH} {y : V} {s : List V} {K : V → Prop} (hy : SlIs gh (tyOf e).size s y) (hK : K (.int .i64 s.length)) (hc : c.callee = .builtin .len := by rfl) (ha : c.args = #[x] := by rfl) (hat : c.argTypes = #[t] := by rfl) (ht : (tyOf t).k = .slice e := by rfl) : A.gq (.call c) [y] gh K :=
 gqI hA _ (gq_lenS T_ok hy hc ha hat ht) hK
theorem gbxI {o : Oper} {t : Nat} {x : Operand} {gh : GH} {v : V} {K : V → GH → Prop} (hK : ∀ g', g' = gh.new (.box v.flat) → K (.gp gh.next 0) g') (ho : o.op = .box t x := by rfl) (hc : v.okc = true := by rfl) : A.gop o [v] gh K := gop1 hA (gop_box T_ok ho hc) hK
theorem galI {o : Oper} {t : Nat} {gh : GH} {l : List V} {K : V → GH → Prop} (hK : ∀ g', g' = gh.new (.box l) → K (.gp gh.next 0) g') (ho : o.op = .alloc t := by rfl) (hkn : known (tyOf t).k = true := by rfl) (hz : toVas [] (tyOf t).zero = some l := by rfl) : A.gop o [] gh K := gop1 hA (gop_alloc T_ok ho hkn hz) hK
end
open Go Go.RowKit
theorem lt_irrefl : ∀ a : Bs, lt a a = false
 | [] => rfl
 | a :: x => by
  have := lt_irrefl x
  simp only [lt, Op.bytesLess] at *
  simp [this]
theorem lt_trans : ∀ {a b c : Bs}, lt a b = true → lt b c = true → lt a c = true
 | _, [], _, h, _ => by simp [lt, Op.bytesLess] at h
 | _, _ :: _, [], _, h => by simp [lt, Op.bytesLess] at h
 | [], _ :: _, _ :: _, _, _ => rfl
 | a :: x, b :: y, c :: z, h, k => by
  simp only [lt, Op.bytesLess, Bool.or_eq_true, Bool.and_eq_true, decide_eq_true_eq, beq_iff_eq] at *
  rcases h with h | ⟨h1, h2⟩ <;> rcases k with k | ⟨k1, k2⟩
  ·exact .inl (UInt8.lt_trans h k)
  ·subst k1; exact .inl h
  ·subst h1; exact .inl k
  ·exact .inr ⟨h1.trans k1, lt_trans h2 k2⟩
theorem lt_tri : ∀ a b : Bs, lt a b = true ∨ a = b ∨ lt b a = true
 | [], [] => .inr (.inl rfl)
 | [], _ :: _ => .inl rfl
 | _ :: _, [] => .inr (.inr rfl)
 | a :: x, b :: y => by
  simp only [lt, Op.bytesLess, Bool.or_eq_true, Bool.and_eq_true, decide_eq_true_eq, beq_iff_eq, List.cons.injEq]
  rcases lt_tri x y with h | h | h <;> rcases Nat.lt_trichotomy a.toNat b.toNat with q | q | q
  all_goals first
   | exact .inl (.inl (UInt8.lt_iff_toNat_lt.2 q))
   | exact .inr (.inr (.inl (UInt8.lt_iff_toNat_lt.2 q)))
   | skip
  ·exact .inl (.inr ⟨UInt8.toNat_inj.1 q, h⟩)
  ·exact .inr (.inl ⟨UInt8.toNat_inj.1 q, h⟩)
  ·exact .inr (.inr (.inr ⟨(UInt8.toNat_inj.1 q).symm, h⟩))
def Ord (l : List (Bs × Nat)) : Prop := l.Pairwise fun a b => lt a.1 b.1 = true
theorem Ord.nd {l : List (Bs × Nat)} (h : Ord l) : (l.map (·.1)).Nodup := by
 unfold List.Nodup
 rw [List.pairwise_map]
 exact h.imp fun {a b} q e => by rw [e, lt_irrefl] at q; cases q
theorem Ord.without {l : List (Bs × Nat)} (h : Ord l) (s : Bs) : Ord (enWithout l s) := h.filter _
theorem without_mem {l : List (Bs × Nat)} {s : Bs} {e : Bs × Nat} : e ∈ enWithout l s ↔ e ∈ l ∧ e.1 ≠ s := by
 unfold enWithout; rw [List.mem_filter]; simp
theorem ins_perm (l : List (Bs × Nat)) (e : Bs × Nat) : (enIns l e).Perm (e :: l) := by
 induction l with
 | nil => exact .refl _
 | cons x r ih =>
  unfold enIns
  split
  ·exact (ih.cons x).trans (.swap ..)
  ·exact .refl _
theorem Ord.ins {l : List (Bs × Nat)} (h : Ord l) (e : Bs × Nat) (hn : ∀ x ∈ l, x.1 ≠ e.1) : Ord (enIns l e) := by
 induction l with
 | nil => exact List.pairwise_singleton _ _
 | cons x r ih =>
  have h := List.pairwise_cons.1 h
  unfold enIns
  split
  ·rename_i q
   refine List.pairwise_cons.2 ⟨fun y hy => ?_, ih h.2 fun y hy => hn y (List.mem_cons_of_mem _ hy)⟩
   rcases List.mem_cons.1 ((ins_perm r e).mem_iff.1 hy) with rfl | hy
   ·exact q
   ·exact h.1 y hy
  ·rename_i q
   have q2 : lt e.1 x.1 = true := by
    rcases lt_tri e.1 x.1 with k | k | k
    ·exact k
    ·exact absurd k.symm (hn x (by simp))
    ·exact absurd k q
   refine List.pairwise_cons.2 ⟨fun y hy => ?_, List.pairwise_cons.2 h⟩
   rcases List.mem_cons.1 hy with rfl | hy
   ·exact q2
   ·exact lt_trans q2 (h.1 y hy)
theorem Ord.with {l : List (Bs × Nat)} (h : Ord l) (s : Bs) (i : Nat) : Ord (enWith l s i) := (h.without s).ins _ fun x hx => (without_mem.1 hx).2
theorem get_iff {l : List (Bs × Nat)} (h : (l.map (·.1)).Nodup) {s : Bs} {i : Nat} : enGet l s = some i ↔ (s, i) ∈ l := by
 induction l with
 | nil => simp [enGet]
 | cons x r ih =>
  have hx := List.nodup_cons.1 (by simpa using h : (x.1 :: r.map (·.1)).Nodup)
  have ih := ih hx.2
  obtain ⟨a, b⟩ := x
  unfold enGet at *
  rw [List.find?_cons]
  cases q : a == s with
  | true =>
   have := eq_of_beq q; subst this
   simp only [Option.map_some, Option.some.injEq, List.mem_cons, Prod.mk.injEq, true_and]
   refine ⟨fun h => .inl h.symm, fun h => ?_⟩
   rcases h with h | h
   ·exact h.symm
   ·exact absurd (List.mem_map_of_mem (f := (·.1)) h) hx.1
  | false =>
   simp only [ih, List.mem_cons, Prod.mk.injEq]
   refine ⟨.inr, fun h => ?_⟩
   rcases h with ⟨h, _⟩ | h
   ·subst h; simp at q
   ·exact h
theorem get_perm {l m : List (Bs × Nat)} (h : (l.map (·.1)).Nodup) (p : l.Perm m) (s : Bs) : enGet l s = enGet m s := by
 have hm : (m.map (·.1)).Nodup := (p.map _).nodup_iff.1 h
 cases q : enGet l s with
 | some i => exact ((get_iff hm).2 (p.mem_iff.1 ((get_iff h).1 q))).symm
 | none =>
  cases q2 : enGet m s with
  | none => rfl
  | some i => rw [(get_iff h).2 (p.mem_iff.2 ((get_iff hm).1 q2))] at q; cases q
def encE (t : List (Nat × Bs × Nat)) : List (Nat × V × V) := t.map fun e => (e.1, .str e.2.1, .int .i64 e.2.2)
def names (t : List (Nat × Bs × Nat)) : List (Bs × Nat) := t.map (·.2)
structure MpOk (t : List (Nat × Bs × Nat)) (clock : Nat) (en : List (Bs × Nat)) : Prop where
 lt : ∀ e ∈ t, e.1 < clock
 nd : (t.map (·.1)).Nodup
 perm : (names t).Perm en
 ord : Ord en
theorem strKeys_enc (t : List (Nat × Bs × Nat)) : StrKeys (encE t) := fun e he => by
 simp only [encE, List.mem_map] at he
 obtain ⟨x, _, rfl⟩ := he
 exact ⟨_, rfl⟩
theorem MpOk.kd {t : List (Nat × Bs × Nat)} {c : Nat} {en : List (Bs × Nat)} (h : MpOk t c en) : ((names t).map (·.1)).Nodup := (h.perm.map _).nodup_iff.2 h.ord.nd
theorem idx_enc (t : List (Nat × Bs × Nat)) (k : Bs) : mIdx (encE t) k = t.findIdx? fun e => e.2.1 == k := by
 unfold mIdx encE
 rw [List.findIdx?_map]; rfl
theorem idx_get (t : List (Nat × Bs × Nat)) (k : Bs) : (∃ j, ∃ h : j < t.length, (t.findIdx? fun e => e.2.1 == k) = some j ∧ (t[j]'h).2.1 = k ∧ enGet (names t) k = some (t[j]'h).2.2) ∨ ((t.findIdx? fun e => e.2.1 == k) = none ∧ enGet (names t) k = none ∧ ∀ e ∈ t, e.2.1 ≠ k) := by
 induction t with
 | nil => exact .inr ⟨rfl, rfl, by simp⟩
 | cons x r ih =>
  have e1 : enGet (names (x :: r)) k = if (x.2.1 == k) = true then some x.2.2 else enGet (names r) k := by
   simp only [enGet, names, List.map_cons, List.find?_cons]
   cases x.2.1 == k <;> rfl
  rw [e1, List.findIdx?_cons]
  cases q : x.2.1 == k with
  | true => exact .inl ⟨0, by simp, by simp, eq_of_beq q, by simp⟩
  | false =>
   have q' : x.2.1 ≠ k := by simpa using q
   rcases ih with ⟨j, h, h1, h2, h3⟩ | ⟨h1, h2, h3⟩
   ·exact .inl ⟨j + 1, by simpa using h, by simp [h1], by simpa using h2, by simpa using h3⟩
   ·exact .inr ⟨by simp [h1], by simpa using h2, fun e he => (List.mem_cons.1 he).elim (fun h => h ▸ q') (h3 e)⟩
theorem look_enc {t : List (Nat × Bs × Nat)} {c : Nat} {en : List (Bs × Nat)} (h : MpOk t c en) (k : Bs) (z : V) : (match mIdx (encE t) k with
   | some j => V.tup [((encE t)[j]?.map (fun e : Nat × V × V => e.2.2)).getD z, .bool true]
   | none => .tup [z, .bool false]) = match enGet en k with
   | some i => .tup [.int .i64 i, .bool true]
   | none => .tup [z, .bool false] := by
 rw [← get_perm h.kd h.perm, idx_enc]
 rcases idx_get t k with ⟨j, hj, h1, _, h3⟩ | ⟨h1, h2, _⟩
 ·simp only [h1, h3, encE]
  simp [List.getElem?_eq_getElem hj]
 ·simp only [h1, h2]
theorem nd_mid {α : Type} {a b : List α} {x : α} (h : (a ++ x :: b).Nodup) : x ∉ a ++ b := (List.nodup_cons.1 (List.perm_middle.nodup_iff.1 h)).1
theorem set_enc {t : List (Nat × Bs × Nat)} {c : Nat} {en : List (Bs × Nat)} (h : MpOk t c en) (k : Bs) (i : Nat) : ∃ t', mSet (encE t) c k (.int .i64 i) = encE t' ∧ MpOk t' (mClk (encE t) c k) (enWith en k i) := by
 have key : ∀ t' : List (Nat × Bs × Nat), (names t').Perm ((k, i) :: enWithout en k) → (names t').Perm (enWith en k i) := fun t' q => q.trans (ins_perm _ _).symm
 unfold mSet mClk
 rw [idx_enc]
 rcases idx_get t k with ⟨j, hj, h1, h2, h3⟩ | ⟨h1, h2, h3⟩
 ·rw [h1]
  refine ⟨t.set j ((t[j]'hj).1, k, i), by simp [encE, List.map_set, List.getElem?_eq_getElem hj], fun e he => ?_, ?_, key _ ?_, h.ord.with k i⟩
  ·rcases List.mem_or_eq_of_mem_set he with q | rfl
   ·exact h.lt e q
   ·exact (h.lt _ (List.getElem_mem hj) : (t[j]'hj).1 < c)
  ·rw [List.map_set, show ((t[j]'hj).1, k, i).1 = (t.map (·.1))[j]'(by simpa using hj) from by simp, List.set_getElem_self]
   exact h.nd
  ·have hsplit : names (t.set j ((t[j]'hj).1, k, i)) = ((names t).take j) ++ (k, i) :: (names t).drop (j + 1) := by
    unfold names
    rw [List.map_set, List.set_eq_take_append_cons_drop, if_pos (by simpa using hj)]
   rw [hsplit]
   have hk := h.kd
   have e0 : names t = (names t).take j ++ (t[j]'hj).2 :: (names t).drop (j + 1) := by
    have : (t[j]'hj).2 = (names t)[j]'(by simpa [names] using hj) := by simp [names]
    rw [this, ← List.drop_eq_getElem_cons, List.take_append_drop]
   refine List.perm_middle.trans (List.Perm.cons _ ?_)
   have p1 : ((names t).filter fun e => !(e.1 == k)).Perm (enWithout en k) := h.perm.filter _
   refine List.Perm.trans ?_ p1
   have hne : ∀ e, e ∈ (names t).take j ++ (names t).drop (j + 1) → e.1 ≠ k := by
    intro e he hek
    have hk2 := hk
    rw [e0, List.map_append, List.map_cons] at hk2
    refine nd_mid hk2 ?_
    rw [h2, ← hek, ← List.map_append]
    exact List.mem_map_of_mem (f := (·.1)) he
   conv => rhs; rw [e0]
   rw [List.filter_append, List.filter_cons, if_neg (by simp [h2]), ← List.filter_append, List.filter_eq_self.2 fun e he => by simpa using hne e he]
 ·rw [h1]
  refine ⟨t ++ [(c, k, i)], by simp [encE], fun e he => ?_, ?_, key _ ?_, h.ord.with k i⟩
  ·rcases List.mem_append.1 he with q | q
   ·exact Nat.lt_succ_of_lt (h.lt e q)
   ·simp at q; subst q; exact Nat.lt_succ_self _
  ·rw [List.map_append]
   refine List.nodup_append.2 ⟨h.nd, by simp, fun a ha b hb => ?_⟩
   simp at hb; subst hb
   obtain ⟨e, he, rfl⟩ := List.mem_map.1 ha
   exact Nat.ne_of_lt (h.lt e he)
  ·have e1 : names (t ++ [(c, k, i)]) = names t ++ [(k, i)] := by simp [names]
   have e2 : enWithout en k = en := List.filter_eq_self.2 fun e he => by
    have := h.perm.mem_iff.2 he
    obtain ⟨x, hx, rfl⟩ := List.mem_map.1 this
    simpa using h3 x hx
   rw [e1, e2]
   exact List.perm_append_comm.trans (h.perm.cons _)
theorem del_enc {t : List (Nat × Bs × Nat)} {c : Nat} {en : List (Bs × Nat)} (h : MpOk t c en) (k : Bs) : ∃ t', mDel (encE t) k = encE t' ∧ MpOk t' c (enWithout en k) := by
 unfold mDel
 rw [idx_enc]
 rcases idx_get t k with ⟨j, hj, h1, h2, h3⟩ | ⟨h1, h2, h3⟩
 ·rw [h1]
  refine ⟨t.eraseIdx j, by simp only [encE]; exact (Go.ChangeMaps.map_eraseIdx _ _ _).symm, fun e he => h.lt e (List.mem_of_mem_eraseIdx he), ?_, ?_, h.ord.without k⟩
  ·exact h.nd.sublist ((List.eraseIdx_sublist t j).map _)
  ·have p1 : ((names t).filter fun e => !(e.1 == k)).Perm (enWithout en k) := h.perm.filter _
   refine List.Perm.trans ?_ p1
   have e0 : names t = (names t).take j ++ (t[j]'hj).2 :: (names t).drop (j + 1) := by
    have : (t[j]'hj).2 = (names t)[j]'(by simpa [names] using hj) := by simp [names]
    rw [this, ← List.drop_eq_getElem_cons, List.take_append_drop]
   have e3 : names (t.eraseIdx j) = (names t).take j ++ (names t).drop (j + 1) := by
    unfold names
    rw [Go.ChangeMaps.map_eraseIdx, List.eraseIdx_eq_take_drop_succ]
   have hne : ∀ e, e ∈ (names t).take j ++ (names t).drop (j + 1) → e.1 ≠ k := by
    intro e he hek
    have hk2 := h.kd
    rw [e0, List.map_append, List.map_cons] at hk2
    refine nd_mid hk2 ?_
    rw [h2, ← hek, ← List.map_append]
    exact List.mem_map_of_mem (f := (·.1)) he
   rw [e3]
   conv => rhs; rw [e0]
   rw [List.filter_append, List.filter_cons, if_neg (by simp [h2]), ← List.filter_append, List.filter_eq_self.2 fun e he => by simpa using hne e he]
 ·rw [h1]
  refine ⟨t, rfl, h.lt, h.nd, ?_, h.ord.without k⟩
  have e2 : enWithout en k = en := List.filter_eq_self.2 fun e he => by
   have := h.perm.mem_iff.2 he
   obtain ⟨x, hx, rfl⟩ := List.mem_map.1 this
   simpa using h3 x hx
  rw [e2]; exact h.perm
open Go Go.RowKit
abbrev Lab := Nat → Option (Nat × Nat)
def ByV (gh : GH) (lab : Lab) (r : Nat × Nat) (v : V) (b : Bs) : Prop := (v = .nils ∧ b = []) ∨ v = .xs (bytesV b) ∨ ∃ id, v = .gs id (b.length : Int) ∧ lab id = some r ∧ gh.get id = some (.arow 1 (bytesV b))
def MpV (gh : GH) (lab : Lab) (r : Nat × Nat) (dir : Bool) (v : V) (en : List (Bs × Nat)) : Prop := match dir with
 | true => ∃ id t c, v = .gm id ∧ lab id = some r ∧ gh.get id = some (.map (encE t) c) ∧ MpOk t c en
 | false => v = .nilmap ∧ en = []
def encC : Stp → V
 | .app b => .clo 77 [.ref [.slice (bytesV b)]]
 | .cut n => .clo 88 [.ref [.int .i64 n]]
 | .link s i => .clo 143 [.ref [.int .i64 i], .ref [.str s]]
 | .unl s => .clo 102 [.ref [.str s]]
 | .ren f t i => .nilfn
def encS (s : Stp) : V := .agg [.int .i64 s.parts, encC s]
def LsV (gh : GH) (lab : Lab) (r : Nat × Nat) (v : V) (l : List Stp) : Prop := (v = .nils ∧ l = []) ∨ ∃ id, v = .gs id (l.length : Int) ∧ lab id = some r ∧ gh.get id = some (.arow 2 (l.map encS))
def NodeAt (gh : GH) (lab : Lab) (i id : Nat) (nd : Nd) : Prop := ∃ vb ve wb we vl, gh.get id = some (.box [.bool nd.dir, vb, ve, wb, we, vl]) ∧ lab id = some (i, 0) ∧ ByV gh lab (i, 1) vb nd.safe.b ∧ MpV gh lab (i, 2) nd.dir ve nd.safe.en ∧ ByV gh lab (i, 3) wb nd.seen.b ∧ MpV gh lab (i, 4) nd.dir we nd.seen.en ∧ LsV gh lab (i, 5) vl nd.loose
def NsV (gh : GH) (lab : Lab) (v : V) (ids : List Nat) : Prop := (v = .nils ∧ ids = []) ∨ ∃ nid, v = .gs nid (ids.length : Int) ∧ lab nid = some (0, 7) ∧ gh.get nid = some (.arow 1 (ids.map fun i => V.gp i 0))
def Dom (gh : GH) (lab : Lab) : Prop := ∀ x, gh.next ≤ x → lab x = none
theorem Dom.lt {gh : GH} {lab : Lab} (h : Dom gh lab) {x : Nat} {r : Nat × Nat} (q : lab x = some r) : x < gh.next := by
 rcases Nat.lt_or_ge x gh.next with k | k
 ·exact k
 ·rw [h x k] at q; cases q
def boxD (v : V) (k : Dk) : GObj := .box [v, .int .i64 k.cap, .int .i64 k.ops, .int .i64 k.changes, .bool k.down, .bool k.done, .bool k.fail.is, .int .i64 k.fail.after, .bool k.full.is, .int .i64 k.full.after]
def DiskAt (gh : GH) (lab : Lab) (p : Nat) (k : Dk) : Prop := Dom gh lab ∧ lab p = some (0, 6) ∧ ∃ v ids, gh.get p = some (boxD v k) ∧ NsV gh lab v ids ∧ ids.length = k.nodes.length ∧ ∀ i id nd, ids[i]? = some id → k.nodes[i]? = some nd → NodeAt gh lab i id nd
structure Upd (gh gh' : GH) (lab lab' : Lab) (T : Nat × Nat → Prop) (X : Nat → Prop) : Prop where
 next : gh.next ≤ gh'.next
 old : ∀ x, x < gh.next → lab' x = lab x
 dom : Dom gh' lab'
 get : ∀ x, x < gh.next → ¬ X x → (∀ r, lab x = some r → ¬ T r) → gh'.get x = gh.get x
theorem Upd.refl {gh : GH} {lab : Lab} (hd : Dom gh lab) (T : Nat × Nat → Prop) (X : Nat → Prop) : Upd gh gh lab lab T X := ⟨Nat.le_refl _, fun _ _ => rfl, hd, fun _ _ _ _ => rfl⟩
theorem Upd.trans {g g' g'' : GH} {l l' l'' : Lab} {T : Nat × Nat → Prop} {X : Nat → Prop} (h : Upd g g' l l' T X) (k : Upd g' g'' l' l'' T X) : Upd g g'' l l'' T X :=
 ⟨Nat.le_trans h.next k.next, fun x q => (k.old x (Nat.lt_of_lt_of_le q h.next)).trans (h.old x q), k.dom, fun x q n t => (k.get x (Nat.lt_of_lt_of_le q h.next) n (by rw [h.old x q]; exact t)).trans (h.get x q n t)⟩
theorem Upd.weak {g g' : GH} {l l' : Lab} {T T' : Nat × Nat → Prop} {X X' : Nat → Prop} (h : Upd g g' l l' T X) (hT : ∀ r, T r → T' r) (hX : ∀ x, X x → X' x ∨ ∃ r, l x = some r ∧ T' r) : Upd g g' l l' T' X' :=
 ⟨h.next, h.old, h.dom, fun x q n t => h.get x q (fun k => (hX x k).elim n fun ⟨r, h1, h2⟩ => t r h1 h2) fun r k => fun k' => t r k (hT r k')⟩
section
variable {gh gh' : GH} {lab lab' : Lab} {T : Nat × Nat → Prop} {X : Nat → Prop} (hd : Dom gh lab) (u : Upd gh gh' lab lab' T X)
include hd u
theorem upd_id {x : Nat} {r : Nat × Nat} {o : GObj} (hl : lab x = some r) (hT : ¬ T r) (hX : ¬ X x) (hg : gh.get x = some o) : lab' x = some r ∧ gh'.get x = some o := by
 have hx := hd.lt hl
 refine ⟨(u.old x hx).trans hl, (u.get x hx hX fun r' h => ?_).trans hg⟩
 rw [hl] at h; cases h; exact hT
theorem ByV.upd {r : Nat × Nat} {v : V} {b : Bs} (h : ByV gh lab r v b) (hT : ¬ T r) (hX : ∀ x, X x → lab x ≠ some r) : ByV gh' lab' r v b := by
 rcases h with h | h | ⟨id, h1, h2, h3⟩
 ·exact .inl h
 ·exact .inr (.inl h)
 ·obtain ⟨q1, q2⟩ := upd_id hd u h2 hT (fun q => hX _ q h2) h3
  exact .inr (.inr ⟨id, h1, q1, q2⟩)
theorem MpV.upd {r : Nat × Nat} {dir : Bool} {v : V} {en : List (Bs × Nat)} (h : MpV gh lab r dir v en) (hT : ¬ T r) (hX : ∀ x, X x → lab x ≠ some r) : MpV gh' lab' r dir v en := by
 cases dir with
 | false => exact h
 | true =>
  obtain ⟨id, t, c, h1, h2, h3, h4⟩ := h
  obtain ⟨q1, q2⟩ := upd_id hd u h2 hT (fun q => hX _ q h2) h3
  exact ⟨id, t, c, h1, q1, q2, h4⟩
theorem LsV.upd {r : Nat × Nat} {v : V} {l : List Stp} (h : LsV gh lab r v l) (hT : ¬ T r) (hX : ∀ x, X x → lab x ≠ some r) : LsV gh' lab' r v l := by
 rcases h with h | ⟨id, h1, h2, h3⟩
 ·exact .inl h
 ·obtain ⟨q1, q2⟩ := upd_id hd u h2 hT (fun q => hX _ q h2) h3
  exact .inr ⟨id, h1, q1, q2⟩
theorem NsV.upd {v : V} {l : List Nat} (h : NsV gh lab v l) (hT : ¬ T (0, 7)) (hX : ∀ x, X x → lab x ≠ some (0, 7)) : NsV gh' lab' v l := by
 rcases h with h | ⟨id, h1, h2, h3⟩
 ·exact .inl h
 ·obtain ⟨q1, q2⟩ := upd_id hd u h2 hT (fun q => hX _ q h2) h3
  exact .inr ⟨id, h1, q1, q2⟩
theorem NodeAt.upd {i id : Nat} {nd : Nd} (h : NodeAt gh lab i id nd) (hT : ∀ j, j ≤ 5 → ¬ T (i, j)) (hX : ∀ x, X x → ∀ j, lab x ≠ some (i, j)) : NodeAt gh' lab' i id nd := by
 obtain ⟨vb, ve, wb, we, vl, h1, h2, h3, h4, h5, h6, h7⟩ := h
 obtain ⟨q1, q2⟩ := upd_id hd u h2 (hT 0 (by decide)) (fun q => hX _ q 0 h2) h1
 exact ⟨vb, ve, wb, we, vl, q2, q1, h3.upd hd u (hT _ (by decide)) fun x q => hX x q _, h4.upd hd u (hT _ (by decide)) fun x q => hX x q _, h5.upd hd u (hT _ (by decide)) fun x q => hX x q _, h6.upd hd u (hT _ (by decide)) fun x q => hX x q _, h7.upd hd u (hT _ (by decide)) fun x q => hX x q _⟩
end
theorem DiskAt.upd {gh gh' : GH} {lab lab' : Lab} {X : Nat → Prop} {p : Nat} {k : Dk} (h : DiskAt gh lab p k) (u : Upd gh gh' lab lab' (fun _ => False) X) (hX : ∀ x, X x → lab x = none) : DiskAt gh' lab' p k := by
 obtain ⟨hd, h1, v, ids, h2, h3, h4, h5⟩ := h
 have hX' : ∀ (x : Nat) (r : Nat × Nat), X x → lab x ≠ some r := fun x r q e => by rw [hX x q] at e; cases e
 obtain ⟨q1, q2⟩ := upd_id hd u h1 (fun h => h) (fun q => hX' _ _ q h1) h2
 exact ⟨u.dom, q1, v, ids, q2, h3.upd hd u (fun h => h) (fun x q => hX' x _ q), h4, fun i id nd k1 k2 => (h5 i id nd k1 k2).upd hd u (fun _ _ h => h) (fun x q j => hX' x _ q)⟩
theorem Upd.mk0 {gh gh' : GH} {lab : Lab} {T : Nat × Nat → Prop} {X : Nat → Prop} (hd : Dom gh lab) (hn : gh.next ≤ gh'.next) (hg : ∀ x, x < gh.next → ¬ X x → (∀ r, lab x = some r → ¬ T r) → gh'.get x = gh.get x) : Upd gh gh' lab lab T X :=
 ⟨hn, fun _ _ => rfl, fun x h => hd x (Nat.le_trans hn h), hg⟩
open Go Go.RowKit
theorem bits_xor_u32_nat (a b : Nat) (ha : a < 4294967296) (hb : b < 4294967296) : bits .xor .u32 (a : Int) (b : Int) = ((a ^^^ b : Nat) : Int) := by
 have hx : a ^^^ b < 2 ^ 32 := Nat.xor_lt_two_pow (by omega) (by omega)
 have h1 : (BitVec.ofInt 32 (a : Int)).toNat = a := by
  rw [BitVec.ofInt_natCast, BitVec.toNat_ofNat]; exact Nat.mod_eq_of_lt (by omega)
 have h2 : (BitVec.ofInt 32 (b : Int)).toNat = b := by
  rw [BitVec.ofInt_natCast, BitVec.toNat_ofNat]; exact Nat.mod_eq_of_lt (by omega)
 show IntKind.u32.wrap ((BitVec.ofInt 32 (a : Int) ^^^ BitVec.ofInt 32 (b : Int)).toNat : Int) = _
 rw [BitVec.toNat_xor, h1, h2]
 simp only [IntKind.wrap, IntKind.bits, IntKind.signed, Bool.false_and, Bool.false_eq_true, if_false]
 omega
theorem bits_xor_u8_nat (a b : Nat) (ha : a < 256) (hb : b < 256) : bits .xor .u8 (a : Int) (b : Int) = ((a ^^^ b : Nat) : Int) := by
 have hx : a ^^^ b < 2 ^ 8 := Nat.xor_lt_two_pow (by omega) (by omega)
 have h1 : (BitVec.ofInt 8 (a : Int)).toNat = a := by
  rw [BitVec.ofInt_natCast, BitVec.toNat_ofNat]; exact Nat.mod_eq_of_lt (by omega)
 have h2 : (BitVec.ofInt 8 (b : Int)).toNat = b := by
  rw [BitVec.ofInt_natCast, BitVec.toNat_ofNat]; exact Nat.mod_eq_of_lt (by omega)
 show IntKind.u8.wrap ((BitVec.ofInt 8 (a : Int) ^^^ BitVec.ofInt 8 (b : Int)).toNat : Int) = _
 rw [BitVec.toNat_xor, h1, h2]
 simp only [IntKind.wrap, IntKind.bits, IntKind.signed, Bool.false_and, Bool.false_eq_true, if_false]
 omega
theorem inot_u32 (a : Nat) (ha : a < 4294967296) : bits .xor .u32 (if IntKind.u32.signed then -1 else IntKind.u32.max) (a : Int) = ((a ^^^ 4294967295 : Nat) : Int) := by
 have : (if IntKind.u32.signed then -1 else IntKind.u32.max) = ((4294967295 : Nat) : Int) := by decide
 rw [this, bits_xor_u32_nat _ _ (by decide) ha, Nat.xor_comm]
theorem wrap_i64 {n : Int} (h1 : -9223372036854775808 ≤ n) (h2 : n ≤ 9223372036854775807) : IntKind.i64.wrap n = n := by
 simp only [IntKind.wrap, IntKind.bits, IntKind.signed, Bool.true_and, decide_eq_true_eq, ge_iff_le]
 split <;> omega
theorem shr_u32 (a : Nat) : Int.fdiv (a : Int) (2 ^ (min (Int.toNat 8) IntKind.u32.bits)) = ((a / 256 : Nat) : Int) := by
 have : (2 : Int) ^ (min (Int.toNat 8) IntKind.u32.bits) = ((256 : Nat) : Int) := by decide
 rw [this, Int.fdiv_eq_ediv_of_nonneg _ (by omega)]
 rfl
def one (n : Nat) : Nat := if n % 2 = 1 then (n / 2) ^^^ 3988292384 else n / 2
def ones : Nat → Nat → Nat
 | 0, n => n
 | k + 1, n => ones k (one n)
def eight (n : Nat) : Nat := ones 8 n
theorem one_xor (a b : Nat) : one (a ^^^ b) = one a ^^^ one b := by
 have h1 : (a ^^^ b) / 2 = a / 2 ^^^ b / 2 := Nat.xor_div_two
 have h2 : (a ^^^ b) % 2 = a % 2 ^^^ b % 2 := by
  have := @Nat.xor_mod_two_pow a b 1
  simpa using this
 unfold one
 rw [h1, h2]
 rcases Nat.mod_two_eq_zero_or_one a with ha | ha <;> rcases Nat.mod_two_eq_zero_or_one b with hb | hb <;> rw [ha, hb] <;> simp
 ·ac_rfl
 ·ac_rfl
 ·rw [show a / 2 ^^^ 3988292384 ^^^ (b / 2 ^^^ 3988292384) = a / 2 ^^^ b / 2 ^^^ (3988292384 ^^^ 3988292384) from by ac_rfl]
  simp
theorem ones_xor : ∀ (k a b : Nat), ones k (a ^^^ b) = ones k a ^^^ ones k b
 | 0, _, _ => rfl
 | k + 1, a, b => by simp only [ones, one_xor, ones_xor k]
theorem one_lt {n : Nat} (h : n < 4294967296) : one n < 4294967296 := by
 unfold one
 split
 ·exact Nat.xor_lt_two_pow (n := 32) (by omega) (by decide)
 ·omega
theorem ones_lt : ∀ (k : Nat) {n : Nat}, n < 4294967296 → ones k n < 4294967296
 | 0, _, h => h
 | k + 1, n, h => ones_lt k (one_lt h)
theorem one_even (n : Nat) : one (2 * n) = n := by unfold one; rw [if_neg (by omega)]; omega
theorem eight_high (y : Nat) : eight (y * 256) = y := by
 have e : ∀ k n, ones k (2 ^ k * n) = n := by
  intro k
  induction k with
  | zero => intro n; simp [ones]
  | succ k ih => intro n; rw [ones, show 2 ^ (k + 1) * n = 2 * (2 ^ k * n) from by rw [Nat.pow_succ]; ac_rfl, one_even, ih]
 have := e 8 y
 rw [Nat.mul_comm] at this
 exact this
def stepT (x c : Nat) : Nat := eight ((x % 256) ^^^ c) ^^^ (x / 256)
theorem step_eq (x c : Nat) (hc : c < 256) : eight (x ^^^ c) = stepT x c := by
 have h : x = (x % 256) ^^^ (x / 256 * 256) := by
  apply Nat.eq_of_testBit_eq
  intro i
  rw [Nat.testBit_xor, show (256 : Nat) = 2 ^ 8 from rfl, Nat.testBit_mod_two_pow, Nat.testBit_mul_two_pow, Nat.testBit_div_two_pow]
  by_cases hi : i < 8
  ·simp [hi, show ¬ 8 ≤ i from by omega]
  ·simp [hi, show 8 ≤ i from by omega]
 unfold stepT
 conv => lhs; rw [h]
 rw [show x % 256 ^^^ x / 256 * 256 ^^^ c = (x % 256 ^^^ c) ^^^ (x / 256 * 256) from by ac_rfl]
 unfold eight
 rw [ones_xor]
 congr 1
 exact eight_high _
def addN (x : Nat) (b : List UInt8) : Nat := b.foldl (fun x c => eight (x ^^^ c.toNat)) x
theorem addN_lt {x : Nat} (hx : x < 4294967296) (b : List UInt8) : addN x b < 4294967296 := by
 induction b generalizing x with
 | nil => exact hx
 | cons c b ih => exact ih (ones_lt 8 (Nat.xor_lt_two_pow (n := 32) (by omega) (by have := c.toNat_lt; omega)))
theorem addN_take {x : Nat} {b : List UInt8} {i : Nat} (h : i < b.length) : addN x (b.take (i + 1)) = eight (addN x (b.take i) ^^^ (b[i]'h).toNat) := by
 unfold addN
 rw [List.take_succ_eq_append_getElem h, List.foldl_append]; rfl
theorem addN_append (x : Nat) (a b : List UInt8) : addN x (a ++ b) = addN (addN x a) b := by unfold addN; rw [List.foldl_append]
open Go Go.RowKit
theorem w64_id {n : Int} (h : -9223372036854775808 ≤ n ∧ n ≤ 9223372036854775807) : w64 n = n := wrap_i64 h.1 h.2
section
variable {A : Prim} {P : Program} {R : List (Nat × AObj) → List D → Prop} (hA : A = std P R)
include hA
theorem zltT {a b : Int} (h : A.ilt a b = true) : a < b := by subst hA; simpa [std] using h
theorem zltF {a b : Int} (h : A.ilt a b = false) : ¬ a < b := by subst hA; simpa [std] using h
theorem zleT {a b : Int} (h : A.ile a b = true) : a ≤ b := by subst hA; simpa [std] using h
theorem zleF {a b : Int} (h : A.ile a b = false) : ¬ a ≤ b := by subst hA; simpa [std] using h
theorem zeqT {a b : Int} (h : A.ieq a b = true) : a = b := by subst hA; simpa [std] using h
theorem zeqF {a b : Int} (h : A.ieq a b = false) : a ≠ b := by subst hA; simpa [std] using h
theorem zneT {a b : Int} (h : A.ine a b = true) : a ≠ b := by subst hA; simpa [std] using h
theorem zneF {a b : Int} (h : A.ine a b = false) : a = b := by subst hA; simpa [std] using h
theorem zlt_f {a b : Int} (h : ¬ a < b) : A.ilt a b = false := by subst hA; simpa [std] using h
theorem zeq_t {a b : Int} (h : a = b) : A.ieq a b = true := by subst hA; simpa [std] using h
theorem zeq_f {a b : Int} (h : a ≠ b) : A.ieq a b = false := by subst hA; simpa [std] using h
theorem zne_t {a b : Int} (h : a ≠ b) : A.ine a b = true := by subst hA; simpa [std] using h
theorem zne_f {a b : Int} (h : a = b) : A.ine a b = false := by subst hA; simpa [std] using h
theorem zadd (a b : Int) : A.wrap .i64 (A.add a b) = w64 (a + b) := by subst hA; rfl
theorem zsub (a b : Int) : A.wrap .i64 (A.sub a b) = w64 (a - b) := by subst hA; rfl
theorem znotT {b : Bool} (h : A.not b = true) : b = false := by subst hA; simpa [std] using h
theorem znotF {b : Bool} (h : A.not b = false) : b = true := by subst hA; simpa [std] using h
theorem zbeqT {a b : Bool} (h : A.beq a b = true) : a = b := by subst hA; simpa [std] using h
theorem zbeqF {a b : Bool} (h : A.beq a b = false) : a ≠ b := by subst hA; simpa [std] using h
end
section
variable {A : Prim} {R : List (Nat × AObj) → List D → Prop} (hA : A = std Tryz.prog R)
include hA
theorem gixN {t e : TypeId} {x i : Operand} {gh : GH} {id : Nat} {n m j : Int} {k : IntKind} {K : V → Prop} (hm : m = j) (h0 : 0 ≤ j ∧ j < n) (hK : K (.ge id (tyOf e).size m 0)) (ht : (tyOf t).k = .slice e := by rfl) (hkn : known (tyOf e).k = true := by rfl) : A.gq (.indexAddr t x i) [.gs id n, .int k m] gh K :=
 gixI hA (hm ▸ h0) hK ht hkn
theorem gldRN {t : TypeId} {x : Operand} {gh : GH} {id z off : Nat} {i j : Int} {K : V → Prop} {y v : V} (hi : i = j) (l : List V) (hg : gh.get id = some (.row z l) ∨ gh.get id = some (.frow z l) ∨ gh.get id = some (.arow z l)) (hy : l[j.toNat]? = some y) (hK : K v) (hv : y.flat[off]? = some v := by rfl) (hkn : known (tyOf t).k = true := by rfl) (hag : isAggT (tyOf t).k = false := by rfl) : A.gq (.load t x) [.ge id z i off] gh K :=
 gldRI hA l hg (hi ▸ hy) hK hv hkn hag
theorem gldRAN {t : TypeId} {x : Operand} {gh : GH} {id z off : Nat} {i j : Int} {K : V → Prop} {y : V} (hi : i = j) (l : List V) (hg : gh.get id = some (.row z l) ∨ gh.get id = some (.frow z l) ∨ gh.get id = some (.arow z l)) (hy : l[j.toNat]? = some y) (hK : K (.agg ((y.flat.drop off).take (tyOf t).size))) (hle : off + (tyOf t).size ≤ y.flat.length := by first | decide | exact Nat.le_of_ble_eq_true rfl) (hag : isAggT (tyOf t).k = true := by rfl) : A.gq (.load t x) [.ge id z i off] gh K :=
 gqI hA _ (gq_loadRA T_ok hag hg (hi ▸ hy) hle) hK
theorem glnSN {c : Call} {t e : Nat} {x : Operand} {gh : GH} {y : V} {s : List V} {m : Int} {K : V → Prop} (hy : SlIs gh (tyOf e).size s y) (hm : m = (s.length : Nat)) (hK : K (.int .i64 m)) (hc : c.callee = .builtin .len := by rfl) (ha : c.args = #[x] := by rfl) (hat : c.argTypes = #[t] := by rfl) (ht : (tyOf t).k = .slice e := by rfl) : A.gq (.call c) [y] gh K :=
 glnSI hA hy (hm ▸ hK) hc ha hat ht
end
theorem weak_pubN (S : St) (t : Nat) {id0 z nx : Nat} {n : Int} {l : List V} {ex : Bool} {gh g : GH} {pub : List Nat} (hg : g = gh.new (.arow z l)) (hx : nx = gh.next) (hn : n = (l.length : Nat)) (hh : look S.ob hk = some (.heap gh pub)) (ht : S.get t = .own id0) (ho : look S.ob id0 = some (.row z l ex)) :
  Weak S ((({ S with ob := remOb id0 S.ob } : St).setOb hk (.heap g pub)).put (some t) (.v (.gs nx n))) := by
 subst hg hx hn; exact weak_pub S t hh ht ho
theorem weak_refN (S : St) (t : Nat) {id : Nat} {l : List V} {gh g : GH} {pub : List Nat} (hgg : g = gh.del id) (hh : look S.ob hk = some (.heap gh pub)) (ht : S.get t = .v (.gp id 0)) (hg : gh.get id = some (.box l)) :
  Weak S ((S.setOb hk (.heap g pub)).put (some t) (.v (.ref l))) := by
 subst hgg; exact weak_ref S t hh ht hg
theorem ByV.open {gh : GH} {lab : Lab} {r : Nat × Nat} {v : V} {b : Bs} (h : ByV gh lab r v b) : (v = .nils ∧ b = []) ∨ (∃ l, v = .xs l ∧ l = bytesV b) ∨ ∃ (id : Nat) (n : Int) (l : List V), v = .gs id n ∧ n = (b.length : Nat) ∧ l = bytesV b ∧ lab id = some r ∧ gh.get id = some (.arow 1 l) := by
 rcases h with h | h | ⟨id, h1, h2, h3⟩
 ·exact .inl h
 ·exact .inr (.inl ⟨_, h, rfl⟩)
 ·exact .inr (.inr ⟨id, _, _, h1, rfl, rfl, h2, h3⟩)
open Go Go.RowKit
def upE (k : Dk) : Int := if k.down then 12 else 0
theorem gUp (gh : GH) (p : Nat) (v : V) (k : Dk) (hg : gh.get p = some (boxD v k)) : FnG Tryz.prog 69 [.gp p 0] gh fun rs g => ∃ e : Int, rs = [.v (.int .i64 e)] ∧ e = upE k ∧ gh = g := by
 refine FnG.of' T_ok M_ok [] (fn := Tryz.f69) (by kernel_rfl) rfl rfl rfl rfl (Nat.le_of_ble_eq_true rfl) fun A hA => ?_
 cbv
 refine gldI hA _ (hg) ?_
 cbv
 refine condI hA (fun h => ?_) (fun h => ?_)
 ·have h : k.down = true := h
  cbv
  exact retGI hA rfl [.v (.int .i64 12)] gh (⟨_, rfl, by simp [upE, h], rfl⟩)
 ·have h : k.down = false := h
  cbv
  exact retGI hA rfl [.v (.int .i64 0)] gh (⟨_, rfl, by simp [upE, h], rfl⟩)
def anyP (k : Dk) (ids : List Nat) (i : Int) : V := if k.anyE i = 0 then match ids[(i - 1).toNat]? with
 | some id => .gp id 0
 | none => .nilp
 else .nilp
theorem gAny (gh : GH) (lab : Lab) (p : Nat) (v : V) (k : Dk) (ids : List Nat) (i : Int) (hg : gh.get p = some (boxD v k)) (hn : NsV gh lab v ids) (hl : ids.length = k.nodes.length) (h1 : 1 ≤ k.nodes.length) (hi : -9223372036854775808 ≤ i ∧ i ≤ 9223372036854775807) : FnG Tryz.prog 89 [.gp p 0, .int .i64 i] gh fun rs g => ∃ (x : V) (e : Int), rs = [.v x, .v (.int .i64 e)] ∧ x = anyP k ids i ∧ e = k.anyE i ∧ gh = g := by
 obtain ⟨nid, rfl, hlab, hnid⟩ : ∃ nid, v = .gs nid (ids.length : Int) ∧ lab nid = some (0, 7) ∧ gh.get nid = some (.arow 1 (ids.map fun i => V.gp i 0)) := by
  rcases hn with ⟨_, h⟩ | h
  ·subst h; simp at hl; omega
  ·exact h
 obtain ⟨n, hne⟩ : ∃ n : Int, n = (ids.length : Nat) := ⟨_, rfl⟩
 have f1 : n < i → ¬ (1 ≤ i ∧ i ≤ ids.length) := fun h => by omega
 have f2 : ¬ i < 1 → ¬ n < i → (1 ≤ i ∧ i ≤ ids.length) ∧ (i - 1).toNat < ids.length ∧ (0 ≤ i - 1 ∧ i - 1 < n) ∧ -9223372036854775808 ≤ i - 1 ∧ i - 1 ≤ 9223372036854775807 := fun h h' => by omega
 have f0 : i < 1 → ¬ (1 ≤ i ∧ i ≤ ids.length) := fun h => by omega
 rw [← hne] at hg
 refine FnG.of' T_ok M_ok [] (fn := Tryz.f89) (by kernel_rfl) rfl rfl rfl rfl (Nat.le_of_ble_eq_true rfl) fun A hA => ?_
 cbv
 refine callGI hA (gUp gh p _ k hg) ?_
 intro rs_ g_ h_
 obtain ⟨e, q_1, he, q_2⟩ := h_
 subst q_1
 subst q_2
 cbv
 have hk : k.anyE i = if k.down then 12 else if 1 ≤ i ∧ i ≤ ids.length then 0 else 8 := by
  unfold Dk.anyE Dk.node?
  by_cases q : 1 ≤ i
  ·rw [if_pos q]
   by_cases q2 : i ≤ ids.length
   ·rw [List.getElem?_eq_getElem (show (i - 1).toNat < k.nodes.length by omega), if_pos (⟨q, q2⟩ : 1 ≤ i ∧ i ≤ ids.length)]
   ·rw [List.getElem?_eq_none (show k.nodes.length ≤ (i - 1).toNat by omega), if_neg (fun h : 1 ≤ i ∧ i ≤ ids.length => q2 h.2)]
  ·rw [if_neg q, if_neg (fun h : 1 ≤ i ∧ i ≤ ids.length => q h.1)]
 refine condI hA (fun h => ?_) (fun h => ?_)
 ·have h := zneT hA h
  have hdn : k.down = true := by
   cases q : k.down with
   | true => rfl
   | false => rw [he] at h; simp [upE, q] at h
  cbv
  exact retGI hA rfl [.v .nilp, .v (.int .i64 e)] gh (⟨_, _, rfl, by simp [anyP, hk, hdn], by rw [he, hk]; simp [upE, hdn], rfl⟩)
 ·have h := zneF hA h
  have hdn : k.down = false := by
   cases q : k.down with
   | false => rfl
   | true => rw [he] at h; simp [upE, q] at h
  cbv
  refine condI hA (fun h2 => ?_) (fun h2 => ?_)
  ·have h2 := zltT hA h2
   cbv
   exact retGI hA rfl [.v .nilp, .v (.int .i64 8)] gh (⟨_, _, rfl, by rw [anyP, hk, hdn, if_neg (f0 h2)]; rfl, by rw [hk, hdn, if_neg (f0 h2)]; rfl, rfl⟩)
  ·have h2 := zltF hA h2
   cbv
   refine gldI hA _ (hg) ?_
   cbv
   refine glenI hA ?_
   cbv
   refine condI hA (fun h3 => ?_) (fun h3 => ?_)
   ·have h3 := zltT hA h3
    cbv
    exact retGI hA rfl [.v .nilp, .v (.int .i64 8)] gh (⟨_, _, rfl, by rw [anyP, hk, hdn, if_neg (f1 h3)]; rfl, by rw [hk, hdn, if_neg (f1 h3)]; rfl, rfl⟩)
   ·have h3 := zltF hA h3
    cbv
    refine gldI hA _ (hg) ?_
    cbv
    obtain ⟨g1, g2, g3, g4⟩ := f2 h2 h3
    have hs := (zsub hA i 1).trans (w64_id g4)
    refine gixN hA hs g3 ?_
    cbv
    obtain ⟨id, hid⟩ : ∃ id, ids[(i - 1).toNat]? = some id := ⟨_, List.getElem?_eq_getElem g2⟩
    refine gldRN hA (y := .gp id 0) hs _ (.inr (.inr hnid)) (by rw [List.getElem?_map, hid]; rfl) ?_
    cbv
    exact retGI hA rfl [.v (.gp id 0), .v (.int .i64 0)] gh (⟨_, _, rfl, by rw [anyP, hk, hdn, if_pos g1, hid]; rfl, by rw [hk, hdn, if_pos g1]; rfl, rfl⟩)
theorem anyP_ok {k : Dk} {ids : List Nat} {i : Int} (hl : ids.length = k.nodes.length) (h : k.anyE i = 0) : ∃ id nd, k.down = false ∧ k.node? i = some nd ∧ 1 ≤ i ∧ ids[(i - 1).toNat]? = some id ∧ k.nodes[(i - 1).toNat]? = some nd ∧ anyP k ids i = .gp id 0 := by
 have h' := h
 unfold Dk.anyE at h'
 cases hd : k.down with
 | true => rw [hd] at h'; cases h'
 | false =>
  rw [hd, if_neg (by simp)] at h'
  split at h'
  ·rename_i nd hn
   have hn2 := hn
   unfold Dk.node? at hn2
   split at hn2
   ·rename_i q
    have hlt := (List.getElem?_eq_some_iff.1 hn2).1
    refine ⟨ids[(i - 1).toNat], nd, rfl, hn, q, List.getElem?_eq_getElem (by omega), hn2, ?_⟩
    unfold anyP
    rw [if_pos h, List.getElem?_eq_getElem (by omega)]
   ·cases hn2
  ·cases h'
structure Got (k : Dk) (ids : List Nat) (i : Int) (x : V) (id : Nat) (nd : Nd) : Prop where
 x : x = .gp id 0
 up : k.down = false
 node : k.node? i = some nd
 pos : 1 ≤ i
 id : ids[(i - 1).toNat]? = some id
 nd : k.nodes[(i - 1).toNat]? = some nd
theorem got_any {k : Dk} {ids : List Nat} {i : Int} (hl : ids.length = k.nodes.length) (h : k.anyE i = 0) : ∃ id nd, Got k ids i (anyP k ids i) id nd := by
 obtain ⟨id, nd, h1, h2, h3, h4, h5, h6⟩ := anyP_ok hl h
 exact ⟨id, nd, h6, h1, h2, h3, h4, h5⟩
theorem ofE_any {k : Dk} {i : Int} {dir : Bool} (h : k.anyE i ≠ 0) : k.ofE i dir = k.anyE i := by
 unfold Dk.ofE Dk.anyE at *
 split
 ·rfl
 ·rename_i hd
  rw [if_neg hd] at h
  split
  ·rename_i n hn; rw [hn] at h; exact absurd rfl h
  ·rfl
theorem gOfS (gh : GH) (lab : Lab) (p : Nat) (v : V) (k : Dk) (ids : List Nat) (i : Int) (dir : Bool) (hg : gh.get p = some (boxD v k)) (hn : NsV gh lab v ids) (hl : ids.length = k.nodes.length) (hat : ∀ i id nd, ids[i]? = some id → k.nodes[i]? = some nd → NodeAt gh lab i id nd) (h1 : 1 ≤ k.nodes.length) (hi : -9223372036854775808 ≤ i ∧ i ≤ 9223372036854775807) :
  FnG Tryz.prog 62 [.gp p 0, .int .i64 i, .bool dir] gh fun rs g => ∃ (x : V) (e : Int), rs = [.v x, .v (.int .i64 e)] ∧ (e = 0 → ∃ id nd, Got k ids i x id nd ∧ nd.dir = dir) ∧ e = k.ofE i dir ∧ (e ≠ 0 → x = .nilp) ∧ gh = g := by
 refine FnG.of' T_ok M_ok [] (fn := Tryz.f62) (by kernel_rfl) rfl rfl rfl rfl (Nat.le_of_ble_eq_true rfl) fun A hA => ?_
 cbv
 refine callGI hA (gAny gh lab p v k ids i hg hn hl h1 hi) ?_
 intro rs_ g_ h_
 obtain ⟨x, e, q_1, hx, he, q_2⟩ := h_
 subst q_1
 subst q_2
 cbv
 refine condI hA (fun h => ?_) (fun h => ?_)
 ·have h := zeqT hA h
  rw [he] at h
  obtain ⟨id, nd, hG⟩ := got_any hl h
  obtain ⟨vb, ve, wb, we, vl, hbox, _⟩ := hat _ _ _ hG.id hG.nd
  rw [hG.x] at hx
  have hof : k.ofE i dir = if nd.dir = dir then 0 else 10 := by unfold Dk.ofE; rw [hG.up, if_neg (by simp), hG.node]
  have hG2 : Got k ids i (.gp id 0) id nd := { hG with x := rfl }
  subst hx
  cbv
  refine gldI hA _ (hbox) ?_
  cbv
  refine condI hA (fun h2 => ?_) (fun h2 => ?_)
  ·have h2 : nd.dir ≠ dir := zbeqF hA (znotT hA h2)
   cbv
   exact retGI hA rfl [.v .nilp, .v (.int .i64 10)] gh (⟨_, _, rfl, fun h => (nomatch h), by rw [hof, if_neg h2], fun _ => rfl, rfl⟩)
  ·have h2 : nd.dir = dir := zbeqT hA (znotF hA h2)
   cbv
   exact retGI hA rfl [.v (.gp id 0), .v (.int .i64 e)] gh (⟨_, _, rfl, fun _ => ⟨id, nd, hG2, h2⟩, by rw [he, h, hof, if_pos h2], fun q => absurd (he.trans h) q, rfl⟩)
 ·have h := zeqF hA h
  have hne : k.anyE i ≠ 0 := he ▸ h
  cbv
  exact retGI hA rfl [.v x, .v (.int .i64 e)] gh (⟨_, _, rfl, fun q => absurd q h, by rw [he, ofE_any hne], fun _ => by rw [hx]; unfold anyP; rw [if_neg hne], rfl⟩)
theorem gOf (gh : GH) (lab : Lab) (p : Nat) (v : V) (k : Dk) (ids : List Nat) (i : Int) (dir : Bool) (hg : gh.get p = some (boxD v k)) (hn : NsV gh lab v ids) (hl : ids.length = k.nodes.length) (hat : ∀ i id nd, ids[i]? = some id → k.nodes[i]? = some nd → NodeAt gh lab i id nd) (h1 : 1 ≤ k.nodes.length) (hi : -9223372036854775808 ≤ i ∧ i ≤ 9223372036854775807) :
  FnG Tryz.prog 62 [.gp p 0, .int .i64 i, .bool dir] gh fun rs g => ∃ (x : V) (e : Int), rs = [.v x, .v (.int .i64 e)] ∧ (e = 0 → ∃ id nd, Got k ids i x id nd ∧ nd.dir = dir) ∧ e = k.ofE i dir ∧ gh = g :=
 (gOfS gh lab p v k ids i dir hg hn hl hat h1 hi).mono fun rs g ⟨x, e, q1, q2, q3, _, q4⟩ => ⟨x, e, q1, q2, q3, q4⟩
end Go.Proofs.YthioccbgjkbmdaaGreat.AM
