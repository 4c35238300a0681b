/-
  Contracts: what goes wrong; what is found, and read.
-/
import Derived.Test.YthioccbgjkbmdaaM16d635e0f8
import Derived.Test.YthioccbgjkbmdaaM17754d1613
import Derived.Shelf.SlMaps.Clone
set_option linter.unusedVariables false
set_option linter.unusedSimpArgs false
namespace Go.Proofs.Ythioccbgjkbmdaa.AM
open Go Go.RowKit
set_option maxRecDepth 100000
set_option maxHeartbeats 4000000

theorem gOps {gh : GH} {lab : Lab} {p : Nat} {k : Dk} (h : DkIn gh lab p k) : FnG Try.prog 25 [.gp p 0] gh fun rs g => rs = [.v (.int .i64 k.ops)] ∧ gh = g := by
  obtain ⟨⟨hd, hp, v, ids, hg, _⟩, _⟩ := h
  refine FnG.of' T_ok M_ok [] (fn := Try.f25) (by kernel_rfl) rfl rfl rfl rfl (Nat.le_of_ble_eq_true rfl) fun A hA => ?_
  cbv
  refine gldI hA _ (hg) ?_
  cbv
  exact retGI hA rfl [.v (.int .i64 k.ops)] gh (⟨rfl, rfl⟩) (by first | exact ⟨rfl, trivial⟩ | exact ⟨rfl, rfl, trivial⟩ | exact ⟨rfl, rfl, rfl, trivial⟩ | trivial)
theorem gDown {gh : GH} {lab : Lab} {p : Nat} {k : Dk} (h : DkIn gh lab p k) : FnG Try.prog 21 [.gp p 0] gh fun rs g => rs = [.v (.bool k.down)] ∧ gh = g := by
  obtain ⟨⟨hd, hp, v, ids, hg, _⟩, _⟩ := h
  refine FnG.of' T_ok M_ok [] (fn := Try.f21) (by kernel_rfl) rfl rfl rfl rfl (Nat.le_of_ble_eq_true rfl) fun A hA => ?_
  cbv
  refine gldI hA _ (hg) ?_
  cbv
  exact retGI hA rfl [.v (.bool k.down)] gh (⟨rfl, rfl⟩) (by first | exact ⟨rfl, trivial⟩ | exact ⟨rfl, rfl, trivial⟩ | exact ⟨rfl, rfl, rfl, trivial⟩ | trivial)
theorem gTell {gh : GH} {p o : Nat} {l : List V} {d : V} (hg : gh.get p = some (.box l)) (ho : o + 2 ≤ l.length) (n : Int) (i : Bool) (a : Int) (hi : l[o]? = some (.bool i)) (ha : l[o + 1]? = some (.int .i64 a)) : FnG Try.prog 58 [d, .gp p o, .int .i64 n] gh fun rs g => ∃ e : Int, rs = [.v (.int .i64 e)] ∧ e = (if n < 0 then 2 else 0) ∧ g = if n < 0 then gh else gh.set p (.box (l.take o ++ [.bool true, .int .i64 n] ++ l.drop (o + 2))) := by
  refine FnG.of' T_ok M_ok [] (fn := Try.f58) (by kernel_rfl) rfl rfl rfl rfl (Nat.le_of_ble_eq_true rfl) fun A hA => ?_
  cbv
  refine condI hA (fun h => ?_) (fun h => ?_)
  · have h := zltT hA h
    cbv
    exact retGI hA rfl [.v (.int .i64 2)] gh (⟨_, rfl, by rw [if_pos h], by rw [if_pos h]⟩) (by first | exact ⟨rfl, trivial⟩ | exact ⟨rfl, rfl, trivial⟩ | exact ⟨rfl, rfl, rfl, trivial⟩ | trivial)
  · have h := zltF hA h
    cbv
    refine gstI hA l hg ?_ (hle := ho)
    intro g hgg
    cbv
    exact retGI hA rfl [.v (.int .i64 0)] g (⟨_, rfl, by rw [if_neg h], by rw [if_neg h]; exact hgg⟩) (by first | exact ⟨rfl, trivial⟩ | exact ⟨rfl, rfl, trivial⟩ | exact ⟨rfl, rfl, rfl, trivial⟩ | trivial)
theorem set_at {l : List V} {o : Nat} {v : V} (h : o < l.length) : l.take o ++ v :: l.drop (o + 1) = l.set o v := by
  rw [List.set_eq_take_append_cons_drop, if_pos h]
theorem box_put {l : List V} {o : Nat} {v v' : V} (h : o < l.length) (e : v = v') : l.take o ++ [v] ++ l.drop (o + 1) = l.set o v' := by
  subst e; rw [List.append_assoc]; exact set_at h
theorem set_same {l : List V} {o : Nat} {v : V} (h : l[o]? = some v) : l.set o v = l := by
  obtain ⟨h1, rfl⟩ := List.getElem?_eq_some_iff.1 h
  exact List.set_getElem_self h1
/-- 'next' of what is told. -/
theorem gNext {gh : GH} {p o : Nat} {l : List V} (t : Told) (hg : gh.get p = some (.box l)) (hi : l[o]? = some (.bool t.is)) (ha : l[o + 1]? = some (.int .i64 t.after)) : FnG Try.prog 44 [.gp p o] gh fun rs g => ∃ c : Bool, rs = [.v (.bool c)] ∧ c = t.hit ∧ g.next = gh.next ∧ (∀ x, x ≠ p → g.get x = gh.get x) ∧ g.get p = some (.box ((l.set o (.bool t.next.is)).set (o + 1) (.int .i64 t.next.after))) := by
  have hlen : o + 1 < l.length := (List.getElem?_eq_some_iff.1 ha).1
  obtain ⟨b, hb⟩ : ∃ b, b = t.is := ⟨_, rfl⟩
  obtain ⟨n, hn⟩ : ∃ n, n = t.after := ⟨_, rfl⟩
  have hi0 := hi
  have ha0 := ha
  rw [← hb] at hi
  rw [← hn] at ha
  refine FnG.of' T_ok M_ok [] (fn := Try.f44) (by kernel_rfl) rfl rfl rfl rfl (Nat.le_of_ble_eq_true rfl) fun A hA => ?_
  cbv
  refine gldI hA l hg ?_ (hv := hi)
  cbv
  refine condI hA (fun h => ?_) (fun h => ?_)
  · have h : t.is = false := hb ▸ znotT hA h
    cbv
    exact retGI hA rfl [.v (.bool false)] gh (⟨_, rfl, by simp [Told.hit, h], rfl, fun _ _ => rfl, by rw [show t.next = t from by simp [Told.next, h], set_same hi0, set_same ha0]; exact hg⟩) (by first | exact ⟨rfl, trivial⟩ | exact ⟨rfl, rfl, trivial⟩ | exact ⟨rfl, rfl, rfl, trivial⟩ | trivial)
  · have h : t.is = true := hb ▸ znotF hA h
    cbv
    refine gldI hA l hg ?_ (hv := ha)
    cbv
    refine condI hA (fun h2 => ?_) (fun h2 => ?_)
    · have h2 : 0 < t.after := hn ▸ zltT hA h2
      cbv
      refine gldI hA l hg ?_ (hv := ha)
      cbv
      refine gstI hA l hg ?_ (hle := hlen)
      intro g hgg
      cbv
      exact retGI hA rfl [.v (.bool false)] g (⟨_, rfl, by simp [Told.hit, h, h2], by rw [hgg]; rfl, fun x hx => by rw [hgg]; simp [hx], by rw [hgg, show t.next = { t with after := w64 (t.after - 1) } from by simp [Told.next, h, h2]]; simp only [GH.set_get, if_true]; rw [set_same hi0]; exact congrArg (fun q => some (GObj.box q)) (box_put hlen (congrArg (V.int .i64) ((zsub hA n 1).trans (by rw [hn]))))⟩) (by first | exact ⟨rfl, trivial⟩ | exact ⟨rfl, rfl, trivial⟩ | exact ⟨rfl, rfl, rfl, trivial⟩ | trivial)
    · have h2 : ¬ 0 < t.after := hn ▸ zltF hA h2
      cbv
      refine gstI hA l hg ?_ (hle := (show o + 1 ≤ l.length by omega))
      intro g hgg
      cbv
      exact retGI hA rfl [.v (.bool true)] g (⟨_, rfl, by simp [Told.hit, h, h2], by rw [hgg]; rfl, fun x hx => by rw [hgg]; simp [hx], by rw [hgg, show t.next = { t with is := false } from by simp [Told.next, h, h2]]; simp only [GH.set_get, if_true]; rw [set_same (l := l.set o _) (by rw [List.getElem?_set_ne (by omega)]; exact ha0)]; exact congrArg (fun q => some (GObj.box q)) (box_put (by omega) rfl)⟩) (by first | exact ⟨rfl, trivial⟩ | exact ⟨rfl, rfl, trivial⟩ | exact ⟨rfl, rfl, rfl, trivial⟩ | trivial)
end Go.Proofs.Ythioccbgjkbmdaa.AM

/-
  Contracts: an entry's node; a file's bytes.
-/
set_option linter.unusedVariables false
set_option linter.unusedSimpArgs false
namespace Go.Proofs.Ythioccbgjkbmdaa.AM
open Go Go.RowKit
set_option maxRecDepth 100000
set_option maxHeartbeats 4000000

theorem zeroI64 : ∃ zv, (∀ w, (zeroValue 3).run Try.prog w = .ok zv w) ∧ ∀ (ok : Oks) (w : World), Rep ok w (.int .i64 0) zv :=
  ⟨.int .i64 0, fun w => by
    have h : (Try.prog.info? 3).map (·.zero) = some (some (.int .i64 0)) := by kernel_rfl
    obtain ⟨i, h1, h2⟩ := Option.map_eq_some_iff.1 h
    simp [zeroValue, typeInfo, program, Sem.run, h1, h2], fun _ _ => .int _ _⟩
theorem uMap : Try.prog.underlying 76 = some (.map 9 3) := by kernel_rfl
theorem uStr : Try.prog.underlying 9 = some .string := by kernel_rfl
theorem glookN {A : Prim} {R : List (Nat × AObj) → List D → Prop} (hA : A = std Try.prog R) {m x : Operand} {gh : GH} {id clock : Nat} {t : List (Nat × Bs × Nat)} {k : Bs} {r : V} {K : V → Prop} {en : List (Bs × Nat)} (hg : gh.get id = some (.map (encE t) clock)) (hok : MpOk t clock en) (hr : (match enGet en k with
      | some i => V.tup [.int .i64 i, .bool true]
      | none => .tup [.int .i64 0, .bool false]) = r) (hK : K r) : A.gq (.lookup 76 m x true) [.gm id, .str k] gh K :=
  glookI hA hg (strKeys_enc t) ((congrArg K ((look_enc hok k (.int .i64 0)).trans hr)).mpr hK) uMap uStr zeroI64
theorem gFind {gh : GH} {lab : Lab} {p : Nat} {k : Dk} (h : DkIn gh lab p k) (i : Int) (hi : I64 i) (s : Bs) : FnG Try.prog 13 [.gp p 0, .int .i64 i, .str s] gh fun rs g => ∃ j e : Int, rs = [.v (.int .i64 j), .v (.int .i64 e)] ∧ j = (k.findE i s).1 ∧ e = (k.findE i s).2 ∧ gh = g := by
  obtain ⟨v, ids, _, _, _, hat, ho⟩ := gOf' h i true hi
  refine FnG.of' T_ok M_ok [] (fn := Try.f13) (by kernel_rfl) rfl rfl rfl rfl (Nat.le_of_ble_eq_true rfl) fun A hA => ?_
  cbv
  refine callGI hA (ho) ?_
  intro rs_ g_ h_
  obtain ⟨x, e, q_1, hx, he, q_2⟩ := h_
  subst q_1
  subst q_2
  cbv
  refine condI hA (fun h1 => ?_) (fun h1 => ?_)
  · have h1 := zneT hA h1
    have q : k.findE i s = (0, e) := by unfold Dk.findE; rw [if_pos (he ▸ h1), he]
    cbv
    exact retGI hA rfl [.v (.int .i64 0), .v (.int .i64 e)] gh (⟨_, _, rfl, by rw [q], by rw [q], rfl⟩) (by first | exact ⟨rfl, trivial⟩ | exact ⟨rfl, rfl, trivial⟩ | exact ⟨rfl, rfl, rfl, trivial⟩ | trivial)
  · have h1 := zneF hA h1
    obtain ⟨id, nd, hG, hdir⟩ := hx h1
    obtain ⟨vb, ve, wb, we, vl, hbox, _, _, _, _, hwe, _⟩ := hat _ _ _ hG.id hG.nd
    rw [hdir] at hwe
    obtain ⟨mid, t, c, rfl, hlm, hgm, hok⟩ := hwe
    have q : k.findE i s = match enGet nd.seen.en s with
      | some i => ((i : Int), 0)
      | none => (0, 8) := by
      unfold Dk.findE; rw [if_neg (fun q => q (he ▸ h1)), hG.node]; rfl
    have hx2 := hG.x
    subst hx2
    cbv
    refine gldI hA _ (hbox) ?_
    cbv
    cases hget : enGet nd.seen.en s with
    | none =>
      rw [hget] at q
      refine glookN hA (r := .tup [.int .i64 0, .bool false]) hgm hok (by rw [hget]) ?_
      cbv
      refine condT hA (by rw [hA]; rfl) ?_
      cbv
      exact retGI hA rfl [.v (.int .i64 0), .v (.int .i64 8)] gh (⟨_, _, rfl, by rw [q], by rw [q], rfl⟩) (by first | exact ⟨rfl, trivial⟩ | exact ⟨rfl, rfl, trivial⟩ | exact ⟨rfl, rfl, rfl, trivial⟩ | trivial)
    | some j =>
      rw [hget] at q
      obtain ⟨n, hn⟩ : ∃ n : Int, n = (j : Nat) := ⟨_, rfl⟩
      refine glookN hA (r := .tup [.int .i64 n, .bool true]) hgm hok (by rw [hget, hn]) ?_
      cbv
      refine condF hA (by rw [hA]; rfl) ?_
      cbv
      exact retGI hA rfl [.v (.int .i64 n), .v (.int .i64 0)] gh (⟨_, _, rfl, by rw [q]; exact natEq hn, by rw [q], rfl⟩) (by first | exact ⟨rfl, trivial⟩ | exact ⟨rfl, rfl, trivial⟩ | exact ⟨rfl, rfl, rfl, trivial⟩ | trivial)
/-- What is read. -/
def Dk.readM (k : Dk) (i a n : Int) : Bs × Int := if k.ofE i false ≠ 0 then ([], k.ofE i false) else match k.node? i with
  | some nd => if a < 0 ∨ n < 0 ∨ nd.seen.b.length < a ∨ nd.seen.b.length - a < n then ([], 13) else ((nd.seen.b.drop a.toNat).take n.toNat, 0)
  | none => ([], 8)
theorem gRead {gh : GH} {lab : Lab} {p : Nat} {k : Dk} (h : DkIn gh lab p k) (i a n : Int) (hi : I64 i) (ha : I64 a) (hn : I64 n) (hlen : ∀ nd ∈ k.nodes, nd.seen.b.length ≤ 140737488355328) : FnG Try.prog 28 [.gp p 0, .int .i64 i, .int .i64 a, .int .i64 n] gh fun rs g => ∃ (r : List V) (e : Int), rs = [.v (.slice r), .v (.int .i64 e)] ∧ r = bytesV (k.readM i a n).1 ∧ e = (k.readM i a n).2 ∧ gh = g := by
  obtain ⟨v, ids, _, _, _, hat, ho⟩ := gOf' h i false hi
  refine FnG.of' T_ok M_ok [1000027, 1000055] (fn := Try.f28) (by kernel_rfl) rfl rfl rfl rfl (Nat.le_of_ble_eq_true rfl) fun A hA => ?_
  cbv
  refine callGI hA (ho) ?_
  intro rs_ g_ h_
  obtain ⟨x, e, q_1, hx, he, q_2⟩ := h_
  subst q_1
  subst q_2
  cbv
  refine condI hA (fun h1 => ?_) (fun h1 => ?_)
  · have h1 := zneT hA h1
    have q : k.readM i a n = ([], e) := by unfold Dk.readM; rw [if_pos (he ▸ h1), he]
    cbv
    exact retGI hA rfl [.v (.slice []), .v (.int .i64 e)] gh (⟨_, _, rfl, by rw [q]; rfl, by rw [q], rfl⟩) (by first | exact ⟨rfl, trivial⟩ | exact ⟨rfl, rfl, trivial⟩ | exact ⟨rfl, rfl, rfl, trivial⟩ | trivial)
  · have h1 := zneF hA h1
    obtain ⟨id, nd, hG, hdir⟩ := hx h1
    obtain ⟨vb, ve, wb, we, vl, hbox, _, _, _, hwb, _⟩ := hat _ _ _ hG.id hG.nd
    have hln := hlen nd (List.mem_of_getElem? hG.nd)
    obtain ⟨b, hb⟩ : ∃ b, b = nd.seen.b := ⟨_, rfl⟩
    rw [← hb] at hln
    have q : k.readM i a n = if a < 0 ∨ n < 0 ∨ b.length < a ∨ b.length - a < n then ([], 13) else ((b.drop a.toNat).take n.toNat, 0) := by
      unfold Dk.readM; rw [if_neg (fun q => q (he ▸ h1)), hG.node, hb]
    obtain ⟨l, hl⟩ : ∃ l, l = bytesV b := ⟨_, rfl⟩
    have his : SlIs gh 1 l wb := by rw [hl, hb]; exact hwb.is
    have hll : l.length = b.length := by rw [hl, bytesV_len]
    have hx2 := hG.x
    subst hx2
    have bad : (a < 0 ∨ n < 0 ∨ b.length < a ∨ b.length - a < n) → ∃ (r : List V) (e : Int), [Rs.v (.slice []), Rs.v (.int .i64 13)] = [.v (.slice r), .v (.int .i64 e)] ∧ r = bytesV (k.readM i a n).1 ∧ e = (k.readM i a n).2 ∧ gh = gh := fun hb => ⟨_, _, rfl, by rw [q, if_pos hb]; rfl, by rw [q, if_pos hb], rfl⟩
    have arith : ¬ a < 0 → ¬ n < 0 → ¬ (b.length : Int) < a → ¬ (b.length : Int) - a < n → (0 ≤ a ∧ a ≤ a + n ∧ a + n ≤ (l.length : Nat)) ∧ I64 (a + n) ∧ ¬ (a < 0 ∨ n < 0 ∨ b.length < a ∨ b.length - a < n) := fun p1 p2 p3 p4 => by
      unfold I64 at *; omega
    have arith2 : ¬ a < 0 → I64 ((b.length : Int) - a) := fun p1 => by unfold I64 at *; omega
    have arith3 : ¬ a < 0 → ¬ n < 0 → ¬ (b.length : Int) < a → ¬ (b.length : Int) - a < n → (l.take (a + n).toNat).drop a.toNat = bytesV ((b.drop a.toNat).take n.toNat) := fun p1 p2 p3 p4 => by
      rw [hl, bytesV_take, bytesV_drop, show (a + n).toNat = a.toNat + n.toNat from by omega, List.drop_take, Nat.add_sub_cancel_left]
    have hfl : ∀ x ∈ l, x.flat.length = 1 := bytesV_flat hl
    cbv
    refine gldI hA _ (hbox) ?_
    cbv
    refine weakA hA _ (weak_sl _ 26 1 rfl rfl his) ?_
    cbv
    have hz : A.lenL l = (b.length : Int) := by rw [hA]; simp only [std]; rw [hll]
    refine condI hA (fun c1 => ?_) (fun c1 => ?_)
    · have c1 := zltT hA c1
      cbv
      exact retGI hA rfl [.v (.slice []), .v (.int .i64 13)] gh (bad (.inl c1)) (by first | exact ⟨rfl, trivial⟩ | exact ⟨rfl, rfl, trivial⟩ | exact ⟨rfl, rfl, rfl, trivial⟩ | trivial)
    · have c1 := zltF hA c1
      cbv
      refine condI hA (fun c2 => ?_) (fun c2 => ?_)
      · have c2 := zltT hA c2
        cbv
        exact retGI hA rfl [.v (.slice []), .v (.int .i64 13)] gh (bad (.inr (.inl c2))) (by first | exact ⟨rfl, trivial⟩ | exact ⟨rfl, rfl, trivial⟩ | exact ⟨rfl, rfl, rfl, trivial⟩ | trivial)
      · have c2 := zltF hA c2
        cbv
        refine condI hA (fun c3 => ?_) (fun c3 => ?_)
        · have c3 : (b.length : Int) < a := (congrArg (· < a) hz).mp (zltT hA c3)
          cbv
          exact retGI hA rfl [.v (.slice []), .v (.int .i64 13)] gh (bad (.inr (.inr (.inl c3)))) (by first | exact ⟨rfl, trivial⟩ | exact ⟨rfl, rfl, trivial⟩ | exact ⟨rfl, rfl, rfl, trivial⟩ | trivial)
        · have c3 : ¬ (b.length : Int) < a := fun h => zltF hA c3 ((congrArg (· < a) hz).mpr h)
          have hsu : A.wrap .i64 (A.sub (A.lenL l) a) = (b.length : Int) - a := (zsub hA _ _).trans (by rw [hz]; exact w64_id (arith2 c1))
          cbv
          refine condI hA (fun c4 => ?_) (fun c4 => ?_)
          · have c4 : (b.length : Int) - a < n := (congrArg (· < n) hsu).mp (zltT hA c4)
            cbv
            exact retGI hA rfl [.v (.slice []), .v (.int .i64 13)] gh (bad (.inr (.inr (.inr c4)))) (by first | exact ⟨rfl, trivial⟩ | exact ⟨rfl, rfl, trivial⟩ | exact ⟨rfl, rfl, rfl, trivial⟩ | trivial)
          · have c4 : ¬ (b.length : Int) - a < n := fun h => zltF hA c4 ((congrArg (· < n) hsu).mpr h)
            obtain ⟨f1, f2, f3⟩ := arith c1 c2 c3 c4
            have hsum : A.wrap .i64 (A.add a n) = a + n := (zadd hA _ _).trans (w64_id f2)
            cbv
            refine gldI hA _ (hbox) ?_
            cbv
            refine weakA hA _ (weak_sl _ 50 1 rfl rfl his) ?_
            cbv
            refine sizedI hA hfl ?_
            refine subLN hA (by
              show 0 ≤ a ∧ a ≤ A.wrap .i64 (A.add a n) ∧ A.wrap .i64 (A.add a n) ≤ _
              rw [hsum]; exact f1) ?_
            intro r hr
            have hr : r = bytesV ((b.drop a.toNat).take n.toNat) := hr.trans (by
              show (l.take (A.wrap .i64 (A.add a n)).toNat).drop a.toNat = _
              rw [hsum]; exact arith3 c1 c2 c3 c4)
            cbv
            refine callI hA (cClone r (bytesV_flat hr) (by rw [hr, bytesV_len]; simp; omega)) ?_
            intro rs_ h_
            subst h_
            cbv
            exact retGI hA rfl [.v (.slice r), .v (.int .i64 0)] gh (⟨_, _, rfl, by rw [q, if_neg f3]; exact hr, by rw [q, if_neg f3], rfl⟩) (by first | exact ⟨rfl, trivial⟩ | exact ⟨rfl, rfl, trivial⟩ | exact ⟨rfl, rfl, rfl, trivial⟩ | trivial)
end Go.Proofs.Ythioccbgjkbmdaa.AM

/-
  Contracts: what a node has, once more.
-/
set_option linter.unusedVariables false
set_option linter.unusedSimpArgs false
namespace Go.Proofs.Ythioccbgjkbmdaa.AM
open Go Go.RowKit
set_option maxRecDepth 100000
set_option maxHeartbeats 4000000

theorem cCloneO (l : List V) (hs : ∀ x ∈ l, x.flat.length = 1) (hl : l.length ≤ 140737488355328) : CallR Try.prog 45 [.slice l] fun rs => rs = [.o 1 l] := by
  refine .of _ rfl ?_
  refine FnR.of' T_ok M_ok (fn := Try.f45) (by kernel_rfl) rfl rfl rfl rfl (Nat.le_of_ble_eq_true rfl) fun A hA => ?_
  cbv
  by_cases h : l = []
  · subst h
    refine nilqU hA ?_
    cbv
    constructor
    · refine retI hA ?_
      exact ⟨rfl, trivial⟩
    · refine sizedI hA (by simp) ?_
      cbv
      refine roomI hA (by simp) ?_
      cbv
      refine retI hA ?_
      exact ⟨rfl, congrArg (fun q => some (AObj.row 1 q true)) (by rw [hA]; rfl), trivial⟩
  · refine nilqI hA h ?_
    cbv
    refine sizedI hA hs ?_
    cbv
    refine roomI hA (by simpa using hl) ?_
    cbv
    refine retI hA ?_
    exact ⟨rfl, congrArg (fun q => some (AObj.row 1 q true)) (by rw [hA]; rfl), trivial⟩
set_option maxHeartbeats 2000000 in
theorem mapsClone_run (b : Nat) (es : Array MapEntry) (clock : Nat) (w : World) (hb : w.heap[b]? = some (.map es clock)) :
    Calls Try.prog 93 #[.map (some b)] w fun e w' => e = .returned (.map (some w.heap.size)) ∧ w' = w.alloc (.map es clock) := by
  have hq := fun w => Go.Proofs.run_eql_map_nil_sl (P := Try.prog) w 76 _ _ (some b) uMap
  go_enter Try.func93, Try.ntmps93
  go_wp2
  rw [run_callFunc_extern Try.func96 (by kernel_rfl) (by kernel_rfl) (by kernel_rfl) (e := Extern.MapsClone.clone) (by kernel_rfl), Go.Proofs.run_maps_clone_sl w 76 hb]
  simp only [Result.andThen]
  rw [Oper.upon_value]
  go_wp2
  rw [Go.Proofs.run_typeAssert_map_sl _ 76 _ _ _ _ uMap]
  simp only [Result.andThen]
  rw [Oper.upon_value]
  go_wp2
  go_ret
  exact ⟨rfl, rfl⟩
theorem gMapsClone {gh : GH} {id clock : Nat} {es : List (Nat × V × V)} (hg : gh.get id = some (.map es clock)) : FnG Try.prog 93 [.gm id] gh fun rs g => rs = [.v (.gm gh.next)] ∧ g = gh.new (.map es clock) := by
  refine ⟨⟨_, Try.func93, rfl, by kernel_rfl⟩, fun w ok vs hok gl hl hr => ?_⟩
  match vs, hl, hr with
  | [v], _, hr =>
    obtain ⟨b, hn, hb, rfl⟩ := rep_gm (hr 0 (by simp) (by simp))
    obtain ⟨ents, h2, h5, h3, h4⟩ := map_of gl hg hb
    refine (mapsClone_run b ents clock w h2).mono fun e w' ⟨he, hw⟩ => ?_
    subst hw
    have hs : Same ok (ok.bind (some w.heap.size) 0) w (w.alloc (.map ents clock)) := ⟨fun _ _ h => h, fun k o h => by simp only [World.cell?, heap_alloc_old w _ (hok _ _ h)], Oks.bind_ext _ _ _⟩
    have glN := gl.new (w' := w.alloc (.map ents clock)) (b := some w.heap.size) (cap := 0) (o := .map es clock) hok (fun k hk => heap_alloc_old w _ hk) (by simp) (fun bb h => by cases h; exact Nat.le_refl _) ⟨w.heap.size, ents, Oks.bind_blk _ _ _, heap_alloc_new w _, fun o h => by have := hok _ _ (h : ok w.heap.size o); omega, h3, fun i hi hi' => ⟨(h4 i hi hi').1, (h4 i hi hi').2.1.mono hs, (h4 i hi hi').2.2.mono hs⟩⟩
    refine ⟨[.map (some w.heap.size)], [none], ok.bind (some w.heap.size) 0, [.v (.gm gh.next)], _, ⟨rfl, rfl⟩, he, frame_alloc _ _ _, hs, fun k o h => ⟨by have := hok _ _ (h : ok k o); simp; omega, .inl h⟩, rfl, rfl, fun i hi hi' hi'' => ?_, fun i j b hi => ?_, glN, fun k h => ⟨occG_new gl (fun bb h => by cases h; exact Nat.le_refl _) h, fun i hi => ?_⟩⟩
    · match i, hi, hi', hi'' with
      | 0, _, _, _ => exact ⟨rfl, .gm _ _ (by rw [gl.next]; exact Nat.lt_succ_self _) (by rw [gl.next]; exact Oks.bind_blk _ _ _)⟩
    · match i, hi with
      | 0, hi => simp at hi
      | n + 1, hi => simp at hi
    · match i, hi with
      | 0, hi => simp at hi
      | n + 1, hi => simp at hi
set_option maxHeartbeats 2000000 in
theorem mapsCloneNil_run (w : World) : Calls Try.prog 93 #[.map none] w fun e w' => e = .returned (.map none) ∧ w' = w := by
  have hq := fun w => Go.Proofs.run_eql_map_nil_sl (P := Try.prog) w 76 _ _ none uMap
  go_enter Try.func93, Try.ntmps93
  go_wp2
  go_ret
  exact ⟨rfl, rfl⟩
theorem cMapsCloneNil : CallR Try.prog 93 [.nilmap] fun rs => rs = [.v .nilmap] := by
  refine .of _ rfl ⟨⟨_, Try.func93, rfl, by kernel_rfl⟩, fun w ok vs hok hl hr => ?_⟩
  match vs, hl, hr with
  | [v], _, hr =>
    have hv : v = .map none := by have := hr 0 (by simp) (by simp); cases this; rfl
    subst hv
    refine (mapsCloneNil_run w).mono fun e w' ⟨he, hw⟩ => ?_
    subst hw
    refine ⟨[.map none], [none], ok, he, .refl _ _, fun _ _ h => h, .refl _, fun _ _ h => .inl h, rfl, rfl, fun i hi hi' hi'' => ?_, fun i j b hi => ?_⟩
    · match i, hi, hi', hi'' with
      | 0, _, _, _ => exact ⟨rfl, .nilmap⟩
    · match i, hi with
      | 0, hi => simp at hi
      | n + 1, hi => simp at hi
/-- The bytes of a pair are told as pure data. -/
theorem weak_slA (S : St) (t z : Nat) {x y : V} {l : List V} {gh : GH} {pub : List Nat} (hh : look S.ob hk = some (.heap gh pub)) (ht : S.get t = .v (.agg [x, y])) (hx : SlIs gh z l x) (hy : y.cell = true) : Weak S (S.put (some t) (.v (.agg [.slice l, y]))) := fun G E ok a w c => by
  have gl : GlOk ok gh w := (c.obj _ _ hh).2
  have h1 := c.slot t
  rw [ht] at h1
  obtain ⟨cs, he, h2, h3, h4⟩ := rep_agg (repD_v h1)
  refine ⟨E, ok, c.refine ?_⟩
  rw [he]
  match cs, h2, h4 with
  | [u, v], _, h4 =>
    refine .v _ _ (.agg _ [u, v] rfl (fun i hi => ?_) fun i hi hi' => ?_)
    · match i, hi with
      | 0, _ => rfl
      | 1, _ => exact hy
    · match i, hi, hi' with
      | 0, _, _ => exact hx.rep gl (h4 0 (by simp) (by simp))
      | 1, _, _ => exact h4 1 (by simp) (by simp)
/-- A copy of a content. -/
structure Copied (gh g : GH) (dir : Bool) (b : Bs) (en : List (Bs × Nat)) (n : Int) (we : V) : Prop where
  n : n = (b.length : Nat)
  old : ∀ x, x < gh.next → g.get x = gh.get x
  b : g.get gh.next = some (.arow 1 (bytesV b))
  m : match dir with
    | true => we = .gm (gh.next + 1) ∧ g.next = gh.next + 2 ∧ ∃ t c, g.get (gh.next + 1) = some (.map (encE t) c) ∧ MpOk t c en
    | false => we = .nilmap ∧ en = [] ∧ g.next = gh.next + 1
theorem gClone {gh : GH} {lab : Lab} {r r' : Nat × Nat} {vb ve : V} {b : Bs} {en : List (Bs × Nat)} {dir : Bool} (hd : Dom gh lab) (hb : ByV gh lab r vb b) (he : MpV gh lab r' dir ve en) (hl : b.length ≤ 140737488355328) : FnG Try.prog 81 [.agg [vb, ve]] gh fun rs g => ∃ (n : Int) (we : V), rs = [.v (.agg [.gs gh.next n, we])] ∧ Copied gh g dir b en n we := by
  obtain ⟨l, hll⟩ : ∃ l, l = bytesV b := ⟨_, rfl⟩
  have his : SlIs gh 1 l vb := hll ▸ hb.is
  have hcell : ve.cell = true := by
    cases dir with
    | true => obtain ⟨_, _, _, rfl, _⟩ := he; rfl
    | false => obtain ⟨rfl, _⟩ := he; rfl
  obtain ⟨nx, hnx⟩ : ∃ nx, nx = gh.next := ⟨_, rfl⟩
  obtain ⟨n, hn⟩ : ∃ n : Int, n = (l.length : Nat) := ⟨_, rfl⟩
  have hnb : n = (b.length : Nat) := by rw [hn, hll, bytesV_len]
  refine FnG.of' T_ok M_ok [1000001, 1000008] (fn := Try.f81) (by kernel_rfl) rfl rfl rfl rfl (Nat.le_of_ble_eq_true rfl) fun A hA => ?_
  cbv
  refine weakA hA _ (weak_slA _ 0 1 rfl rfl his hcell) ?_
  cbv
  refine chkI hA (by kernel_rfl) ?_
  cbv
  refine callI hA (cCloneO l (bytesV_flat hll) (by rw [hll, bytesV_len]; exact hl)) ?_
  intro rs_ h_
  subst h_
  cbv
  obtain ⟨g1, hg1⟩ : ∃ g1, g1 = gh.new (.arow 1 l) := ⟨_, rfl⟩
  refine weakA hA _ (weak_pubN _ 5 hg1 hnx hn rfl rfl rfl) ?_
  have hold : ∀ x, x < gh.next → g1.get x = gh.get x := fun x hx => by rw [hg1]; simp [Nat.ne_of_lt hx]
  have hb1 : g1.get gh.next = some (.arow 1 (bytesV b)) := by rw [hg1, hll]; simp
  cases dir with
  | true =>
    obtain ⟨mid, t, c, rfl, hlm, hgm, hok⟩ := he
    cbv
    refine callGI hA (gMapsClone ((hold mid (hd.lt hlm)).trans hgm)) ?_
    intro rs_ g2 h_
    obtain ⟨q_1, hg2⟩ := h_
    subst q_1
    cbv
    have e1 : g1.next = gh.next + 1 := by rw [hg1]; rfl
    exact retGI hA rfl [.v (.agg [.gs nx n, .gm g1.next])] g2 (⟨n, .gm g1.next, by rw [hnx], hnb, fun x hx => by rw [hg2]; simp [e1, Nat.ne_of_lt (Nat.lt_succ_of_lt hx), hold x hx], by rw [hg2]; simp [e1, hb1], by rw [e1], by rw [hg2]; simp [e1], t, c, by rw [hg2]; simp [e1], hok⟩) (by first | exact ⟨rfl, trivial⟩ | exact ⟨rfl, rfl, trivial⟩ | exact ⟨rfl, rfl, rfl, trivial⟩ | trivial)
  | false =>
    obtain ⟨rfl, hen⟩ := he
    cbv
    refine callI hA (cMapsCloneNil) ?_
    intro rs_ h_
    subst h_
    cbv
    exact retGI hA rfl [.v (.agg [.gs nx n, .nilmap])] g1 (⟨n, .nilmap, by rw [hnx], hnb, hold, hb1, rfl, hen, by rw [hg1]; rfl⟩) (by first | exact ⟨rfl, trivial⟩ | exact ⟨rfl, rfl, trivial⟩ | exact ⟨rfl, rfl, rfl, trivial⟩ | trivial)
end Go.Proofs.Ythioccbgjkbmdaa.AM

/-
  Contracts: a node made safe; a step that is added.
-/
set_option linter.unusedVariables false
set_option linter.unusedSimpArgs false
namespace Go.Proofs.Ythioccbgjkbmdaa.AM
open Go Go.RowKit
set_option maxRecDepth 100000
set_option maxHeartbeats 4000000

theorem set_set (gh : GH) (id : Nat) (o p : GObj) : (gh.set id o).set id p = gh.set id p := by
  simp only [GH.set]; congr 1; funext j; split <;> rfl
/-- Labels for what is new. -/
def labN (lab : Lab) (n : Nat) (r0 r1 : Nat × Nat) : Lab := fun x => if x = n then some r0 else if x = n + 1 then some r1 else lab x
theorem Copied.by {gh g : GH} {lab : Lab} {dir : Bool} {b : Bs} {en : List (Bs × Nat)} {n : Int} {we : V} (h : Copied gh g dir b en n we) (hd : Dom gh lab) (r0 r1 : Nat × Nat) : ∃ lab', Upd gh g lab lab' (fun _ => False) (fun _ => False) ∧ ByV g lab' r0 (.gs gh.next n) b ∧ MpV g lab' r1 dir we en := by
  cases dir with
  | true =>
    obtain ⟨h1, h2, h3, h4, h5, t, c, h6, h7⟩ := h
    refine ⟨labN lab gh.next r0 r1, ⟨by omega, fun x hx => by unfold labN; rw [if_neg (by omega), if_neg (by omega)], fun x hx => by unfold labN; rw [if_neg (by omega), if_neg (by omega)]; exact hd x (by omega), fun x hx _ _ => h2 x hx⟩, .inr (.inr ⟨gh.next, by rw [h1], by simp [labN], h3⟩), gh.next + 1, t, c, h4, by simp [labN], h6, h7⟩
  | false =>
    obtain ⟨h1, h2, h3, h4, h5, h6⟩ := h
    refine ⟨fun x => if x = gh.next then some r0 else lab x, ⟨by omega, fun x hx => by rw [if_neg (by omega)], fun x hx => by rw [if_neg (by omega)]; exact hd x (by omega), fun x hx _ _ => h2 x hx⟩, .inr (.inr ⟨gh.next, by rw [h1], by simp, h3⟩), h4, h5⟩
/-- A node's variable is written. -/
theorem upd_set {gh : GH} {lab : Lab} (hd : Dom gh lab) {id : Nat} {r : Nat × Nat} (o : GObj) (hl : lab id = some r) : Upd gh (gh.set id o) lab lab (fun q => q = r) (fun _ => False) :=
  Upd.mk0 hd (Nat.le_refl _) fun x _ _ ht => by
    rw [GH.set_get, if_neg]
    intro e; subst e; exact ht r hl rfl
theorem gSyncG {gh : GH} {lab : Lab} {i id : Nat} {dir : Bool} {c : Ct} {vb ve wb we vl : V} (hd : Dom gh lab) (hbox : gh.get id = some (.box [.bool dir, vb, ve, wb, we, vl])) (hli : lab id = some (i, 0)) (hwb : ByV gh lab (i, 3) wb c.b) (hwe : MpV gh lab (i, 4) dir we c.en) (hl : c.b.length ≤ 140737488355328) : FnG Try.prog 60 [.gp id 0] gh fun rs g => rs = [] ∧ ∃ lab', Upd gh g lab lab' (fun r => r = (i, 0)) (fun _ => False) ∧ NodeAt g lab' i id ⟨dir, c, []⟩ := by
  have hlt := hd.lt hli
  refine FnG.of' T_ok M_ok [] (fn := Try.f60) (by kernel_rfl) rfl rfl rfl rfl (Nat.le_of_ble_eq_true rfl) fun A hA => ?_
  cbv
  refine gldAI hA _ hbox ?_
  cbv
  refine callGI hA (gClone hd hwb hwe hl) ?_
  intro rs_ g1 h_
  obtain ⟨n, me, q_1, hcp⟩ := h_
  subst q_1
  cbv
  have hbox1 : g1.get id = some (.box [.bool dir, vb, ve, wb, we, vl]) := (hcp.old id hlt).trans hbox
  refine gstI hA _ (hbox1) ?_
  rintro g2 hg2
  cbv
  refine gstI hA _ ((show g2.get id = some (.box [.bool dir, .gs gh.next n, me, wb, we, vl]) by rw [hg2]; simp; rfl)) ?_
  rintro g3 hg3
  cbv
  obtain ⟨lab', u, q1, q2⟩ := hcp.by hd (i, 1) (i, 2)
  have hg3' : g3 = g1.set id (.box [.bool dir, .gs gh.next n, me, wb, we, .nils]) := by rw [hg3, hg2, set_set]; rfl
  have hli' : lab' id = some (i, 0) := (u.old id hlt).trans hli
  have u2 := upd_set u.dom (.box [.bool dir, .gs gh.next n, me, wb, we, .nils]) hli'
  have no : ∀ {j : Nat}, j ≠ 0 → ¬ ((i, j) = ((i, 0) : Nat × Nat)) := fun h e => h (congrArg Prod.snd e)
  rw [← hg3'] at u2
  exact retGI hA rfl [] g3 ⟨rfl, lab', (u.weak (fun _ h => h.elim) (fun _ h => h.elim)).trans u2, _, _, _, _, _, by rw [hg3']; simp, hli', q1.upd u.dom u2 (no (by decide)) (fun _ h => h.elim), q2.upd u.dom u2 (no (by decide)) (fun _ h => h.elim), (hwb.upd hd u (fun h => h) (fun _ h => h.elim)).upd u.dom u2 (no (by decide)) (fun _ h => h.elim), (hwe.upd hd u (fun h => h) (fun _ h => h.elim)).upd u.dom u2 (no (by decide)) (fun _ h => h.elim), .inl ⟨rfl, rfl⟩⟩ trivial
theorem gSyncN {gh : GH} {lab : Lab} {i id : Nat} {nd : Nd} (hd : Dom gh lab) (h : NodeAt gh lab i id nd) (hl : nd.seen.b.length ≤ 140737488355328) : FnG Try.prog 60 [.gp id 0] gh fun rs g => rs = [] ∧ ∃ lab', Upd gh g lab lab' (fun r => r = (i, 0)) (fun _ => False) ∧ NodeAt g lab' i id nd.sync := by
  obtain ⟨vb, ve, wb, we, vl, hbox, hli, hvb, hve, hwb, hwe, hvl⟩ := h
  exact gSyncG hd hbox hli hwb hwe hl
end Go.Proofs.Ythioccbgjkbmdaa.AM

/-
  Contracts: what steps do.
-/
set_option linter.unusedVariables false
set_option linter.unusedSimpArgs false
namespace Go.Proofs.Ythioccbgjkbmdaa.AM
open Go Go.RowKit
set_option maxRecDepth 100000
set_option maxHeartbeats 4000000

theorem ByV.app {gh : GH} {lab : Lab} {r : Nat × Nat} {v : V} {b : Bs} (h : ByV gh lab r v b) : SlApp gh 1 (bytesV b) v := by
  rcases h with ⟨h1, h2⟩ | h | ⟨id, h1, _, h2⟩
  · exact .inl ⟨h1, by rw [h2]; rfl⟩
  · exact .inr (.inl h)
  · exact .inr (.inr ⟨id, by rw [h1, bytesV_len], h2⟩)
theorem SlApp.open {gh : GH} {z : Nat} {l : List V} {y : V} (h : SlApp gh z l y) : (y = .nils) ∨ (y = .xs l) ∨ ∃ (id : Nat) (n : Int), y = .gs id n := by
  rcases h with ⟨h, _⟩ | h | ⟨id, h, _⟩
  · exact .inl h
  · exact .inr (.inl h)
  · exact .inr (.inr ⟨id, _, h⟩)
/-- A content's place: a variable's two cells. -/
structure CtAt (gh : GH) (lab : Lab) (rb rm : Nat × Nat) (dir : Bool) (cid off : Nat) (l : List V) (c : Ct) : Prop where
  dom : Dom gh lab
  lt : cid < gh.next
  box : gh.get cid = some (.box l)
  ne : lab cid ≠ some rb ∧ lab cid ≠ some rm
  nb : rb ≠ rm
  vals : ∃ vb ve, l[off]? = some vb ∧ l[off + 1]? = some ve ∧ ByV gh lab rb vb c.b ∧ MpV gh lab rm dir ve c.en
def Done (gh g : GH) (lab : Lab) (rb rm : Nat × Nat) (dir : Bool) (cid off : Nat) (l : List V) (c : Ct) : Prop :=
  ∃ lab' vb ve, Upd gh g lab lab' (fun q => q = rb ∨ q = rm) (fun x => x = cid) ∧ g.get cid = some (.box ((l.set off vb).set (off + 1) ve)) ∧ ByV g lab' rb vb c.b ∧ MpV g lab' rm dir ve c.en
theorem gDoApp {gh : GH} {lab : Lab} {rb rm : Nat × Nat} {cid off : Nat} {l : List V} {c : Ct} (h : CtAt gh lab rb rm false cid off l c) (a : Bs) (k : Nat) (h1 : 1 ≤ k) (h2 : k ≤ a.length) (hr : c.b.length + k ≤ 140737488355328) :
    FnG Try.prog 49 [.gp cid off, .int .i64 k, .ref [.slice (bytesV a)]] gh fun rs g => rs = [] ∧ Done gh g lab rb rm false cid off l { c with b := c.b ++ a.take k } := by
  obtain ⟨hd, hlt, hbox, ⟨hn1, hn2⟩, hnb, vb, ve, hvb, hve, hby, hmp⟩ := h
  obtain ⟨kk, hkk⟩ : ∃ kk : Int, kk = (k : Nat) := ⟨_, rfl⟩
  obtain ⟨la, hla⟩ : ∃ la, la = bytesV a := ⟨_, rfl⟩
  obtain ⟨lb, hlb⟩ : ∃ lb, lb = bytesV c.b := ⟨_, rfl⟩
  have happ := hby.app
  rw [← hlb] at happ
  have f1 : (0 : Int) ≤ 0 ∧ (0 : Int) ≤ kk ∧ kk ≤ (la.length : Nat) := by rw [hla, bytesV_len]; omega
  have f2 : la.take kk.toNat = bytesV (a.take k) := by rw [hla, bytesV_take, hkk]; rfl
  have hofl := (List.getElem?_eq_some_iff.1 hvb).1
  rw [← hkk, ← hla]
  refine FnG.of' T_ok M_ok [13] (fn := Try.f49) (by kernel_rfl) rfl rfl rfl rfl (Nat.le_of_ble_eq_true rfl) fun A hA => ?_
  cbv
  refine chkI hA (by kernel_rfl) ?_
  cbv
  refine gldI hA l hbox ?_ (hv := hvb)
  cbv
  refine sizedI hA (bytesV_flat hla) ?_
  refine subLN hA f1 ?_
  intro r2 hr2
  have hr2 : r2 = bytesV (a.take k) := hr2.trans f2
  cbv
  have hne : r2 ≠ [] := by
    intro e
    have := congrArg List.length hr2
    rw [e, bytesV_len] at this
    simp at this; omega
  have hroom : (lb.length + r2.length) * 1 ≤ 140737488355328 := by rw [hlb, hr2, bytesV_len, bytesV_len]; simp; omega
  have hsrc : SrcIs gh 1 (.slice r2) r2 := ⟨rfl, bytesV_flat hr2⟩
  have hcat : lb ++ r2 = bytesV (c.b ++ a.take k) := by rw [hlb, hr2, bytesV_app]
  have hgs : ∀ x n, vb = .gs x n → lab x = some rb := fun x n e => by
    rcases hby with ⟨q, _⟩ | q | ⟨id, q, q2, _⟩
    · rw [q] at e; cases e
    · rw [q] at e; cases e
    · rw [q] at e; cases e; exact q2
  obtain ⟨nx, hnx⟩ : ∃ nx, nx = gh.next := ⟨_, rfl⟩
  have last : ∀ (g1 g2 : GH) (m : Int), g1.next = gh.next + 1 → g1.get gh.next = some (.arow 1 (lb ++ r2)) → (∀ j, j < gh.next → (∀ n, vb ≠ .gs j n) → g1.get j = gh.get j) → m = ((lb ++ r2).length : Nat) → g2 = g1.set cid (.box (l.set off (.gs gh.next m))) → Done gh g2 lab rb rm false cid off l { c with b := c.b ++ a.take k } := fun g1 g2 m e1 e2 e3 e4 e5 => by
    have u : Upd gh g2 lab (fun x => if x = gh.next then some rb else lab x) (fun q => q = rb ∨ q = rm) (fun x => x = cid) := ⟨by rw [e5]; simp; omega, fun x hx => by rw [if_neg (by omega)], fun x hx => by
      rw [e5] at hx; simp at hx
      rw [if_neg (by omega)]; exact hd x (by omega), fun x hx n t => by
      rw [e5]; simp only [GH.set_get]; rw [if_neg n]
      refine e3 x hx fun m' e => ?_
      exact t rb (hgs x m' e) (.inl rfl)⟩
    refine ⟨_, .gs gh.next m, ve, u, ?_, .inr (.inr ⟨gh.next, by rw [e4, hcat, bytesV_len], by simp, ?_⟩), hmp⟩
    · rw [e5]; simp only [GH.set_get, if_true]
      rw [set_same (l := l.set off _) (by rw [List.getElem?_set_ne (by omega)]; exact hve)]
    · rw [e5]; simp only [GH.set_get]; rw [if_neg (by omega), e2, hcat]
  have hapo := happ.open
  rcases hapo with rfl | rfl | ⟨id, m0, rfl⟩
  all_goals cbv
  all_goals refine gappSI hA lb r2 happ hsrc hne (bytesV_flat hlb) hroom ?_
  all_goals intro g1 m e1 e2 e3 e4
  all_goals have hbox1 : g1.get cid = some (.box l) := (e3 cid hlt fun n e => hn1 (hgs cid n e)).trans hbox
  all_goals cbv
  all_goals refine gstI hA l hbox1 ?_ (hle := hofl)
  all_goals intro g2 hg2
  all_goals have hg2 : g2 = g1.set cid (.box (l.set off (.gs gh.next m))) := hg2.trans (congrArg (fun q => g1.set cid (.box q)) (box_put hofl rfl))
  all_goals cbv
  all_goals exact retGI hA rfl [] g2 ⟨rfl, last g1 g2 m e1 e2 e3 e4 hg2⟩ trivial
theorem gslN {A : Prim} {R : List (Nat × AObj) → List D → Prop} (hA : A = std Try.prog R) {t e z : Nat} {x y1 y2 : Operand} {gh : GH} {y : V} {s r : List V} {m : Int} {k k' : IntKind} {K : V → Prop} (hy : SlIs gh z s y) (h : 0 ≤ m ∧ m ≤ s.length) (hz : ∀ x ∈ s, x.flat.length = z) (hr : r = s.take m.toNat) (hK : K (.xs r)) (hk : (tyOf t).k = .slice e := by rfl) (hkn : known (tyOf e).k = true := by rfl) (hzz : (tyOf e).size = z := by rfl) : A.gq (.slice t x none (some y1) (some y2)) [y, .int k m, .int k' m] gh K := by
  subst hzz; exact gsl3I hA hy h hz (hr ▸ hK) hk hkn
theorem gDoCut {gh : GH} {lab : Lab} {rb rm : Nat × Nat} {cid off : Nat} {l : List V} {c : Ct} (h : CtAt gh lab rb rm false cid off l c) (n : Nat) (hn : n ≤ c.b.length) (k : Int) :
    FnG Try.prog 64 [.gp cid off, .int .i64 k, .ref [.int .i64 n]] gh fun rs g => rs = [] ∧ Done gh g lab rb rm false cid off l { c with b := c.b.take n } := by
  obtain ⟨hd, hlt, hbox, ⟨hn1, hn2⟩, hnb, vb, ve, hvb, hve, hby, hmp⟩ := h
  obtain ⟨m, hm⟩ : ∃ m : Int, m = (n : Nat) := ⟨_, rfl⟩
  obtain ⟨lb, hlb⟩ : ∃ lb, lb = bytesV c.b := ⟨_, rfl⟩
  have his := hby.is
  rw [← hlb] at his
  have f1 : 0 ≤ m ∧ m ≤ (lb.length : Nat) := by rw [hlb, bytesV_len]; omega
  obtain ⟨r, hr⟩ : ∃ r, r = lb.take m.toNat := ⟨_, rfl⟩
  have hr2 : r = bytesV (c.b.take n) := by rw [hr, hlb, bytesV_take, hm]; rfl
  have hofl := (List.getElem?_eq_some_iff.1 hvb).1
  rw [← hm]
  refine FnG.of' T_ok M_ok [] (fn := Try.f64) (by kernel_rfl) rfl rfl rfl rfl (Nat.le_of_ble_eq_true rfl) fun A hA => ?_
  cbv
  refine chkI hA (by kernel_rfl) ?_
  cbv
  refine gldI hA l hbox ?_ (hv := hvb)
  cbv
  refine gslN hA his f1 (bytesV_flat hlb) hr ?_
  cbv
  refine gstI hA l hbox ?_ (hle := hofl)
  intro g hg
  have hg : g = gh.set cid (.box (l.set off (.xs r))) := hg.trans (congrArg (fun q => gh.set cid (.box q)) (box_put hofl rfl))
  cbv
  refine retGI hA rfl [] g ⟨rfl, lab, .xs r, ve, Upd.mk0 hd (by rw [hg]; exact Nat.le_refl _) (fun x _ hx _ => by rw [hg]; simp only [GH.set_get]; rw [if_neg hx]), ?_, .inr (.inl (by rw [hr2])), hmp⟩ trivial
  rw [hg]; simp only [GH.set_get, if_true]
  rw [set_same (l := l.set off _) (by rw [List.getElem?_set_ne (by omega)]; exact hve)]
/-- A step that changes the map alone. -/
theorem done_map {gh g : GH} {lab : Lab} {rb rm : Nat × Nat} {cid off mid : Nat} {l : List V} {c : Ct} {o : GObj} {en : List (Bs × Nat)} (h : CtAt gh lab rb rm true cid off l c) (hm : lab mid = some rm) (hve : l[off + 1]? = some (.gm mid)) (hg : g = gh.set mid o) (t : List (Nat × Bs × Nat)) (ck : Nat) (ho : o = .map (encE t) ck) (hok : MpOk t ck en) : Done gh g lab rb rm true cid off l { c with en := en } := by
  obtain ⟨hd, hlt, hbox, ⟨hn1, hn2⟩, hnb, vb, ve, hvb, hve', hby, hmp⟩ := h
  have hne : cid ≠ mid := fun e => by subst e; exact hn2 hm
  have u : Upd gh g lab lab (fun q => q = rb ∨ q = rm) (fun x => x = cid) := Upd.mk0 hd (by rw [hg]; exact Nat.le_refl _) (fun x _ hx ht => by
    rw [hg]; simp only [GH.set_get]; rw [if_neg]
    intro e; subst e; exact ht rm hm (.inr rfl))
  have u2 : Upd gh g lab lab (fun q => q = rm) (fun _ => False) := Upd.mk0 hd (by rw [hg]; exact Nat.le_refl _) (fun x _ hx ht => by
    rw [hg]; simp only [GH.set_get]; rw [if_neg]
    intro e; subst e; exact ht rm hm rfl)
  refine ⟨lab, vb, .gm mid, u, ?_, hby.upd hd u2 hnb (fun _ h => h.elim), mid, t, ck, rfl, hm, by rw [hg, ho]; simp, hok⟩
  rw [hg]; simp only [GH.set_get]; rw [if_neg hne, set_same hvb, set_same hve]; exact hbox
theorem gDoLink {gh : GH} {lab : Lab} {rb rm : Nat × Nat} {cid off : Nat} {l : List V} {c : Ct} (h : CtAt gh lab rb rm true cid off l c) (s : Bs) (i : Nat) (k : Int) :
    FnG Try.prog 92 [.gp cid off, .int .i64 k, .ref [.int .i64 i], .ref [.str s]] gh fun rs g => rs = [] ∧ Done gh g lab rb rm true cid off l { c with en := enWith c.en s i } := by
  have h0 := h
  obtain ⟨hd, hlt, hbox, ⟨hn1, hn2⟩, hnb, vb, ve, hvb, hve, hby, mid, t, ck, rfl, hlm, hgm, hok⟩ := h
  obtain ⟨m, hm⟩ : ∃ m : Int, m = (i : Nat) := ⟨_, rfl⟩
  obtain ⟨t', ht1, ht2⟩ := set_enc hok s i
  rw [← hm] at ht1 ⊢
  refine FnG.of' T_ok M_ok [] (fn := Try.f92) (by kernel_rfl) rfl rfl rfl rfl (Nat.le_of_ble_eq_true rfl) fun A hA => ?_
  cbv
  refine chkI hA (by kernel_rfl) ?_
  cbv
  refine gldI hA l hbox ?_ (hv := hve)
  cbv
  refine gmapI hA hgm (strKeys_enc t) ?_ uMap uStr
  intro g hg
  cbv
  exact retGI hA rfl [] g ⟨rfl, done_map h0 hlm hve hg t' _ (by rw [ht1]) ht2⟩ trivial
theorem gDoUnl {gh : GH} {lab : Lab} {rb rm : Nat × Nat} {cid off : Nat} {l : List V} {c : Ct} (h : CtAt gh lab rb rm true cid off l c) (s : Bs) (k : Int) :
    FnG Try.prog 80 [.gp cid off, .int .i64 k, .ref [.str s]] gh fun rs g => rs = [] ∧ Done gh g lab rb rm true cid off l { c with en := enWithout c.en s } := by
  have h0 := h
  obtain ⟨hd, hlt, hbox, ⟨hn1, hn2⟩, hnb, vb, ve, hvb, hve, hby, mid, t, ck, rfl, hlm, hgm, hok⟩ := h
  obtain ⟨t', ht1, ht2⟩ := del_enc hok s
  refine FnG.of' T_ok M_ok [] (fn := Try.f80) (by kernel_rfl) rfl rfl rfl rfl (Nat.le_of_ble_eq_true rfl) fun A hA => ?_
  cbv
  refine chkI hA (by kernel_rfl) ?_
  cbv
  refine gldI hA l hbox ?_ (hv := hve)
  cbv
  refine gdelI hA hgm (strKeys_enc t) ?_ uMap uStr
  intro g hg
  cbv
  exact retGI hA rfl [] g ⟨rfl, done_map h0 hlm hve hg t' _ (by rw [ht1]) ht2⟩ trivial
/-- What a step may be done to. -/
def StOk (dir : Bool) (c : Ct) (k : Nat) : Stp → Prop
  | .app a => dir = false ∧ 1 ≤ k ∧ k ≤ a.length ∧ c.b.length + k ≤ 140737488355328
  | .cut n => dir = false ∧ n ≤ c.b.length
  | .link _ _ => dir = true
  | .unl _ => dir = true
  | .ren _ _ _ => False
theorem gDo {gh : GH} {lab : Lab} {rb rm : Nat × Nat} {dir : Bool} {cid off : Nat} {l : List V} {c : Ct} (h : CtAt gh lab rb rm dir cid off l c) (s : Stp) (k : Nat) (hs : StOk dir c k s) :
    ∃ f caps, encC s = .clo f caps ∧ FnG Try.prog f (.gp cid off :: .int .i64 k :: caps) gh fun rs g => rs = [] ∧ Done gh g lab rb rm dir cid off l (s.run c k) := by
  cases s with
  | app a => obtain ⟨rfl, h1, h2, h3⟩ := hs; exact ⟨_, _, rfl, gDoApp h a k h1 h2 h3⟩
  | cut n => obtain ⟨rfl, h1⟩ := hs; exact ⟨_, _, rfl, gDoCut h n h1 k⟩
  | link s i => have : dir = true := hs; subst this; exact ⟨_, _, rfl, gDoLink h s i k⟩
  | unl s => have : dir = true := hs; subst this; exact ⟨_, _, rfl, gDoUnl h s k⟩
  | ren f t i => exact hs.elim
end Go.Proofs.Ythioccbgjkbmdaa.AM

/-
  Contracts: a step that is added; loose parts; a crash of a node.
-/
set_option linter.unusedVariables false
set_option linter.unusedSimpArgs false
namespace Go.Proofs.Ythioccbgjkbmdaa.AM
open Go Go.RowKit
set_option maxRecDepth 100000
set_option maxHeartbeats 4000000

def fnOf (s : Stp) : Nat := match encC s with
  | .clo f _ => f
  | _ => 0
def capsOf (s : Stp) : List V := match encC s with
  | .clo _ c => c
  | _ => []
theorem gDo' {gh : GH} {lab : Lab} {rb rm : Nat × Nat} {dir : Bool} {cid off : Nat} {l : List V} {c : Ct} (h : CtAt gh lab rb rm dir cid off l c) (s : Stp) (k : Nat) (hs : StOk dir c k s) (kk : Int) (hk : kk = (k : Nat)) :
    FnG Try.prog (fnOf s) (.gp cid off :: .int .i64 kk :: capsOf s) gh fun rs g => rs = [] ∧ Done gh g lab rb rm dir cid off l (s.run c k) := by
  subst hk
  obtain ⟨f, caps, h1, h2⟩ := gDo h s k hs
  unfold fnOf capsOf
  rw [h1]; exact h2
theorem shapeC {dir : Bool} {c : Ct} {k : Nat} (s : Stp) (hs : StOk dir c k s) : (∃ f y, encC s = .clo f [y]) ∨ ∃ f y z, encC s = .clo f [y, z] := by
  cases s with
  | app a => exact .inl ⟨_, _, rfl⟩
  | cut n => exact .inl ⟨_, _, rfl⟩
  | link s i => exact .inr ⟨_, _, _, rfl⟩
  | unl s => exact .inl ⟨_, _, rfl⟩
  | ren f t i => exact hs.elim
theorem fn_of {s : Stp} {f : Nat} {l : List V} (h : encC s = .clo f l) : fnOf s = f ∧ capsOf s = l := by unfold fnOf capsOf; rw [h]; exact ⟨rfl, rfl⟩
theorem LsV.app {gh : GH} {lab : Lab} {r : Nat × Nat} {v : V} {l : List Stp} (h : LsV gh lab r v l) : SlApp gh 2 (l.map encS) v := by
  rcases h with ⟨h1, h2⟩ | ⟨id, h1, _, h2⟩
  · exact .inl ⟨h1, by rw [h2]; rfl⟩
  · exact .inr (.inr ⟨id, by rw [h1, List.length_map], h2⟩)
theorem nodeCt {gh : GH} {lab : Lab} {i id : Nat} {nd : Nd} {vb ve wb we vl : V} (hd : Dom gh lab) (hbox : gh.get id = some (.box [.bool nd.dir, vb, ve, wb, we, vl])) (hli : lab id = some (i, 0)) (hwb : ByV gh lab (i, 3) wb nd.seen.b) (hwe : MpV gh lab (i, 4) nd.dir we nd.seen.en) : CtAt gh lab (i, 3) (i, 4) nd.dir id 3 [.bool nd.dir, vb, ve, wb, we, vl] nd.seen :=
  ⟨hd, hd.lt hli, hbox, by rw [hli]; exact ⟨by simp, by simp⟩, by simp, wb, we, rfl, rfl, hwb, hwe⟩
/-- All that is of one node. -/
def NdT (i : Nat) (r : Nat × Nat) : Prop := r.1 = i ∧ r.2 ≤ 5
theorem pair_ne {i j k : Nat} (h : j ≠ k) : ((i, j) : Nat × Nat) ≠ (i, k) := fun e => h (congrArg Prod.snd e)
theorem gAddN {gh : GH} {lab : Lab} {i id : Nat} {nd : Nd} (hd : Dom gh lab) (h : NodeAt gh lab i id nd) (s : Stp) (hs : StOk nd.dir nd.seen s.parts s) (hl : nd.loose.length ≤ 1000000000) (pk : Int) (hpk : pk = (s.parts : Nat)) (x : V) (hx : x = encC s) : FnG Try.prog 48 [.gp id 0, .agg [.int .i64 pk, x]] gh fun rs g => rs = [] ∧ ∃ lab', Upd gh g lab lab' (NdT i) (fun _ => False) ∧ NodeAt g lab' i id (nd.add s) := by
  obtain ⟨vb, ve, wb, we, vl, hbox, hli, hvb, hve, hwb, hwe, hvl⟩ := h
  have hlt := hd.lt hli
  have hdo := gDo' (nodeCt (vb := vb) (ve := ve) (vl := vl) hd hbox hli hwb hwe) s s.parts hs pk hpk
  have last : ∀ (g1 : GH) (lab1 : Lab) (wb' we' : V) (g2 g3 : GH) (m : Int), Upd gh g1 lab lab1 (fun q => q = (i, 3) ∨ q = (i, 4)) (fun x => x = id) → ByV g1 lab1 (i, 3) wb' (s.run nd.seen s.parts).b → MpV g1 lab1 (i, 4) nd.dir we' (s.run nd.seen s.parts).en → LsV g1 lab1 (i, 5) vl nd.loose →
      g2.next = g1.next + 1 → g2.get g1.next = some (.arow 2 (nd.loose.map encS ++ [encS s])) → (∀ j, j < g1.next → (∀ n, vl ≠ .gs j n) → g2.get j = g1.get j) → m = ((nd.loose.map encS ++ [encS s]).length : Nat) → g3 = g2.set id (.box [.bool nd.dir, vb, ve, wb', we', .gs g1.next m]) → ∃ lab', Upd gh g3 lab lab' (NdT i) (fun _ => False) ∧ NodeAt g3 lab' i id (nd.add s) := by
    intro g1 lab1 wb' we' g2 g3 m u h1 h2 h3 e1 e2 e3 e4 e5
    have hl1 : lab1 id = some (i, 0) := (u.old id hlt).trans hli
    have hls : ∀ x n, vl = .gs x n → lab1 x = some (i, 5) := fun x n e => by
      rcases h3 with ⟨q, _⟩ | ⟨y, q, q2, _⟩
      · rw [q] at e; cases e
      · rw [q] at e; cases e; exact q2
    have hlt1 : id < g1.next := Nat.lt_of_lt_of_le hlt u.next
    have u2 : Upd g1 g3 lab1 (fun x => if x = g1.next then some (i, 5) else lab1 x) (fun q => q = (i, 0) ∨ q = (i, 5)) (fun _ => False) := ⟨by rw [e5]; simp; omega, fun x hx => by rw [if_neg (by omega)], fun x hx => by
      rw [e5] at hx; simp at hx
      rw [if_neg (by omega)]; exact u.dom x (by omega), fun x hx _ t => by
      rw [e5]; simp only [GH.set_get]
      rw [if_neg (fun e => t (i, 0) (by rw [e]; exact hl1) (.inl rfl))]
      exact e3 x hx fun m' e => t (i, 5) (hls x m' e) (.inr rfl)⟩
    have noX : ∀ (r : Nat × Nat), r ≠ (i, 0) → ∀ x, x = id → lab x ≠ some r := fun r hr x hx e => by subst hx; rw [hli] at e; cases e; exact hr rfl
    refine ⟨_, (u.weak (T' := NdT i) (X' := fun _ => False) (fun r h => by rcases h with rfl | rfl <;> exact ⟨rfl, Nat.le_of_ble_eq_true rfl⟩) (fun x hx => by subst hx; exact .inr ⟨_, hli, ⟨rfl, Nat.zero_le _⟩⟩)).trans (u2.weak (T' := NdT i) (fun r h => by rcases h with rfl | rfl <;> exact ⟨rfl, Nat.le_of_ble_eq_true rfl⟩) (fun x hx => .inl hx)), vb, ve, wb', we', .gs g1.next m, by rw [e5]; simp; rfl, (u2.old id hlt1).trans hl1,
      (hvb.upd hd u (by simp) (noX _ (by simp))).upd u.dom u2 (by simp) (fun _ h => h.elim), (hve.upd hd u (by simp) (noX _ (by simp))).upd u.dom u2 (by simp) (fun _ h => h.elim), ?_, ?_, .inr ⟨g1.next, by rw [e4]; simp [Nd.add], by simp, ?_⟩⟩
    · rw [Nd.seen_add]; exact h1.upd u.dom u2 (by simp) (fun _ h => h.elim)
    · rw [Nd.seen_add]; exact h2.upd u.dom u2 (by simp) (fun _ h => h.elim)
    · rw [e5]; simp only [GH.set_get]; rw [if_neg (by omega), e2]; simp [Nd.add]
  have hsA : encS s = .agg [.int .i64 pk, x] := by rw [hpk, hx]; rfl
  have hap := hvl.app
  obtain ⟨ls, hls⟩ : ∃ ls, ls = nd.loose.map encS := ⟨_, rfl⟩
  rw [← hls] at hap
  have hlz : ∀ x ∈ ls, x.flat.length = 2 := fun x hx => by
    rw [hls] at hx
    obtain ⟨q, _, rfl⟩ := List.mem_map.1 hx
    rfl
  have hroom : (ls.length + 1) * 16 ≤ 140737488355328 := by rw [hls]; simp; omega
  obtain ⟨b, hb⟩ : ∃ b, b = nd.dir := ⟨_, rfl⟩
  rw [← hb] at hbox
  obtain ⟨e, he⟩ : ∃ e, e = encS s := ⟨_, rfl⟩
  rw [← he] at last hsA
  have hE : [e] = [encS s] := by rw [he]
  rcases shapeC s hs with ⟨f, y, hsh⟩ | ⟨f, y, z, hsh⟩
  all_goals (
    obtain ⟨q1, q2⟩ := fn_of hsh
    rw [q1, q2] at hdo
    rw [hsh] at hx
    clear hsh q1 q2
    subst hx)
  all_goals (
    refine FnG.of' T_ok M_ok [19] (fn := Try.f48) (by kernel_rfl) rfl rfl rfl rfl (Nat.le_of_ble_eq_true rfl) fun A hA => ?_
    cbv
    refine chkI hA (by kernel_rfl) ?_
    cbv
    refine callGI hA (hdo) ?_
    intro rs_ g1 h_
    obtain ⟨q_1, lab1, wb', we', u, hbox1, h1, h2⟩ := h_
    subst q_1
    cbv
    have hbox1 : g1.get id = some (.box [.bool b, vb, ve, wb', we', vl]) := by rw [hb]; exact hbox1
    have h3 := hvl.upd hd u (by simp) (fun x hx e => by subst hx; rw [hli] at e; cases e)
    have hap1 : SlApp g1 2 ls vl := hls ▸ h3.app
    refine chkI hA (by kernel_rfl) ?_
    cbv
    refine gldI hA _ (hbox1) ?_
    cbv
    obtain ⟨ex, hex⟩ : ∃ ex, ex = [e] := ⟨_, rfl⟩
    rcases hap1.open with rfl | rfl | ⟨x, m0, rfl⟩
    all_goals (
      refine gappSI hA ls [e] hap1 ?_ (by simp) hlz hroom ?_
      · rw [hsA]; exact ⟨rfl, by intro q hq; simp at hq; subst hq; rfl⟩
      · intro g2 m e1 e2 e3 e4
        have hbox2 : g2.get id = some (.box [.bool b, vb, ve, wb', we', _]) := (e3 id (Nat.lt_of_lt_of_le hlt u.next) (fun n eq => by
          rcases h3 with ⟨q, _⟩ | ⟨y0, q, q2, _⟩
          · rw [q] at eq; cases eq
          · rw [q] at eq; cases eq
            rw [u.old id hlt, hli] at q2; exact absurd (Option.some.inj q2) (pair_ne (by decide)))).trans hbox1
        refine gstI hA _ (hbox2) ?_
        rintro g3 hg3
        cbv
        rw [hls] at e2 e4
        rw [hb] at hg3
        exact retGI hA rfl [] g3 ⟨rfl, last g1 lab1 wb' we' g2 g3 m u h1 h2 h3 e1 e2 e3 e4 hg3⟩ trivial))
end Go.Proofs.Ythioccbgjkbmdaa.AM
