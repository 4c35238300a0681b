/-
  The abstract machine, part 10: each quiet operation, IV.
-/
import Derived.Test.YtinckcpmkocakaaAmQ5
import Derived.Lib.ConvBytes
import Derived.Laws.MakeOwn
import Derived.Laws.IdiomStrings
set_option linter.unusedVariables false
set_option linter.unusedSimpArgs false
namespace Go.Proofs.Ytinckcpmkocakaa.AM
open Go Go.RowKit

def okAdd (ok : Oks) (b n : Nat) : Oks := fun b' o => ok b' o ∨ (b' = b ∧ o < n)
theorem Grow.alloc (w : World) (ok : Oks) (ob : Obj) (n : Nat) : Grow w ok (w.alloc ob) (okAdd ok w.heap.size n) :=
  ⟨(Below.refl _ w).alloc (Nat.le_refl _) ob, fun _ _ h => .inl h, fun b o h => by
    rcases h with h | ⟨rfl, _⟩
    · exact .inl h
    · exact .inr ⟨Nat.le_refl _, by simp⟩⟩
theorem constD1_rep (E : Env) (ok : Oks) (w : World) (v : Value) : RepD E ok w (constD1 v) v := by
  unfold constD1
  split
  · exact .lit _
  · exact .v _ _ (.int _ _)
  · rename_i s
    have h := Rep.str (ok := ok) (w := w) s.data.toList
    simp at h
    exact .v _ _ h
  · exact .nils
  · exact .v _ _ .nilp
  · exact .v _ _ .nilfn
  · exact .v _ _ .nilif
  · exact .v _ _ .nilmap
  · rename_i f first cap
    split
    · rename_i h1 h2
      have e1 : first = #[] := by apply Array.ext'; simpa using h1
      have e2 : cap = #[] := by apply Array.ext'; simpa using h2
      subst e1; subst e2
      exact RepD.fn (E := E) (ok := ok) (w := w) f [] [] rfl (by simp)
    · exact .any _
  · exact .any _
theorem constD_rep (E : Env) (ok : Oks) (w : World) (v : Value) : RepD E ok w (constD v) v := by
  unfold constD
  split
  · rename_i cs
    split
    · rename_i h
      have := RepD.agg (E := E) (ok := ok) (w := w) (cs.toList.map constD1) cs.toList (by simp) (List.all_eq_true.1 h) (by
        intro i h1 h2
        simp only [List.getElem_map]
        exact constD1_rep _ _ _ _)
      simpa using this
    · exact .any _
  · exact constD1_rep _ _ _ _
theorem getElem?_mk (s : List UInt8) (i : Nat) : (ByteArray.mk s.toArray)[i]? = s[i]? := by
  by_cases h : i < s.length
  · rw [getElem?_pos (ByteArray.mk s.toArray) i (by rw [size_mk]; exact h), getElem?_pos s i h]
    rfl
  · rw [getElem?_neg (ByteArray.mk s.toArray) i (by rw [size_mk]; exact h), getElem?_neg s i h]
theorem extract_mk (s : List UInt8) (l h : Nat) : (ByteArray.mk s.toArray).extract l h = ⟨((s.take h).drop l).toArray⟩ := by
  apply ByteArray.ext
  apply Array.ext'
  simp [List.extract, List.drop_take]

/-- The bounds of a slice expression. -/
theorem boundsD_sound {lo hi : Option D} {len : Int} {K : Int → Int → Prop} (h : boundsD lo hi len K) : ∃ l m, K l m ∧ ((lo = none ∧ l = 0) ∨ ∃ k, lo = some (.v (.int k l))) ∧ ((hi = none ∧ m = len) ∨ ∃ k, hi = some (.v (.int k m))) := by
  unfold boundsD at h
  split at h
  · split at h
    · exact ⟨_, _, h, .inl ⟨rfl, rfl⟩, .inl ⟨rfl, rfl⟩⟩
    · split at h
      · rename_i hn
        obtain ⟨k, rfl⟩ := intOfD_some hn
        exact ⟨_, _, h, .inl ⟨rfl, rfl⟩, .inr ⟨k, rfl⟩⟩
      · exact h.elim
  · split at h
    · rename_i hl
      obtain ⟨k, rfl⟩ := intOfD_some hl
      split at h
      · exact ⟨_, _, h, .inr ⟨k, rfl⟩, .inl ⟨rfl, rfl⟩⟩
      · split at h
        · rename_i hn
          obtain ⟨k', rfl⟩ := intOfD_some hn
          exact ⟨_, _, h, .inr ⟨k, rfl⟩, .inr ⟨k', rfl⟩⟩
        · exact h.elim
    · exact h.elim
theorem run_bound (P : Program) (w : World) (k : IntKind) (i : Int) (y : Nat) (c : BoundsCode) (h0 : 0 ≤ i) (h1 : i ≤ y) : (Instr.sliceBound (.int k i) y c).run P w = .ok i.toNat w := by
  simp [Instr.sliceBound, asIntOf, h0, h1]
theorem run_bounds (P : Program) (w : World) (isSlice : Bool) (len cap : Nat) (lo hi : Option Value) (l m : Int) (hl : (lo = none ∧ l = 0) ∨ ∃ k, lo = some (.int k l)) (hm : (hi = none ∧ m = len) ∨ ∃ k, hi = some (.int k m)) (h0 : 0 ≤ l) (h1 : l ≤ m) (h2 : m ≤ cap) :
    (Instr.sliceBounds isSlice len cap lo hi none).run P w = .ok (l.toNat, m.toNat, cap) w := by
  have b2 : ∀ k c, (Instr.sliceBound (.int k m) cap c).run P w = .ok m.toNat w := fun k c => run_bound P w k m cap c (by omega) h2
  have b1 : ∀ k c, (Instr.sliceBound (.int k l) m.toNat c).run P w = .ok l.toNat w := fun k c => run_bound P w k l _ c h0 (by omega)
  rcases hm with ⟨rfl, rfl⟩ | ⟨k, rfl⟩ <;> rcases hl with ⟨rfl, rfl⟩ | ⟨k', rfl⟩
  · simp [Instr.sliceBounds]
  · have b3 := b1 k'
    simp at b3
    simp [Instr.sliceBounds, b3]
  · simp [Instr.sliceBounds, b2]
  · simp [Instr.sliceBounds, b2, b1]

theorem slice_rep {ok : Oks} {w : World} {s : List V} {u : Value} {l m : Int} (h : Rep ok w (.slice s) u) (h0 : 0 ≤ l) (h1 : l ≤ m) (h2 : m ≤ s.length) {e : Nat} (hz : ∀ x ∈ s, x.flat.length = (tyOf e).size) :
    ∃ a c, u = .slice a s.length c ∧ s.length ≤ c ∧ Rep ok w (.slice ((s.take m.toNat).drop l.toNat)) (.slice (if c = l.toNat then a else a.map (·.add (l.toNat * (tyOf e).size))) (m.toNat - l.toNat) (c - l.toNat)) := by
  obtain ⟨a, c, rfl, hc, hm, z, hz', hcell, hp⟩ := slice_row h
  refine ⟨a, c, rfl, hc, ?_⟩
  have hlen : ((s.take m.toNat).drop l.toNat).length = m.toNat - l.toNat := by simp; omega
  rw [← hlen]
  by_cases hpos : 0 < ((s.take m.toNat).drop l.toNat).length
  · obtain ⟨b, off, rfl, hrow, hok⟩ := hp (by omega)
    have hzz : (tyOf e).size = z := by
      have h3 := hz' 0 (by omega)
      have h4 := hz (s[0]'(by omega)) (List.getElem_mem _)
      omega
    have hne : ¬ c = l.toNat := by omega
    rw [if_neg hne]
    simp only [Option.map_some, add_plain]
    have key : RowAt ok w b (off + l.toNat * (tyOf e).size) z ((s.take m.toNat).drop l.toNat) := by
      refine ⟨fun i hi => ?_, fun i hi j hj => ?_, fun i hi j hj => ?_⟩
      · simp only [List.getElem_drop, List.getElem_take]; exact hz' _ _
      · simp only [List.getElem_drop, List.getElem_take]; exact hcell _ _ _ _
      · have hi' : l.toNat + i < s.length := by omega
        have hj' : j < (s[l.toNat + i]'hi').flat.length := by simpa [List.getElem_drop, List.getElem_take] using hj
        obtain ⟨u, hu, hr⟩ := hrow.hr (l.toNat + i) hi' j hj'
        refine ⟨u, ?_, by simpa only [List.getElem_drop, List.getElem_take] using hr⟩
        rw [hzz, ← hu]
        congr 2
        rw [Nat.add_mul]; omega
    refine rep_row key (fun j hj => ?_) (by omega) (by omega)
    rw [hzz, Nat.add_assoc]
    refine hok _ ?_
    have : (l.toNat + ((s.take m.toNat).drop l.toNat).length) * z ≤ s.length * z := Nat.mul_le_mul_right _ (by omega)
    rw [Nat.add_mul] at this
    omega
  · have hnil : (s.take m.toNat).drop l.toNat = [] := List.eq_nil_of_length_eq_zero (by omega)
    rw [hnil]
    exact .slice [] _ _ 0 (fun _ _ => undef) (by simp) (by omega) (by simp) (by simp) (by simp) (by simp)

section
variable {P : Program} {R : List (Nat × AObj) → List D → Prop} (hT : tableOf P = T)

theorem q_extract (ob : List (Nat × AObj)) (ρ : Operand → D) (x : Operand) (i : Nat) (K : D → Prop) (h : qWp (std P R) ob ρ (.extract x i) K) : ∃ d, K d ∧ Comes' P ob ρ (.extract x i) d := by
  unfold qWp at h
  simp only at h
  split at h
  · rename_i l hx
    split at h
    · rename_i d hd
      obtain ⟨hlt, rfl⟩ := look?_some hd
      refine ⟨_, h, fun E ok w a o ho hq => ?_⟩
      obtain ⟨cs, he, hl, hr⟩ := repD_tup (hx ▸ hq.opr x (by simp [Op.operands]))
      exact does_v (s := Instr.extract (a.eval x) i) (v := cs[i]'(by omega)) (by simp only [execOp, ho]) (by rw [he]; simp [Instr.extract, show i < cs.length from by omega]) (hr i hlt (by omega))
    · exact h.elim
  · rename_i l hx
    split at h
    · rename_i d hd
      obtain ⟨hlt, rfl⟩ := look?_some hd
      refine ⟨_, h, fun E ok w a o ho hq => ?_⟩
      obtain ⟨cs, he, hl, hr⟩ := rep_tup (repD_v (hx ▸ hq.opr x (by simp [Op.operands])))
      exact does_v (s := Instr.extract (a.eval x) i) (v := cs[i]'(by omega)) (by simp only [execOp, ho]) (by rw [he]; simp [Instr.extract, show i < cs.length from by omega]) (.v _ _ (hr i hlt (by omega)))
    · exact h.elim
  · exact h.elim

theorem q_makeFunc (ob : List (Nat × AObj)) (ρ : Operand → D) (fn : Fn) (first cap : Array Operand) (K : D → Prop) (h : qWp (std P R) ob ρ (.makeFunc fn first cap) K) : ∃ d, K d ∧ Comes' P ob ρ (.makeFunc fn first cap) d := by
  unfold qWp at h
  simp only at h
  split at h
  · rename_i f hf
    have e1 : first = #[] := by apply Array.ext'; simpa using hf
    subst e1
    refine ⟨_, h, fun E ok w a o ho hq => ?_⟩
    have := RepD.fn (E := E) (ok := ok) (w := w) f (cap.toList.map ρ) (cap.toList.map a.eval) (by simp) (by
      intro i h1 h2
      simp only [List.getElem_map]
      exact hq.opr _ (by simp [Op.operands]))
    exact does_v (s := Instr.makeFunc (.func f) (#[].map a.eval) (cap.map a.eval)) (v := .func (.func f) #[] (cap.map a.eval)) (by simp only [execOp, ho]) (by simp [Instr.makeFunc]) (by
      have e : cap.map a.eval = (cap.toList.map a.eval).toArray := by apply Array.ext'; simp
      rw [e]; exact this)
  · exact h.elim

theorem q_unOp (ob : List (Nat × AObj)) (ρ : Operand → D) (op : UnOp) (t : TypeId) (x : Operand) (K : D → Prop) (h : qWp (std P R) ob ρ (.unOp op t x) K) : ∃ d, K d ∧ Comes' P ob ρ (.unOp op t x) d := by
  unfold qWp at h
  simp only at h
  split at h
  · split at h
    · rename_i b hx
      refine ⟨_, h, fun E ok w a o ho hq => ?_⟩
      have he := repD_lit (hx ▸ hq.opr x (by simp [Op.operands]))
      exact does_v (s := Op.unary .not (a.eval x)) (v := .bool !b) (by simp only [execOp, ho]) (by rw [he]; simp [Op.unary]) (.lit _)
    · rename_i b hx
      refine ⟨_, h, fun E ok w a o ho hq => ?_⟩
      have he := repD_bool (hx ▸ hq.opr x (by simp [Op.operands]))
      exact does_v (s := Op.unary .not (a.eval x)) (v := .bool !b) (by simp only [execOp, ho]) (by rw [he]; simp [Op.unary]) (.v _ _ (.bool _))
    · exact h.elim
  · rename_i k n hx
    refine ⟨_, h, fun E ok w a o ho hq => ?_⟩
    have he := repD_int (hx ▸ hq.opr x (by simp [Op.operands]))
    exact does_v (s := Op.unary .xor (a.eval x)) (v := .int k (Go.bits .xor k (if k.signed then -1 else k.max) n)) (by simp only [execOp, ho]) (by rw [he]; simp only [Op.unary]; exact run_bits P .xor k _ _ w (by simp)) (.v _ _ (.int _ _))
  · rename_i k n hx
    refine ⟨_, h, fun E ok w a o ho hq => ?_⟩
    have he := repD_int (hx ▸ hq.opr x (by simp [Op.operands]))
    exact does_v (s := Op.unary .neg (a.eval x)) (v := .int k (k.wrap (0 - n))) (by simp only [execOp, ho]) (by rw [he]; simp [Op.unary, Op.intArith]) (.v _ _ (.int _ _))
  · exact h.elim

include hT
theorem q_index (ob : List (Nat × AObj)) (ρ : Operand → D) (t : TypeId) (x i : Operand) (K : D → Prop) (h : qWp (std P R) ob ρ (.index t x i) K) : ∃ d, K d ∧ Comes' P ob ρ (.index t x i) d := by
  unfold qWp at h
  simp only at h
  split at h
  · rename_i n hn
    obtain ⟨k, hi⟩ := intOfD_some hn
    split at h
    · rename_i s hk hx
      have hu := ty_str hT hk
      obtain ⟨b, ⟨h0, hb⟩, h⟩ := h
      refine ⟨_, h, fun E ok w a o ho hq => ?_⟩
      have e1 := repD_str (hx ▸ hq.opr x (by simp [Op.operands]))
      have e2 : a.eval i = .int k n := repD_int (hi ▸ hq.opr i (by simp [Op.operands]))
      refine does_v (s := Instr.index t (a.eval x) (a.eval i)) (v := .int .u8 b.toNat) (by simp only [execOp, ho]) ?_ (.v _ _ (.int _ _))
      rw [e1, e2]
      simp [Instr.index, asIntOf, run_underlying hu, h0, getElem?_mk, hb]
    · rename_i m e l hk hx
      have hu := ty_arr hT hk
      split at h
      · rename_i k' hk'
        split at h
        · rename_i hsz
          obtain ⟨⟨h0, h1⟩, r, ⟨_, hr⟩, h⟩ := h
          simp at h1
          refine ⟨_, h, fun E ok w a o ho hq => ?_⟩
          obtain ⟨cs, e1, hl, hc, hrep⟩ := rep_agg (repD_v (hx ▸ hq.opr x (by simp [Op.operands])))
          have e2 : a.eval i = .int k n := repD_int (hi ▸ hq.opr i (by simp [Op.operands]))
          obtain ⟨hlt, hr'⟩ := List.getElem?_eq_some_iff.1 hr
          have hcell := hrep n.toNat hlt (by omega)
          rw [hr'] at hcell
          refine does_v (s := Instr.index t (a.eval x) (a.eval i)) (v := .int k' r) (by simp only [execOp, ho]) ?_ (.v _ _ (.int _ _))
          rw [e1, e2]
          have hpart := run_part_cell (P := P) hT (ft := e) (off := n.toNat * (tyOf e).size) (w := w) (cs := cs) (u := .int k' r) (by rw [hk']; rfl) (by rw [hk']; rfl) (by rw [hsz, Nat.mul_one, List.getElem?_eq_getElem (show n.toNat < cs.length from by omega), rep_int hcell])
          simp [Instr.index, asIntOf, run_underlying hu, h0, h1, ty_size hT (t := e) (by rw [hk']; simp), hpart]
        · exact h.elim
      · exact h.elim
    · exact h.elim
  · exact h.elim

theorem q_slice (ob : List (Nat × AObj)) (ρ : Operand → D) (t : TypeId) (x : Operand) (lo hi mx : Option Operand) (K : D → Prop) (h : qWp (std P R) ob ρ (.slice t x lo hi mx) K) : ∃ d, K d ∧ Comes' P ob ρ (.slice t x lo hi mx) d := by
  unfold qWp at h
  simp only at h
  unfold sliceD at h
  split at h
  · exact h.elim
  · rename_i hmx
    have hmx' : mx = none := by cases mx <;> simp at hmx; rfl
    subst hmx'
    have vals : ∀ (E : Env) (ok : Oks) (w : World) (a : Act), QH E ok w a ob ρ (.slice t x lo hi none) → ∀ l m len : Int, ((lo.map ρ = none ∧ l = 0) ∨ ∃ k, lo.map ρ = some (.v (.int k l))) → ((hi.map ρ = none ∧ m = len) ∨ ∃ k, hi.map ρ = some (.v (.int k m))) →
        ((lo.map a.eval = none ∧ l = 0) ∨ ∃ k, lo.map a.eval = some (.int k l)) ∧ ((hi.map a.eval = none ∧ m = len) ∨ ∃ k, hi.map a.eval = some (.int k m)) := by
      intro E ok w a hq l m len h1 h2
      constructor
      · rcases h1 with ⟨h1, h1'⟩ | ⟨k, h1⟩
        · exact .inl ⟨by cases lo <;> simp at h1 ⊢, h1'⟩
        · cases lo with
          | none => simp at h1
          | some y =>
            simp at h1
            exact .inr ⟨k, by simp [repD_int (h1 ▸ hq.opr y (by simp [Op.operands]))]⟩
      · rcases h2 with ⟨h2, h2'⟩ | ⟨k, h2⟩
        · exact .inl ⟨by cases hi <;> simp at h2 ⊢, h2'⟩
        · cases hi with
          | none => simp at h2
          | some y =>
            simp at h2
            exact .inr ⟨k, by simp [repD_int (h2 ▸ hq.opr y (by simp [Op.operands]))]⟩
    have sl : ∀ (e : Nat) (s : List V) (l m : Int), (tyOf t).k = .slice e → known (tyOf e).k = true → ((lo.map ρ = none ∧ l = 0) ∨ ∃ k, lo.map ρ = some (.v (.int k l))) → ((hi.map ρ = none ∧ m = s.length) ∨ ∃ k, hi.map ρ = some (.v (.int k m))) → 0 ≤ l → l ≤ m → m ≤ s.length → (∀ x ∈ s, x.flat.length = (tyOf e).size) →
        (∀ (E : Env) (ok : Oks) (w : World) (a : Act), QH E ok w a ob ρ (.slice t x lo hi none) → Rep ok w (.slice s) (a.eval x)) → Comes' P ob ρ (.slice t x lo hi none) (.v (.slice ((s.take m.toNat).drop l.toNat))) := by
      intro e s l m hk hkn h1 h2 h3 h4 h5 hz hrep E ok w a o ho hq
      obtain ⟨v1, v2⟩ := vals E ok w a hq l m s.length h1 h2
      obtain ⟨ad, c, he, hc, hr⟩ := slice_rep (hrep E ok w a hq) h3 h4 h5 hz
      have hu := ty_slice hT hk
      refine does_v (s := Instr.sliceAt t (a.eval x) (lo.map a.eval) (hi.map a.eval) (Option.none.map a.eval)) (v := .slice (if c = l.toNat then ad else ad.map (·.add (l.toNat * (tyOf e).size))) (m.toNat - l.toNat) (c - l.toNat)) (by simp only [execOp, ho]) ?_ (.v _ _ hr)
      rw [he]
      have hb := run_bounds P w true s.length c (lo.map a.eval) (hi.map a.eval) l m v1 v2 h3 h4 (by omega)
      simp [Instr.sliceAt, Instr.slice, run_underlying hu, hb, ty_size hT (known_ne' hkn)]
    split at h
    · rename_i s hx
      split at h
      · rename_i hk
        have hu := ty_str hT hk
        obtain ⟨l, m, ⟨⟨h0, h1, h2⟩, h⟩, hl, hm⟩ := boundsD_sound h
        refine ⟨_, h, fun E ok w a o ho hq => ?_⟩
        obtain ⟨v1, v2⟩ := vals E ok w a hq l m s.length hl (by simpa [std] using hm)
        have e1 := repD_str (hx ▸ hq.opr x (by simp [Op.operands]))
        refine does_v (s := Instr.sliceAt t (a.eval x) (lo.map a.eval) (hi.map a.eval) (Option.none.map a.eval)) (v := .string ⟨((s.take m.toNat).drop l.toNat).toArray⟩) (by simp only [execOp, ho]) ?_ (.v _ _ (.str _))
        rw [e1]
        have hb := run_bounds P w false s.length s.length (lo.map a.eval) (hi.map a.eval) l m v1 v2 h0 h1 h2
        simp [Instr.sliceAt, Instr.slice, run_underlying hu, hb, size_mk, extract_mk]
      · exact h.elim
    · rename_i s hx
      split at h
      · rename_i e hk
        split at h
        · rename_i hkn
          obtain ⟨hz, h⟩ := h
          obtain ⟨l, m, ⟨⟨h0, h1, h2⟩, h⟩, hl, hm⟩ := boundsD_sound h
          exact ⟨_, h, sl e s l m hk hkn hl (by simpa [std] using hm) h0 h1 h2 hz fun E ok w a hq => repD_v (hx ▸ hq.opr x (by simp [Op.operands]))⟩
        · exact h.elim
      · exact h.elim
    · rename_i hx
      split at h
      · rename_i e hk
        split at h
        · rename_i hkn
          obtain ⟨l, m, ⟨⟨h0, h1, h2⟩, h⟩, hl, hm⟩ := boundsD_sound h
          exact ⟨_, h, sl e [] l m hk hkn hl (by simpa using hm) h0 h1 h2 (by simp) fun E ok w a hq => by
            have he : a.eval x = .slice none 0 0 := repD_nils (hx ▸ hq.opr x (by simp [Op.operands]))
            rw [he]; exact rep_nil_slice _ _⟩
        · exact h.elim
      · exact h.elim
    · rename_i id hx
      split at h
      · rename_i e hk
        split at h
        · rename_i hkn
          split at h
          · rename_i z s ex hob
            split at h
            · obtain ⟨hz, h⟩ := h
              obtain ⟨l, m, ⟨⟨h0, h1, h2⟩, h⟩, hl, hm⟩ := boundsD_sound h
              refine ⟨_, h, sl e s l m hk hkn hl (by simpa [std] using hm) h0 h1 h2 hz fun E ok w a hq => ?_⟩
              exact toV_sound hq.obj (.own id) _ _ (by simp [toV, hob]) (hx ▸ hq.opr x (by simp [Op.operands]))
            · exact h.elim
          · exact h.elim
        · exact h.elim
      · exact h.elim
    · exact h.elim
end
end Go.Proofs.Ytinckcpmkocakaa.AM
