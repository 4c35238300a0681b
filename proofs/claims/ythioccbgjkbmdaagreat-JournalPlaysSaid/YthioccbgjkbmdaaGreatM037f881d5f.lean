/-
 The abstract machine, part 4: what its primitives mean; what is known of types.
-/
import Derived.Test.YthioccbgjkbmdaaGreatM022e2f6c83
import Derived.WalkLawsBesides
set_option linter.unusedVariables false
set_option linter.unusedSimpArgs false
namespace Go.Proofs.YthioccbgjkbmdaaGreat.AM
open Go Go.RowKit
theorem look?_eq {α : Type} : ∀ (l : List α) (n : Nat), look? l n = l[n]?
 | [], n => by simp [look?]
 | x :: r, 0 => by simp [look?]
 | x :: r, n + 1 => by simp [look?, look?_eq r n]
section
variable {P : Program} (hT : tableOf P = T)
include hT
theorem ty_of {t : Nat} (h : (tyOf t).k ≠ .other) : tdOf P t = some (tyOf t) := by
 unfold tyOf at *
 rw [look?_eq, ← hT] at *
 cases hl : (tableOf P)[t]? with
 | none => rw [hl] at h; exact absurd rfl h
 | some x =>
  cases x with
  | none => rw [hl] at h; exact absurd rfl h
  | some td =>
   simp only [tableOf, List.getElem?_map, Option.map_eq_some_iff] at hl
   obtain ⟨n, hn, he⟩ := hl
   have : n = t := by
    have := List.getElem?_eq_some_iff.1 hn
    obtain ⟨h1, h2⟩ := this
    simpa using h2.symm
   subst this
   exact he
theorem ty_info {t : Nat} (h : (tyOf t).k ≠ .other) : ∃ i z, P.info? t = some i ∧ i.zero = some z ∧ i.size = (tyOf t).size ∧ i.bytes = (tyOf t).bytes ∧ (tyOf t).zero = z.cells.toList.map constD1 ∧ tkOf P t = (tyOf t).k ∧ (∀ u ∈ z.cells.toList, u.oneCell' = true) ∧ z.cells.size = i.size := by
 have h := ty_of hT h
 unfold tdOf at h
 cases hi : P.info? t with
 | none => simp [hi] at h
 | some i =>
  cases hz : i.zero with
  | none => simp [hi, hz] at h
  | some z =>
   simp only [hi, hz] at h
   split at h
   ·rename_i hall
    split at h
    ·rename_i hsz
     simp only [Option.some.injEq] at h
     rw [← h]
     exact ⟨i, z, rfl, hz, rfl, rfl, rfl, rfl, List.all_eq_true.1 hall, hsz⟩
    ·simp at h
   ·simp at h
theorem ty_k {t : Nat} {k : TK} (h : (tyOf t).k = k) (hk : k ≠ .other) : tkOf P t = k := by
 obtain ⟨i, z, _, _, _, _, _, hh, _⟩ := ty_info hT (t := t) (by rw [h]; exact hk)
 rw [hh, h]
theorem ty_bool {t : Nat} (h : (tyOf t).k = .bool) : P.underlying t = some .bool := by
 have := ty_k hT h (by simp)
 unfold tkOf at this
 split at this <;> simp_all
theorem ty_int {t : Nat} {k : IntKind} (h : (tyOf t).k = .int k) : P.underlying t = some (.int k) := by
 have := ty_k hT h (by simp)
 unfold tkOf at this
 split at this <;> simp_all
theorem ty_str {t : Nat} (h : (tyOf t).k = .str) : P.underlying t = some .string := by
 have := ty_k hT h (by simp)
 unfold tkOf at this
 split at this <;> simp_all
theorem ty_slice {t e : Nat} (h : (tyOf t).k = .slice e) : P.underlying t = some (.slice e) := by
 have := ty_k hT h (by simp)
 unfold tkOf at this
 split at this <;> simp_all
theorem ty_arr {t n e : Nat} (h : (tyOf t).k = .arr n e) : P.underlying t = some (.array n e) := by
 have := ty_k hT h (by simp)
 unfold tkOf at this
 split at this <;> simp_all
theorem ty_struct {t : Nat} {fs : List (Nat × Nat)} (h : (tyOf t).k = .struct fs) : ∃ fields : Array Field, P.underlying t = some (.struct fields) ∧ fs = fields.toList.map fun f => (f.offset, f.type) := by
 have := ty_k hT h (by simp)
 unfold tkOf at this
 split at this <;> simp_all
theorem ty_size {t : Nat} (h : (tyOf t).k ≠ .other) (w : World) : (sizeOf t).run P w = .ok (tyOf t).size w := by
 obtain ⟨i, z, hi, hz, hs, _⟩ := ty_info hT h
 simp [sizeOf, typeInfo, program, Sem.run, hi, hs]
theorem ty_isAgg {t : Nat} (h : (tyOf t).k ≠ .other) (w : World) : (isAgg t).run P w = .ok (isAggT (tyOf t).k) w := by
 have hk := ty_k hT (t := t) rfl h
 unfold tkOf at hk
 have hu : ∃ d, P.underlying t = some d := by
  cases hu : P.underlying t with
  | none => rw [hu] at hk; exact absurd hk.symm h
  | some d => exact ⟨d, rfl⟩
 obtain ⟨d, hd⟩ := hu
 rw [hd] at hk
 simp only [isAgg, Sem.run_bind, run_underlying hd, Result.andThen_ok]
 cases d <;> simp only at hk <;> rw [← hk] <;> rfl
end
def EqOk (P : Program) (t : Nat) (a b : List V) (c : Bool) : Prop :=
 ∀ (ok : Oks) (w : World) (u v : Value), Rep ok w (.agg a) u → Rep ok w (.agg b) v →
  (∀ op x y, (eqGuard op t x y u v).run P w = .ok () w) ∧ (Op.equal t u v).run P w = .ok c w
def Weak (S S' : St) : Prop := ∀ G E ok a w, Conc G E ok S a w → ∃ E' ok', Conc G E' ok' S' a w
theorem Weak.refl (S : St) : Weak S S := fun G E ok a w h => ⟨E, ok, h⟩
def OpsRep (ok : Oks) (w : World) (a : Act) (op : Op) (xs : List V) : Prop :=
 xs.length = op.operands.toList.length ∧ ∀ i (h : i < op.operands.toList.length) (h' : i < xs.length), Rep ok w (xs[i]'h') (a.eval (op.operands.toList[i]'h))
def GQ (P : Program) (op : Op) (xs : List V) (gh : GH) (x : V) : Prop :=
 ∀ (ok : Oks) (w : World) (a : Act) (o : Oper), o.op = op → GlOk ok gh w → (∀ b o, ok b o → b < w.heap.size) → OpsRep ok w a op xs → ∃ v, (execOp a.eval o).run P w = .ok (.value v) w ∧ Rep ok w x v
def GOp (P : Program) (o : Oper) (xs : List V) (gh : GH) (R : V → GH → Prop) : Prop :=
 ∀ (G : Gh) (E : Env) (ok : Oks) (S : St) (a : Act) (w : World) (pub : List Nat), Conc G E ok S a w → look S.ob hk = some (.heap gh pub) → OpsRep ok w a o.op xs → ∀ Q : Exit → Act → World → Prop,
  o.wp P a w (fun a' w' => ∃ v ok' r gh', a' = a.put o.dst v ∧ R r gh' ∧ Conc G E ok' (S.setOb hk (.heap gh' pub)) a w' ∧ Rep ok' w' r v) Q
def bytesV (s : List UInt8) : List V := s.map fun b => .int .u8 b.toNat
def std (P : Program) (R : List (Nat × AObj) → List D → Prop) : Prim where
 wrap := IntKind.wrap
 add a b := a + b
 sub a b := a - b
 mul a b := a * b
 tdiv a b := a.tdiv b
 tmod a b := a.tmod b
 shl k a b := k.wrap (a * 2 ^ (min b.toNat k.bits))
 shr k a b := a.fdiv (2 ^ (min b.toNat k.bits))
 bits := Go.bits
 inot k n := Go.bits .xor k (if k.signed then -1 else k.max) n
 imin a b := if b < a then b else a
 imax a b := if b > a then b else a
 ieq a b := a == b
 ine a b := a != b
 ilt a b := decide (a < b)
 ile a b := decide (a ≤ b)
 seq a b := a == b
 sne a b := !(a == b)
 slt a b := Op.bytesLess a b
 sle a b := Op.bytesLess a b || a == b
 beq a b := a == b
 not a := !a
 cat a b := a ++ b
 lenS s := s.length
 lenL l := l.length
 app a b := a ++ b
 s2b := bytesV
 repl n x := List.replicate n.toNat x
 setL l i x := l.set i.toNat x
 cond b K := ∀ c, b = c → K c
 nz b K := b ≠ 0 ∧ K ()
 nneg b K := 0 ≤ b ∧ K ()
 inR i l K := (0 ≤ i ∧ i < l.length) ∧ K ()
 catOk a b K := a.length + b.length ≤ 9223372036854775807 ∧ K ()
 sized l z K := (∀ x ∈ l, x.flat.length = z) ∧ K ()
 isLen l n K := (l.length = n ∧ ∀ x ∈ l, x.cell = true) ∧ K ()
 room a b n K := ((a.length + b.length) * n ≤ 140737488355328 ∧ 0 < n) ∧ K ()
 mkS n c b K := (0 ≤ n ∧ n ≤ c ∧ c ≤ 140737488355328 ∧ c * b ≤ 140737488355328) ∧ K ()
 getI k l i K := ∃ n, (0 ≤ i ∧ l[i.toNat]? = some (.int k n)) ∧ K n
 getX l i K := ∃ x, (0 ≤ i ∧ l[i.toNat]? = some x ∧ x.cell = true) ∧ K x
 getA z l i K := ∃ cs, (0 ≤ i ∧ l[i.toNat]? = some (.agg cs) ∧ cs.length = z) ∧ K cs
 getC s i K := ∃ b : UInt8, (0 ≤ i ∧ s[i.toNat]? = some b) ∧ K (b.toNat : Int)
 subS s lo hi K := (0 ≤ lo ∧ lo ≤ hi ∧ hi ≤ s.length) ∧ K ((s.take hi.toNat).drop lo.toNat)
 subL s lo hi K := (0 ≤ lo ∧ lo ≤ hi ∧ hi ≤ s.length) ∧ K ((s.take hi.toNat).drop lo.toNat)
 b2s l K := ∃ s, l = bytesV s ∧ K s
 nilq l K := (l ≠ [] ∧ K (.lit false)) ∨ K .ub
 eqA t a b K := ∃ c, EqOk P t a b c ∧ K c
 call f xs h K := ∃ ys, Subs xs ys ∧ ((∃ rs, FnR P f ys rs ∧ K rs none) ∨ ∃ gh post, h = some gh ∧ FnG P f ys gh post ∧ ∀ rs gh', post rs gh' → K rs (some gh'))
 gq op xs gh K := ∃ x, GQ P op xs gh x ∧ K x
 gop o xs gh K := ∃ r gh', GOp P o xs gh (fun r' h' => r' = r ∧ h' = gh') ∧ K r gh'
 gopN o xs gh K := ∃ R, GOp P o xs gh R ∧ ∀ r gh', R r gh' → K r gh'
 gsl gh id z n K := ∃ l, (gh.get id = some (.row z l) ∧ 0 ≤ n ∧ n ≤ l.length) ∧ K (l.take n.toNat)
 chk b K := b () = true ∧ K ()
 weak S K := ∃ S', Weak S S' ∧ K S'
 loop body Q S := ∃ (ι : Type) (st : ι → St) (I : ι → Prop) (μ : ι → Nat), (∃ p, Weak S (st p) ∧ I p) ∧ ∀ p, I p → body (fun e S' => match e with
  | .normal => ∃ q, Weak S' (st q) ∧ I q ∧ μ q < μ p
  | e => Q e S') (st p)
 ret := R
 callH f xs gh K := ∃ ys rs, Subs xs ys ∧ FnG P f ys gh (fun rs' gh' => rs' = rs ∧ gh' = gh) ∧ K rs
open Go Go.RowKit
structure Grow (w : World) (ok : Oks) (w' : World) (ok' : Oks) : Prop where
 below : Below w.heap.size w w'
 sub : ∀ b o, ok b o → ok' b o
 new : ∀ b o, ok' b o → ok b o ∨ (w.heap.size ≤ b ∧ b < w'.heap.size)
 env : EnvEq ok ok'
theorem Grow.refl (w : World) (ok : Oks) : Grow w ok w ok := ⟨Below.refl _ _, fun _ _ h => h, fun _ _ h => .inl h, .refl _⟩
theorem Grow.same {w w' : World} {ok ok' : Oks} (h : Grow w ok w' ok') (hb : ∀ b o, ok b o → b < w.heap.size) : Same ok ok' w w' :=
 ⟨h.sub, fun b o q => h.below.cell (p := ⟨b, o, none⟩) (hb b o q), h.env.ext⟩
theorem Grow.okb {w w' : World} {ok ok' : Oks} (h : Grow w ok w' ok') (hb : ∀ b o, ok b o → b < w.heap.size) : ∀ b o, ok' b o → b < w'.heap.size := by
 intro b o q
 rcases h.new b o q with q | ⟨_, q⟩
 ·exact Nat.lt_of_lt_of_le (hb b o q) h.below.size
 ·exact q
theorem gobj_lt {ok : Oks} {w : World} {id b : Nat} {o : GObj} (h : GRep ok w id o) (hb : ok.blk id = some b) : b < w.heap.size := by
 cases o with
 | box l => obtain ⟨b', _, _, q, q', _⟩ := h; rw [hb] at q; cases q; exact heap_lt q'
 | row z l =>
  rcases h with ⟨_, q⟩ | ⟨b', _, _, q, q', _⟩
  ·rw [hb] at q; cases q
  ·rw [hb] at q; cases q; exact heap_lt q'
 | map es c => obtain ⟨b', _, q, q', _⟩ := h; rw [hb] at q; cases q; exact heap_lt q'
 | sit s p => obtain ⟨b', q, q', _⟩ := h; rw [hb] at q; cases q; exact heap_lt q'
 | mit m s x y => obtain ⟨b', _, q, q', _⟩ := h; rw [hb] at q; cases q; exact heap_lt q'
 | frow z l =>
  rcases h with ⟨_, q⟩ | ⟨b', q, q', _⟩
  ·rw [hb] at q; cases q
  ·rw [hb] at q; cases q; exact q'
 | arow z l =>
  rcases h with ⟨_, q⟩ | ⟨b', _, _, q, q', _⟩
  ·rw [hb] at q; cases q
  ·rw [hb] at q; cases q; exact heap_lt q'
theorem GRep.stay {ok ok' : Oks} {w w' : World} (hs : Same ok ok' w w') {id : Nat} (hid : id < ok.next) {o : GObj} (hsz : w.heap.size ≤ w'.heap.size) (hblk : ¬ o.isF → ∀ b, ok.blk id = some b → w'.heap[b]? = w.heap[b]? ∧ ∀ o, ok' b o → ok b o) (h : GRep ok w id o) : GRep ok' w' id o := by
 have e1 := hs.env.blk id hid
 have e2 := hs.env.cap id hid
 cases o with
 | frow z l =>
  rcases h with ⟨h1, h2⟩ | ⟨b, h1, h2, h4, h5, h6, h7⟩
  ·exact .inl ⟨h1, e1.trans h2⟩
  ·exact .inr ⟨b, e1.trans h1, Nat.lt_of_lt_of_le h2 hsz, by rw [e2]; exact h4, by rw [e2]; exact h5, h6.mono hs (fun i hi => by rw [Nat.zero_add]; exact hs.cell _ _ (h7 i hi)), fun j hj => hs.sub _ _ (h7 j hj)⟩
 | box l =>
  obtain ⟨b, e, cs, h1, h2, h3, h4, h5⟩ := h
  obtain ⟨q1, q2⟩ := hblk (fun h => h) b h1
  refine ⟨b, e, cs, e1.trans h1, q1.trans h2, h3, fun o q => h4 o (q2 o q), fun j hj => ?_⟩
  obtain ⟨u, k1, k2, k3⟩ := h5 j hj
  exact ⟨u, k1, k2, k3.mono hs⟩
 | row z l =>
  rcases h with ⟨h1, h2⟩ | ⟨b, cs, e, h1, h2, h3, h4, h5, h6, h7⟩
  ·exact .inl ⟨h1, e1.trans h2⟩
  ·obtain ⟨q1, q2⟩ := hblk (fun h => h) b h1
   have hc : ∀ o, w'.cell? ⟨b, o, none⟩ = w.cell? ⟨b, o, none⟩ := fun o => by simp only [World.cell?, q1]
   exact .inr ⟨b, cs, e, e1.trans h1, q1.trans h2, by rw [e2]; exact h3, by rw [e2]; exact h4, by rw [e2]; exact h5, h6.mono hs (fun i _ => hc _), fun o q => h7 o (q2 o q)⟩
 | arow z l =>
  rcases h with ⟨h1, h2⟩ | ⟨b, cs, e, h1, h2, h3, h4, h5, h6, h7, h8⟩
  ·exact .inl ⟨h1, e1.trans h2⟩
  ·obtain ⟨q1, q2⟩ := hblk (fun h => h) b h1
   have hc : ∀ o, w'.cell? ⟨b, o, none⟩ = w.cell? ⟨b, o, none⟩ := fun o => by simp only [World.cell?, q1]
   exact .inr ⟨b, cs, e, e1.trans h1, q1.trans h2, by rw [e2]; exact h3, by rw [e2]; exact h4, by rw [e2]; exact h5, h6.mono hs (fun i _ => hc _), fun o q => hs.sub _ _ (h7 o q), fun o k1 k2 q => h8 o k1 (by rw [← e2]; exact k2) (q2 o q)⟩
 | map es c =>
  obtain ⟨b, ents, h1, h2, hn, h3, h4⟩ := h
  obtain ⟨q1, q2⟩ := hblk (fun h => h) b h1
  exact ⟨b, ents, e1.trans h1, q1.trans h2, fun o q => hn o (q2 o q), h3, fun i hi hi' => ⟨(h4 i hi hi').1, (h4 i hi hi').2.1.mono hs, (h4 i hi hi').2.2.mono hs⟩⟩
 | sit s p =>
  obtain ⟨b, h1, h2, hn⟩ := h
  obtain ⟨q1, q2⟩ := hblk (fun h => h) b h1
  exact ⟨b, e1.trans h1, q1.trans h2, fun o q => hn o (q2 o q)⟩
 | mit m s x y =>
  obtain ⟨b, r, h1, h2, hn, h3⟩ := h
  obtain ⟨q1, q2⟩ := hblk (fun h => h) b h1
  refine ⟨b, r, e1.trans h1, q1.trans h2, fun o q => hn o (q2 o q), ?_⟩
  cases m with
  | none => exact h3
  | some k =>
   obtain ⟨g1, bk, g2, g3⟩ := h3
   exact ⟨Nat.lt_of_lt_of_le g1 hs.env.next, bk, (hs.env.blk k g1).trans g2, g3⟩
theorem GlOk.stay {ok ok' : Oks} {gh : GH} {w w' : World} (hs : Same ok ok' w w') (hsz : w.heap.size ≤ w'.heap.size) (he : EnvEq ok ok') (hblk : ∀ b, occG ok gh b → w'.heap[b]? = w.heap[b]? ∧ ∀ o, ok' b o → ok b o) (h : GlOk ok gh w) : GlOk ok' gh w' where
 next := h.next.trans he.next.symm
 obj id o q := ⟨by rw [he.next]; exact (h.obj id o q).1, (h.obj id o q).2.stay hs (h.obj id o q).1 hsz fun hf b hb => hblk b ⟨id, o, q, hf, hb⟩⟩
 apart i j o p b h1 h2 hne f1 f2 hb := by rw [he.blk] at hb ⊢; exact h.apart i j o p b h1 h2 hne f1 f2 hb
theorem occG_env {ok ok' : Oks} (he : EnvEq ok ok') (gh : GH) (b : Nat) : occG ok' gh b ↔ occG ok gh b := by unfold occG; rw [he.blk]
theorem occ_env {E : Env} {ok ok' : Oks} (he : EnvEq ok ok') (id : Nat) (o : AObj) (b : Nat) : occ E ok' id o b ↔ occ E ok id o b := by
 cases o <;> first | exact Iff.rfl | exact occG_env he _ _
theorem GlOk.lt {ok : Oks} {gh : GH} {w : World} (h : GlOk ok gh w) {b : Nat} (hb : occG ok gh b) : b < w.heap.size := by
 obtain ⟨id, o, h1, _, h2⟩ := hb
 exact gobj_lt (h.obj id o h1).2 h2
theorem GRep.not_ok {ok : Oks} {w : World} {id b : Nat} {o : GObj} (h : GRep ok w id o) (hf : ¬ o.isF) (ha : ¬ o.isA) (hb : ok.blk id = some b) : ∀ k, ¬ ok b k := by
 cases o with
 | arow z l => exact absurd trivial ha
 | frow z l => exact absurd trivial hf
 | box l => obtain ⟨b', _, _, q, _, _, q', _⟩ := h; rw [hb] at q; cases q; exact q'
 | row z l =>
  rcases h with ⟨_, q⟩ | ⟨b', _, _, q, _, _, _, _, _, q'⟩
  ·rw [hb] at q; cases q
  ·rw [hb] at q; cases q; exact q'
 | map es c => obtain ⟨b', _, q, _, q', _⟩ := h; rw [hb] at q; cases q; exact q'
 | sit s p => obtain ⟨b', q, _, q'⟩ := h; rw [hb] at q; cases q; exact q'
 | mit m s x y => obtain ⟨b', _, q, _, q', _⟩ := h; rw [hb] at q; cases q; exact q'
theorem ObjRep.grow {E : Env} {w w' : World} {ok ok' : Oks} (h : Grow w ok w' ok') (hb : ∀ b o, ok b o → b < w.heap.size) {id : Nat} {o : AObj} (r : ObjRep E ok w id o) : ObjRep E ok' w' id o := by
 have hs := h.same hb
 have hcell : ∀ b : Nat, b < w.heap.size → ∀ o, w'.cell? ⟨b, o, none⟩ = w.cell? ⟨b, o, none⟩ := fun b q o => h.below.cell (p := ⟨b, o, none⟩) q
 have hno : ∀ b : Nat, b < w.heap.size → ∀ o, ok' b o → ok b o := fun b q o r => by
  rcases h.new b o r with r | ⟨r, _⟩
  ·exact r
  ·omega
 cases o with
 | box l =>
  obtain ⟨b, e, cs, h1, h2, h3, h4, h5⟩ := r
  have hlt := heap_lt h2
  refine ⟨b, e, cs, h1, (h.below.block b hlt).trans h2, h3, fun o q => h4 o (hno b hlt o q), fun j hj => ?_⟩
  obtain ⟨u, hu, hu', hr⟩ := h5 j hj
  exact ⟨u, hu, hu', hr.mono hs⟩
 | cbox l =>
  obtain ⟨b, h1, hlt, h2, h3⟩ := r
  refine ⟨b, h1, Nat.lt_of_lt_of_le hlt h.below.size, h2, fun j hj => ?_⟩
  obtain ⟨q, u, hu, hr⟩ := h3 j hj
  exact ⟨hs.sub _ _ q, u, (hs.cell _ _ q).trans hu, hr.mono hs⟩
 | row z l ex =>
  rcases r with r | ⟨b, cap, cs, e, h1, h2, h3, h4, h5, h6, h7, h8⟩
  ·exact .inl r
  ·have hlt := heap_lt h3
   refine .inr ⟨b, cap, cs, e, h1, h2, (h.below.block b hlt).trans h3, h4, h5, h6, h7.mono hs (fun i _ => hcell b hlt _), fun o => ⟨fun q => (h8 o).1 (hno b hlt o q), fun q => hs.sub _ _ ((h8 o).2 q)⟩⟩
 | heap gh pub => exact ⟨r.1, GlOk.stay hs h.below.size h.env (fun b hb => ⟨h.below.block b (GlOk.lt r.2 hb), hno b (GlOk.lt r.2 hb)⟩) r.2⟩
theorem Conc.grow {G : Gh} {E : Env} {ok ok' : Oks} {S : St} {a : Act} {w w' : World} (c : Conc G E ok S a w) (h : Grow w ok w' ok') : Conc G E ok' S a w' where
 n := c.n
 defers := c.defers
 slot t := (c.slot t).mono (h.same c.okb)
 obj id o q := (c.obj id o q).grow h c.okb
 apart i j o p b h1 h2 hne hb := by rw [occ_env h.env] at hb ⊢; exact c.apart i j o p b h1 h2 hne hb
 reg i o b h1 hb := by rw [occ_env h.env] at hb; exact c.reg i o b h1 hb
 okb := h.okb c.okb
 sub b o q := h.sub b o (c.sub b o q)
 env := c.env.trans h.env.ext
 envq q := (c.envq q).trans h.env
 hp := c.hp
 newk b o q := (h.new b o q).elim (c.newk b o) fun q => .inr (.inl (Nat.le_trans c.size q.1))
 os := h.below.os.trans c.os
 tape := h.below.tape.trans c.tape
 output := h.below.output.trans c.output
 size := Nat.le_trans c.size h.below.size
 old b h1 h2 := (h.below.block b (Nat.lt_of_lt_of_le h1 c.size)).trans (c.old b h1 h2)
 keep b o q := ((h.same c.okb).cell b o (c.sub b o q)).trans (c.keep b o q)
theorem get_put (S : St) (dst : Option Nat) (d : D) (t : Nat) : (S.put dst d).get t = if dst = some t ∧ t < S.n then d else S.get t := by
 unfold St.put
 cases dst with
 | none => simp
 | some u =>
  by_cases hu : u < S.n
  ·simp only [hu, if_true, St.get, look]
   by_cases e : u = t
   ·subst e; simp [hu]
   ·simp [e]
  ·simp only [hu, if_false]
   by_cases e : u = t
   ·subst e; simp [hu]
   ·simp [e]
theorem put_ob (S : St) (dst : Option Nat) (d : D) : (S.put dst d).ob = S.ob := by unfold St.put; cases dst <;> simp; split <;> rfl
theorem put_n (S : St) (dst : Option Nat) (d : D) : (S.put dst d).n = S.n := by unfold St.put; cases dst <;> simp; split <;> rfl
theorem Conc.put {G : Gh} {E : Env} {ok : Oks} {S : St} {a : Act} {w : World} (c : Conc G E ok S a w) (dst : Option Nat) {d : D} {v : Value} (r : RepD E ok w d v) : Conc G E ok (S.put dst d) (a.put dst v) w := by
 have hn : (a.put dst v).tmps.size = a.tmps.size := by cases dst <;> simp [Act.put]
 refine { c with n := by rw [hn, put_n]; exact c.n, defers := ?_, slot := fun t => ?_, obj := by rw [put_ob]; exact c.obj, apart := by rw [put_ob]; exact c.apart, reg := by rw [put_ob]; exact c.reg, hp := by rw [put_ob]; exact c.hp }
 ·cases dst <;> exact c.defers
 ·rw [get_put]
  cases dst with
  | none => simpa [Act.put] using c.slot t
  | some u =>
   by_cases e : u = t
   ·subst e
    by_cases hu : u < S.n
    ·simp only [hu, and_self, if_true, Act.put]
     have : u < a.tmps.size := by rw [c.n]; exact hu
     simp [this, r]
    ·simp only [hu, and_false, if_false, Act.put]
     have : ¬ u < a.tmps.size := by rw [c.n]; exact hu
     have h1 := c.slot u
     simpa [this] using h1
   ·have : ¬ (some u = some t ∧ t < S.n) := by simp [e]
    simp only [this, if_false, Act.put]
    have h1 := c.slot t
    simpa [Array.getElem?_setIfInBounds_ne e] using h1
structure QH (E : Env) (ok : Oks) (w : World) (a : Act) (ob : List (Nat × AObj)) (ρ : Operand → D) (op : Op) : Prop where
 opr : ∀ x, x ∈ op.operands.toList → RepD E ok w (ρ x) (a.eval x)
 obj : ∀ id o, look ob id = some o → ObjRep E ok w id o
 okb : ∀ b o, ok b o → b < w.heap.size
def Does (P : Program) (E : Env) (o : Oper) (a : Act) (w : World) (ok : Oks) (d : D) : Prop :=
 ∀ (next : Act → World → Prop) (Q : Exit → Act → World → Prop), (∀ v w' ok', Grow w ok w' ok' → RepD E ok' w' d v → next (a.put o.dst v) w') → o.wp P a w next Q
theorem does_run {P : Program} {E : Env} {o : Oper} {a : Act} {w : World} {ok : Oks} {d : D} {v : Value} (h : (execOp a.eval o).run P w = .ok (.value v) w) (r : RepD E ok w d v) : Does P E o a w ok d := by
 intro next Q hn
 unfold Oper.wp
 rw [h]
 exact hn v w ok (Grow.refl _ _) r
theorem does_grow {P : Program} {E : Env} {o : Oper} {a : Act} {w w' : World} {ok ok' : Oks} {d : D} {v : Value} (h : (execOp a.eval o).run P w = .ok (.value v) w') (g : Grow w ok w' ok') (r : RepD E ok' w' d v) : Does P E o a w ok d := by
 intro next Q hn
 unfold Oper.wp
 rw [h]
 exact hn v w' ok' g r
theorem rep_int {ok : Oks} {w : World} {k : IntKind} {n : Int} {u : Value} (h : Rep ok w (.int k n) u) : u = .int k n := by cases h; rfl
theorem rep_str {ok : Oks} {w : World} {s : List UInt8} {u : Value} (h : Rep ok w (.str s) u) : u = .string ⟨s.toArray⟩ := by cases h; rfl
theorem rep_bool {ok : Oks} {w : World} {b : Bool} {u : Value} (h : Rep ok w (.bool b) u) : u = .bool b := by cases h; rfl
theorem repD_v {E : Env} {ok : Oks} {w : World} {x : V} {u : Value} (h : RepD E ok w (.v x) u) : Rep ok w x u := by cases h; assumption
theorem repD_int {E : Env} {ok : Oks} {w : World} {k : IntKind} {n : Int} {u : Value} (h : RepD E ok w (.v (.int k n)) u) : u = .int k n := rep_int (repD_v h)
theorem repD_str {E : Env} {ok : Oks} {w : World} {s : List UInt8} {u : Value} (h : RepD E ok w (.v (.str s)) u) : u = .string ⟨s.toArray⟩ := rep_str (repD_v h)
theorem repD_bool {E : Env} {ok : Oks} {w : World} {b : Bool} {u : Value} (h : RepD E ok w (.v (.bool b)) u) : u = .bool b := rep_bool (repD_v h)
theorem repD_lit {E : Env} {ok : Oks} {w : World} {b : Bool} {u : Value} (h : RepD E ok w (.lit b) u) : u = .bool b := by cases h; rfl
theorem keq_eq {k k' : IntKind} (h : keq k k' = true) : k = k' := by cases k <;> cases k' <;> first | rfl | simp [keq] at h
theorem size_mk (s : List UInt8) : (ByteArray.mk s.toArray).size = s.length := by simp [ByteArray.size]
theorem toList_mk (s : List UInt8) : (ByteArray.mk s.toArray).toList = s := by rw [ByteArray.toList_eq]
theorem append_mk (a b : List UInt8) : ByteArray.mk a.toArray ++ ByteArray.mk b.toArray = ⟨(a ++ b).toArray⟩ := by
 apply ByteArray.ext
 simp
theorem run_bits (P : Program) (op : BinOp) (k : IntKind) (a b : Int) (w : World) (h : op = .and ∨ op = .or ∨ op = .xor ∨ op = .andNot) : (Op.intBits op k a b).run P w = .ok (.int k (Go.bits op k a b)) w := by
 rcases h with rfl | rfl | rfl | rfl <;> simp [Op.intBits, Go.bits]
theorem intD_sound (P : Program) (R : List (Nat × AObj) → List D → Prop) (op : BinOp) (t : Nat) (k k' : IntKind) (a b : Int) (K : D → Prop) (hk : isShift op = false → k = k') (h : intD (std P R) op k a b K) :
  ∃ x, K (.v x) ∧ ∃ v, (∀ ok w, Rep ok w x v) ∧ ∀ (w : World) (p q : Operand), ((do eqGuard op t p q (.int k a) (.int k' b); binOp op t (.int k a) (.int k' b)) : Sem Value).run P w = .ok v w := by
 have hg : ∀ (w : World) p q, (eqGuard op t p q (.int k a) (.int k' b)).run P w = .ok () w := by
  intro w p q; unfold eqGuard; cases op <;> simp
 simp only [Sem.run_bind, hg, Result.andThen_ok]
 cases op <;> simp only [intD, std] at h <;> (try (have hk := hk rfl; subst hk))
 case add => exact ⟨_, h, _, fun _ _ => .int _ _, fun w _ _ => by simp [binOp, Op.intArith]⟩
 case sub => exact ⟨_, h, _, fun _ _ => .int _ _, fun w _ _ => by simp [binOp, Op.intArith]⟩
 case mul => exact ⟨_, h, _, fun _ _ => .int _ _, fun w _ _ => by simp [binOp, Op.intArith]⟩
 case quo => exact ⟨_, h.2, _, fun _ _ => .int _ _, fun w _ _ => by simp [binOp, Op.intDiv, h.1]⟩
 case rem => exact ⟨_, h.2, _, fun _ _ => .int _ _, fun w _ _ => by simp [binOp, Op.intDiv, h.1]⟩
 case and => exact ⟨_, h, _, fun _ _ => .int _ _, fun w _ _ => by simp [binOp]; exact run_bits P _ _ _ _ _ (by simp)⟩
 case or => exact ⟨_, h, _, fun _ _ => .int _ _, fun w _ _ => by simp [binOp]; exact run_bits P _ _ _ _ _ (by simp)⟩
 case xor => exact ⟨_, h, _, fun _ _ => .int _ _, fun w _ _ => by simp [binOp]; exact run_bits P _ _ _ _ _ (by simp)⟩
 case andNot => exact ⟨_, h, _, fun _ _ => .int _ _, fun w _ _ => by simp [binOp]; exact run_bits P _ _ _ _ _ (by simp)⟩
 case shl => exact ⟨_, h.2, _, fun _ _ => .int _ _, fun w _ _ => by simp [binOp, Op.shift, show ¬ b < 0 from by omega]⟩
 case shr => exact ⟨_, h.2, _, fun _ _ => .int _ _, fun w _ _ => by simp [binOp, Op.shift, show ¬ b < 0 from by omega]⟩
 case eql => exact ⟨_, h, _, fun _ _ => .bool _, fun w _ _ => by simp [binOp, Op.intCmp]⟩
 case neq => exact ⟨_, h, _, fun _ _ => .bool _, fun w _ _ => by simp [binOp, Op.intCmp]⟩
 case lss => exact ⟨_, h, _, fun _ _ => .bool _, fun w _ _ => by simp [binOp, Op.intCmp]⟩
 case leq => exact ⟨_, h, _, fun _ _ => .bool _, fun w _ _ => by simp [binOp, Op.intCmp]⟩
 case gtr => exact ⟨_, h, _, fun _ _ => .bool _, fun w _ _ => by simp [binOp, Op.intCmp]⟩
 case geq => exact ⟨_, h, _, fun _ _ => .bool _, fun w _ _ => by simp [binOp, Op.intCmp]⟩
theorem strD_sound (P : Program) (R : List (Nat × AObj) → List D → Prop) (op : BinOp) (t : Nat) (a b : List UInt8) (K : D → Prop) (h : strD (std P R) op a b K) :
  ∃ x, K (.v x) ∧ ∃ v, (∀ ok w, Rep ok w x v) ∧ ∀ (w : World) (p q : Operand), ((do eqGuard op t p q (.string ⟨a.toArray⟩) (.string ⟨b.toArray⟩); binOp op t (.string ⟨a.toArray⟩) (.string ⟨b.toArray⟩)) : Sem Value).run P w = .ok v w := by
 have hg : ∀ (w : World) p q, (eqGuard op t p q (.string ⟨a.toArray⟩) (.string ⟨b.toArray⟩)).run P w = .ok () w := by
  intro w p q; unfold eqGuard; cases op <;> simp
 simp only [Sem.run_bind, hg, Result.andThen_ok]
 cases op <;> simp only [strD, std] at h
 case add =>
  have hlen : ¬ (((ByteArray.mk a.toArray).size + (ByteArray.mk b.toArray).size : Nat) : Int) > IntKind.i64.max := by
   have e : IntKind.i64.max = 9223372036854775807 := by decide
   rw [size_mk, size_mk, e]; omega
  exact ⟨_, h.2, .string ⟨(a ++ b).toArray⟩, fun _ _ => .str _, fun w _ _ => by
   simp only [binOp, Op.stringOp]; rw [if_neg hlen, append_mk]; rfl⟩
 case eql => exact ⟨_, h, _, fun _ _ => .bool _, fun w _ _ => by simp [binOp, Op.stringOp, toList_mk]⟩
 case neq => exact ⟨_, h, _, fun _ _ => .bool _, fun w _ _ => by simp [binOp, Op.stringOp, toList_mk]⟩
 case lss => exact ⟨_, h, _, fun _ _ => .bool _, fun w _ _ => by simp [binOp, Op.stringOp, toList_mk]⟩
 case leq => exact ⟨_, h, _, fun _ _ => .bool _, fun w _ _ => by simp [binOp, Op.stringOp, toList_mk]⟩
 case gtr =>
  refine ⟨_, h, .bool (Op.bytesLess b a), fun _ _ => .bool _, fun w _ _ => ?_⟩
  simp only [binOp, Op.stringOp, toList_mk, Sem.run_pure]
  congr 2
  exact (bytesLess_gt a b)
 case geq =>
  refine ⟨_, h, .bool (Op.bytesLess b a || b == a), fun _ _ => .bool _, fun w _ _ => ?_⟩
  simp only [binOp, Op.stringOp, toList_mk, Sem.run_pure]
  congr 2
  exact (bytesLess_ge a b)
where
 bytesLess_gt : ∀ a b : List UInt8, (!(Op.bytesLess a b || a == b)) = Op.bytesLess b a
  | [], [] => rfl
  | [], _ :: _ => rfl
  | _ :: _, [] => rfl
  | x :: a, y :: b => by
   have ih := bytesLess_gt a b
   simp only [Op.bytesLess, List.cons_beq_cons]
   rcases Nat.lt_trichotomy x.toNat y.toNat with h | h | h
   ·have h1 : x < y := UInt8.lt_iff_toNat_lt.2 h
    have h2 : ¬ y < x := fun q => by have := UInt8.lt_iff_toNat_lt.1 q; omega
    have h3 : (y == x) = false := by simp; intro q; subst q; omega
    simp [h1, h2, h3]
   ·have h0 : x = y := UInt8.toNat_inj.1 h
    subst h0
    simp [ih]
   ·have h1 : y < x := UInt8.lt_iff_toNat_lt.2 h
    have h2 : ¬ x < y := fun q => by have := UInt8.lt_iff_toNat_lt.1 q; omega
    have h3 : (x == y) = false := by simp; intro q; subst q; omega
    simp [h1, h2, h3]
 bytesLess_ge (a b : List UInt8) : (!(Op.bytesLess a b)) = (Op.bytesLess b a || b == a) := by
  have h1 := bytesLess_gt b a
  rw [← h1]
  simp
open Go Go.RowKit
section
theorem add_plain (g o j : Nat) : (⟨g, o, none⟩ : Addr).add j = ⟨g, o + j, none⟩ := by unfold Addr.add; split <;> simp_all
theorem rep_cell {ok : Oks} {w : World} {x : V} {u : Value} (r : Rep ok w x u) (h : u.oneCell' = true) : x.cell = true := by
 cases r <;> simp [Value.oneCell'] at h <;> rfl
theorem rep_agg {ok : Oks} {w : World} {l : List V} {u : Value} (h : Rep ok w (.agg l) u) : ∃ cs : List Value, u = .agg cs.toArray ∧ cs.length = l.length ∧ (∀ i (h : i < l.length), (l[i]'h).cell = true) ∧ ∀ i (h : i < l.length) (h' : i < cs.length), Rep ok w (l[i]'h) (cs[i]'h') := by
 cases h with
 | agg _ cs hl hc hr => exact ⟨cs, rfl, hl, hc, hr⟩
theorem rep_tup {ok : Oks} {w : World} {l : List V} {u : Value} (h : Rep ok w (.tup l) u) : ∃ cs : List Value, u = .tuple cs.toArray ∧ cs.length = l.length ∧ ∀ i (h : i < l.length) (h' : i < cs.length), Rep ok w (l[i]'h) (cs[i]'h') := by
 cases h with
 | tup _ cs hl hr => exact ⟨cs, rfl, hl, hr⟩
theorem rep_nil_slice (ok : Oks) (w : World) : Rep ok w (.slice []) (.slice none 0 0) :=
 .slice [] none 0 0 (fun _ _ => undef) (by simp) (by simp) (by simp) (by simp) (by simp) (by simp)
theorem rep_row {ok : Oks} {w : World} {b off z cap : Nat} {l : List V} (r : RowAt ok w b off z l) (hok : ∀ j, j < l.length * z → ok b (off + j)) (hc : l.length ≤ cap) (hm : cap ≤ maxLen) : Rep ok w (.slice l) (.slice (some ⟨b, off, none⟩) l.length cap) := by
 refine .slice l _ cap z (fun i j => (w.cell? ⟨b, off + (i * z + j), none⟩).getD undef) hc hm (fun hp => ⟨b, off, rfl, fun i j hi hj => ?_⟩) r.hz r.hcell (fun i hi j hj => ?_)
 ·have h2 : i * z + z ≤ l.length * z := by rw [← Nat.succ_mul]; exact Nat.mul_le_mul_right _ hi
  have hj' : j < (l[i]'hi).flat.length := by rw [r.hz i hi]; exact hj
  obtain ⟨u, hu, hx⟩ := r.hr i hi j hj'
  exact ⟨hok _ (by omega), by rw [hu]; rfl⟩
 ·obtain ⟨u, hu, hx⟩ := r.hr i hi j hj
  rw [hu]; exact hx
theorem slice_row {ok : Oks} {w : World} {l : List V} {u : Value} (h : Rep ok w (.slice l) u) : ∃ a c, u = .slice a l.length c ∧ l.length ≤ c ∧ c ≤ maxLen ∧ ∃ z, (∀ i (h : i < l.length), (l[i]'h).flat.length = z) ∧
  (∀ i (h : i < l.length) j (hj : j < (l[i]'h).flat.length), ((l[i]'h).flat[j]'hj).cell = true) ∧
  (0 < l.length → ∃ b off, a = some ⟨b, off, none⟩ ∧ RowAt ok w b off z l ∧ ∀ j, j < l.length * z → ok b (off + j)) := by
 cases h with
 | slice _ a c z us hc hm ha hz hcell hr =>
  refine ⟨a, c, rfl, hc, hm, z, hz, hcell, fun hp => ?_⟩
  obtain ⟨b, off, e, hx⟩ := ha hp
  refine ⟨b, off, e, ⟨hz, hcell, fun i hi j hj => ⟨us i j, (hx i j hi (by rw [← hz i hi]; exact hj)).2, hr i hi j hj⟩⟩, fun j hj => ?_⟩
  rcases Nat.eq_zero_or_pos z with h0 | h0
  ·subst h0; omega
  ·have h1 : j / z < l.length := Nat.div_lt_of_lt_mul (by rw [Nat.mul_comm]; exact hj)
   have h2 := (hx (j / z) (j % z) h1 (Nat.mod_lt _ h0)).1
   have h3 : j / z * z + j % z = j := by rw [Nat.mul_comm]; exact Nat.div_add_mod j z
   rwa [h3] at h2
mutual
theorem toV_sound {E : Env} {ok : Oks} {w : World} {ob : List (Nat × AObj)} (ho : ∀ id o, look ob id = some o → ObjRep E ok w id o) : ∀ (d : D) (x : V) (u : Value), toV ob d = some x → RepD E ok w d u → Rep ok w x u
 | .any, x, u, h, r => by simp [toV] at h
 | .ub, x, u, h, r => by simp [toV] at h
 | .lit b, x, u, h, r => by
  simp [toV] at h; subst h; cases r; exact .bool _
 | .v y, x, u, h, r => by
  simp [toV] at h; subst h; exact repD_v r
 | .nils, x, u, h, r => by
  simp [toV] at h; subst h; cases r; exact rep_nil_slice _ _
 | .agg l, x, u, h, r => by
  unfold toV at h
  split at h
  ·rename_i xs hx
   simp at h; subst h
   cases r with
   | agg _ cs hl hcell hr =>
    obtain ⟨h1, h2⟩ := toVs_sound ho l xs cs hx hl hr
    exact .agg _ _ (by omega) (fun i hi => rep_cell (h2 i hi (by omega)) (hcell _ (List.getElem_mem _))) h2
  ·simp at h
 | .tup l, x, u, h, r => by
  unfold toV at h
  split at h
  ·rename_i xs hx
   simp at h; subst h
   cases r with
   | tup _ cs hl hr =>
    obtain ⟨h1, h2⟩ := toVs_sound ho l xs cs hx hl hr
    exact .tup _ _ (by omega) h2
  ·simp at h
 | .ptr id off, x, u, h, r => by
  unfold toV at h
  split at h
  ·rename_i l hl
   simp at h; subst h
   have hb := ho _ _ hl
   obtain ⟨b, h1, _, h2, h3⟩ := hb
   cases r with
   | ptr _ _ b' hb' =>
    rw [h1] at hb'; cases hb'
    refine .ref _ b off (fun j => (w.cell? ⟨b, off + j, none⟩).getD undef) (fun j hj => ?_) (fun j hj => ?_) (fun j hj => ?_)
    ·simp at hj
     obtain ⟨q, u, hu, _⟩ := h3 (off + j) (by omega)
     exact ⟨q, by rw [hu]; rfl⟩
    ·simp only [List.getElem_drop]; exact h2 _ (by simp at hj; omega)
    ·simp at hj
     obtain ⟨q, u, hu, hr⟩ := h3 (off + j) (by omega)
     simp only [List.getElem_drop]
     rw [hu]; exact hr
  ·simp at h
 | .own id, x, u, h, r => by
  unfold toV at h
  split at h
  ·rename_i z l ex hl
   split at h
   ·simp at h; subst h
    have hb := ho _ _ hl
    cases r
    rcases hb with ⟨rfl, _, hh⟩ | ⟨b, cap, cs, e, h1, h2, h3, h4, h5, h6, h7, h8⟩
    ·rw [hh]; exact rep_nil_slice _ _
    ·rw [h2]
     exact rep_row h7 (fun j hj => (h8 _).2 ⟨rfl, by omega⟩) h5 h6
   ·simp at h
  ·simp at h
 | .rptr _ _ _ _, x, u, h, r => by simp [toV] at h
 | .fn f cap, x, u, h, r => by
  unfold toV at h
  split at h
  ·rename_i xs hx
   simp at h; subst h
   cases r with
   | fn _ _ cs hl hr =>
    obtain ⟨h1, h2⟩ := toVs_sound ho cap xs cs hx hl hr
    exact .clo _ _ _ (by omega) h2
  ·simp at h
theorem toVs_sound {E : Env} {ok : Oks} {w : World} {ob : List (Nat × AObj)} (ho : ∀ id o, look ob id = some o → ObjRep E ok w id o) : ∀ (l : List D) (xs : List V) (cs : List Value), toVs ob l = some xs → cs.length = l.length →
  (∀ i (h : i < l.length) (h' : i < cs.length), RepD E ok w (l[i]'h) (cs[i]'h')) → xs.length = l.length ∧ ∀ i (h : i < xs.length) (h' : i < cs.length), Rep ok w (xs[i]'h) (cs[i]'h')
 | [], xs, cs, h, hl, hr => by simp [toVs] at h; subst h; simp
 | d :: r, xs, [], h, hl, hr => by simp at hl
 | d :: r, xs, c :: cs, h, hl, hr => by
  unfold toVs at h
  split at h
  ·rename_i x hx
   split at h
   ·rename_i ys hy
    simp at h; subst h
    have h0 := toV_sound ho d x c hx (hr 0 (by simp) (by simp))
    obtain ⟨h1, h2⟩ := toVs_sound ho r ys cs hy (by simpa using hl) (fun i hi hi' => hr (i + 1) (by simp; omega) (by simp; omega))
    refine ⟨by simp [h1], fun i hi hi' => ?_⟩
    cases i with
    | zero => simpa using h0
    | succ i => simpa using h2 i (by simpa using hi) (by simpa using hi')
   ·simp at h
  ·simp at h
end
section
variable {P : Program} (hT : tableOf P = T)
include hT
theorem run_load_agg {t : Nat} {w : World} {b off : Nat} {us : List Value} (hk : isAggT (tyOf t).k = true) (hs : (tyOf t).size = us.length) (hc : ∀ j (h : j < us.length), w.cell? ⟨b, off + j, none⟩ = some (us[j]'h)) :
  (Instr.loadAt t (.pointer (some ⟨b, off, none⟩))).run P w = .ok (.agg us.toArray) w := by
 have hk' : (tyOf t).k ≠ .other := by intro e; rw [e] at hk; simp [isAggT] at hk
 have hl := run_loadCells (P := P) (w := w) ⟨b, off, none⟩ us.length (fun j => us.getD j undef) (fun j hj => by rw [add_plain, hc j hj]; simp [hj])
 simp only [Instr.loadAt, Instr.sureAddr, loadVar, Sem.run_bind, Sem.run_pure, Result.andThen_ok, ty_isAgg hT hk', hk, if_true, ty_size hT hk', hs, hl]
 congr 2
 apply Array.ext
 ·simp
 ·intro i h1 h2
  simp at h1
  simp [h1]
theorem run_load_cell {t : Nat} {w : World} {b off : Nat} {u : Value} (hk : isAggT (tyOf t).k = false) (hk' : known (tyOf t).k = true) (hc : w.cell? ⟨b, off, none⟩ = some u) :
  (Instr.loadAt t (.pointer (some ⟨b, off, none⟩))).run P w = .ok u w := by
 have hk'' : (tyOf t).k ≠ .other := by intro e; rw [e] at hk'; simp [known] at hk'
 simp [Instr.loadAt, Instr.sureAddr, loadVar, ty_isAgg hT hk'', hk, hc]
end
theorem RowAt.elem {ok : Oks} {w : World} {b off z : Nat} {l : List V} (r : RowAt ok w b off z l) {i : Int} {x : V} (h0 : 0 ≤ i) (hx : l[i.toNat]? = some x) :
  x.flat.length = z ∧ (∀ j (h : j < x.flat.length), (x.flat[j]'h).cell = true) ∧ ∀ j (h : j < x.flat.length), ∃ u, w.cell? ⟨b, off + (i.toNat * z + j), none⟩ = some u ∧ Rep ok w (x.flat[j]'h) u := by
 obtain ⟨hi, he⟩ := List.getElem?_eq_some_iff.1 hx
 subst he
 exact ⟨r.hz _ hi, fun j hj => r.hcell _ hi j hj, fun j hj => r.hr _ hi j hj⟩
theorem cell_flat {x : V} (h : x.cell = true) : x.flat = [x] := by cases x <;> simp [V.cell] at h <;> rfl
end
open Go Go.RowKit
def Comes' (P : Program) (ob : List (Nat × AObj)) (ρ : Operand → D) (op : Op) (d : D) : Prop :=
 ∀ (E : Env) (ok : Oks) (w : World) (a : Act) (o : Oper), o.op = op → QH E ok w a ob ρ op → Does P E o a w ok d
theorem look?_some {α : Type} {l : List α} {n : Nat} {x : α} (h : look? l n = some x) : ∃ hn : n < l.length, l[n]'hn = x := by
 rw [look?_eq] at h
 exact List.getElem?_eq_some_iff.1 h
theorem intOfD_some {d : D} {n : Int} (h : intOfD d = some n) : ∃ k, d = .v (.int k n) := by
 cases d with
 | v x => cases x <;> simp [intOfD] at h; subst h; exact ⟨_, rfl⟩
 | _ => simp [intOfD] at h
theorem rowOf_some {ob : List (Nat × AObj)} {id z : Nat} {l : List V} {ex : Bool} (h : rowOf ob id = some (z, l, ex)) : look ob id = some (.row z l ex) := by
 unfold rowOf at h
 split at h
 ·rename_i hl; simp only [Option.some.injEq, Prod.mk.injEq] at h; obtain ⟨rfl, rfl, rfl⟩ := h; exact hl
 ·simp at h
theorem repD_ptr {E : Env} {ok : Oks} {w : World} {id off : Nat} {u : Value} (h : RepD E ok w (.ptr id off) u) : ∃ b, E.blk id = some b ∧ u = .pointer (some ⟨b, off, none⟩) := by
 cases h with
 | ptr _ _ b hb => exact ⟨b, hb, rfl⟩
theorem repD_rptr {E : Env} {ok : Oks} {w : World} {id z off : Nat} {i : Int} {u : Value} (h : RepD E ok w (.rptr id z i off) u) : ∃ b, E.blk id = some b ∧ 0 ≤ i ∧ u = .pointer (some ⟨b, i.toNat * z + off, none⟩) := by
 cases h with
 | rptr _ _ _ _ b hb hi => exact ⟨b, hb, hi, rfl⟩
theorem repD_own {E : Env} {ok : Oks} {w : World} {id : Nat} {u : Value} (h : RepD E ok w (.own id) u) : u = E.hdr id := by cases h; rfl
theorem repD_nils {E : Env} {ok : Oks} {w : World} {u : Value} (h : RepD E ok w .nils u) : u = .slice none 0 0 := by cases h; rfl
theorem repD_fn {E : Env} {ok : Oks} {w : World} {f : Nat} {cap : List D} {u : Value} (h : RepD E ok w (.fn f cap) u) : ∃ cs : List Value, u = .func (.func f) #[] cs.toArray ∧ cs.length = cap.length ∧ ∀ i (h : i < cap.length) (h' : i < cs.length), RepD E ok w (cap[i]'h) (cs[i]'h') := by
 cases h with
 | fn _ _ cs hl hr => exact ⟨cs, rfl, hl, hr⟩
theorem repD_agg {E : Env} {ok : Oks} {w : World} {l : List D} {u : Value} (h : RepD E ok w (.agg l) u) : ∃ cs : List Value, u = .agg cs.toArray ∧ cs.length = l.length ∧ (∀ u ∈ cs, u.oneCell' = true) ∧ ∀ i (h : i < l.length) (h' : i < cs.length), RepD E ok w (l[i]'h) (cs[i]'h') := by
 cases h with
 | agg _ cs hl hc hr => exact ⟨cs, rfl, hl, hc, hr⟩
theorem repD_tup {E : Env} {ok : Oks} {w : World} {l : List D} {u : Value} (h : RepD E ok w (.tup l) u) : ∃ cs : List Value, u = .tuple cs.toArray ∧ cs.length = l.length ∧ ∀ i (h : i < l.length) (h' : i < cs.length), RepD E ok w (l[i]'h) (cs[i]'h') := by
 cases h with
 | tup _ cs hl hr => exact ⟨cs, rfl, hl, hr⟩
theorem rep_ref {ok : Oks} {w : World} {l : List V} {u : Value} (h : Rep ok w (.ref l) u) : ∃ b off, u = .pointer (some ⟨b, off, none⟩) ∧ (∀ j (h : j < l.length), ok b (off + j) ∧ (l[j]'h).cell = true ∧ ∃ v, w.cell? ⟨b, off + j, none⟩ = some v ∧ Rep ok w (l[j]'h) v) := by
 cases h with
 | ref _ b off us ha hc hr => exact ⟨b, off, rfl, fun j hj => ⟨(ha j hj).1, hc j hj, _, (ha j hj).2, hr j hj⟩⟩
theorem rep_clo {ok : Oks} {w : World} {f : Nat} {cap : List V} {u : Value} (h : Rep ok w (.clo f cap) u) : ∃ cs : List Value, u = .func (.func f) #[] cs.toArray ∧ cs.length = cap.length ∧ ∀ i (h : i < cap.length) (h' : i < cs.length), Rep ok w (cap[i]'h) (cs[i]'h') := by
 cases h with
 | clo _ _ cs hl hr => exact ⟨cs, rfl, hl, hr⟩
theorem rep_nils {ok : Oks} {w : World} {u : Value} (h : Rep ok w .nils u) : u = .slice none 0 0 := by cases h; rfl
theorem rep_gp {ok : Oks} {w : World} {id off : Nat} {u : Value} (h : Rep ok w (.gp id off) u) : ∃ b, id < ok.next ∧ ok.blk id = some b ∧ u = .pointer (some ⟨b, off, none⟩) := by
 cases h with
 | gp _ _ b hn hb => exact ⟨b, hn, hb, rfl⟩
theorem rep_ge {ok : Oks} {w : World} {id z off : Nat} {i : Int} {u : Value} (h : Rep ok w (.ge id z i off) u) : ∃ b, id < ok.next ∧ ok.blk id = some b ∧ 0 ≤ i ∧ u = .pointer (some ⟨b, i.toNat * z + off, none⟩) := by
 cases h with
 | ge _ _ _ _ b hn hb hi => exact ⟨b, hn, hb, hi, rfl⟩
theorem rep_gm {ok : Oks} {w : World} {id : Nat} {u : Value} (h : Rep ok w (.gm id) u) : ∃ b, id < ok.next ∧ ok.blk id = some b ∧ u = .map (some b) := by
 cases h with
 | gm _ b hn hb => exact ⟨b, hn, hb, rfl⟩
theorem rep_gs {ok : Oks} {w : World} {id : Nat} {n : Int} {u : Value} (h : Rep ok w (.gs id n) u) : id < ok.next ∧ ((n = 0 ∧ ok.blk id = none ∧ u = .slice none 0 0) ∨ ∃ b, ok.blk id = some b ∧ 0 ≤ n ∧ n ≤ ok.cap id ∧ ok.cap id ≤ maxLen ∧ u = .slice (some ⟨b, 0, none⟩) n.toNat (ok.cap id)) := by
 cases h with
 | gs0 _ hn hb => exact ⟨hn, .inl ⟨rfl, hb, rfl⟩⟩
 | gs _ _ b hn hb h0 hc hm => exact ⟨hn, .inr ⟨b, hb, h0, hc, hm, rfl⟩⟩
theorem rep_mth {ok : Oks} {w : World} {f : Nat} {fst : List V} {u : Value} (h : Rep ok w (.mth f fst) u) : ∃ cs : List Value, u = .func (.func f) cs.toArray #[] ∧ cs.length = fst.length ∧ ∀ i (h : i < fst.length) (h' : i < cs.length), Rep ok w (fst[i]'h) (cs[i]'h') := by
 cases h with
 | mth _ _ cs hl hr => exact ⟨cs, rfl, hl, hr⟩
theorem rep_nilp {ok : Oks} {w : World} {u : Value} (h : Rep ok w .nilp u) : u = .pointer none := by cases h; rfl
theorem rep_nilfn {ok : Oks} {w : World} {u : Value} (h : Rep ok w .nilfn u) : u = .nilFunc := by cases h; rfl
theorem own_slice {E : Env} {ok : Oks} {w : World} {id z : Nat} {l : List V} {ex : Bool} (h : RowRep E ok w id z l ex) : ∃ a c, E.hdr id = .slice a l.length c ∧ (a = none → l = []) := by
 rcases h with ⟨rfl, _, h⟩ | ⟨b, cap, cs, e, _, h, _⟩
 ·exact ⟨none, 0, h, fun _ => rfl⟩
 ·exact ⟨_, _, h, fun q => by simp at q⟩
section
variable {P : Program} {R : List (Nat × AObj) → List D → Prop} (hT : tableOf P = T)
theorem q_move (ob : List (Nat × AObj)) (ρ : Operand → D) (x : Operand) : Comes' P ob ρ (.move x) (ρ x) := by
 intro E ok w a o ho hq
 refine does_run (v := a.eval x) (by simp [execOp, ho]) (hq.opr x (by simp [Op.operands]))
theorem q_assign (ob : List (Nat × AObj)) (ρ : Operand → D) (x : Operand) : Comes' P ob ρ (.assign x) (ρ x) := by
 intro E ok w a o ho hq
 refine does_run (v := a.eval x) (by simp [execOp, ho]) (hq.opr x (by simp [Op.operands]))
theorem q_pick (ob : List (Nat × AObj)) (ρ : Operand → D) (c x y : Operand) (b : Bool) (h : ρ c = .lit b ∨ ρ c = .v (.bool b)) : Comes' P ob ρ (.pick c x y) (if b then ρ x else ρ y) := by
 intro E ok w a o ho hq
 have hc : a.eval c = .bool b := by
  have := hq.opr c (by simp [Op.operands])
  rcases h with h | h <;> rw [h] at this
  ·exact repD_lit this
  ·exact repD_bool this
 refine does_run (v := if b then a.eval x else a.eval y) (by simp [execOp, ho, hc, asBool]) ?_
 cases b
 ·exact hq.opr y (by simp [Op.operands])
 ·exact hq.opr x (by simp [Op.operands])
theorem q_nilCheck (ob : List (Nat × AObj)) (ρ : Operand → D) (x : Operand) (h : (∃ i o, ρ x = .ptr i o) ∨ (∃ i z j o, ρ x = .rptr i z j o) ∨ (∃ l, ρ x = .v (.ref l)) ∨ (∃ f c, ρ x = .fn f c) ∨ (∃ f c, ρ x = .v (.clo f c)) ∨ (∃ i o, ρ x = .v (.gp i o)) ∨ (∃ i z j o, ρ x = .v (.ge i z j o)) ∨ (∃ f c, ρ x = .v (.mth f c))) : Comes' P ob ρ (.nilCheck x) (ρ x) := by
 intro E ok w a o ho hq
 have hx := hq.opr x (by simp [Op.operands])
 refine does_run (v := a.eval x) ?_ hx
 rcases h with ⟨i, f, h⟩ | ⟨i, z, j, f, h⟩ | ⟨l, h⟩ | ⟨f, c, h⟩ | ⟨f, c, h⟩ | ⟨i, f, h⟩ | ⟨i, z, j, f, h⟩ | ⟨f, c, h⟩ <;> rw [h] at hx
 ·obtain ⟨b, _, he⟩ := repD_ptr hx; simp [execOp, ho, he]
 ·obtain ⟨b, _, _, he⟩ := repD_rptr hx; simp [execOp, ho, he]
 ·obtain ⟨b, off, he, _⟩ := rep_ref (repD_v hx); simp [execOp, ho, he]
 ·obtain ⟨cs, he, _⟩ := repD_fn hx; simp [execOp, ho, he]
 ·obtain ⟨cs, he, _⟩ := rep_clo (repD_v hx); simp [execOp, ho, he]
 ·obtain ⟨b, _, _, he⟩ := rep_gp (repD_v hx); simp [execOp, ho, he]
 ·obtain ⟨b, _, _, _, he⟩ := rep_ge (repD_v hx); simp [execOp, ho, he]
 ·obtain ⟨cs, he, _⟩ := rep_mth (repD_v hx); simp [execOp, ho, he]
theorem does_v {E : Env} {ok : Oks} {w : World} {a : Act} {o : Oper} {d : D} {s : Sem Value} {v : Value} (h : execOp a.eval o = (do pure (.value (← s)))) (hs : s.run P w = .ok v w) (r : RepD E ok w d v) : Does P E o a w ok d :=
 does_run (v := v) (by rw [h]; simp [hs]) r
theorem q_int (ob : List (Nat × AObj)) (ρ : Operand → D) (op : BinOp) (t t' : TypeId) (x y : Operand) (k k' : IntKind) (m n : Int) (hx : ρ x = .v (.int k m)) (hy : ρ y = .v (.int k' n)) (hk : isShift op = false → k = k') (K : D → Prop)
  (h : intD (std P R) op k m n K) : ∃ d, K d ∧ Comes' P ob ρ (.binOp op t x y t') d := by
 obtain ⟨z, hz, v, hv, hrun⟩ := intD_sound P R op t k k' m n K hk h
 refine ⟨_, hz, fun E ok w a o ho hq => ?_⟩
 have e1 : a.eval x = .int k m := repD_int (hx ▸ hq.opr x (by simp [Op.operands]))
 have e2 : a.eval y = .int k' n := repD_int (hy ▸ hq.opr y (by simp [Op.operands]))
 refine does_v (s := do eqGuard op t x y (.int k m) (.int k' n); binOp op t (.int k m) (.int k' n)) ?_ (hrun w x y) (.v _ _ (hv ok w))
 simp only [execOp, ho, e1, e2]
theorem q_strop (ob : List (Nat × AObj)) (ρ : Operand → D) (op : BinOp) (t t' : TypeId) (x y : Operand) (m n : List UInt8) (hx : ρ x = .v (.str m)) (hy : ρ y = .v (.str n)) (K : D → Prop)
  (h : strD (std P R) op m n K) : ∃ d, K d ∧ Comes' P ob ρ (.binOp op t x y t') d := by
 obtain ⟨z, hz, v, hv, hrun⟩ := strD_sound P R op t m n K h
 refine ⟨_, hz, fun E ok w a o ho hq => ?_⟩
 have e1 : a.eval x = .string ⟨m.toArray⟩ := repD_str (hx ▸ hq.opr x (by simp [Op.operands]))
 have e2 : a.eval y = .string ⟨n.toArray⟩ := repD_str (hy ▸ hq.opr y (by simp [Op.operands]))
 refine does_v (s := do eqGuard op t x y (.string ⟨m.toArray⟩) (.string ⟨n.toArray⟩); binOp op t (.string ⟨m.toArray⟩) (.string ⟨n.toArray⟩)) ?_ (hrun w x y) (.v _ _ (hv ok w))
 simp only [execOp, ho, e1, e2]
def EqRun (P : Program) (t : Nat) (ob : List (Nat × AObj)) (x y : D) (d : D) : Prop :=
 ∀ (E : Env) (ok : Oks) (w : World) (u v : Value), (∀ id o, look ob id = some o → ObjRep E ok w id o) → RepD E ok w x u → RepD E ok w y v →
  ∃ c : Bool, RepD E ok w d (.bool c) ∧ RepD E ok w (notD (std P R) d) (.bool !c) ∧ (∀ op p q, (op = .eql ∨ op = .neq) → (eqGuard op t p q u v).run P w = .ok () w) ∧
   (binOp .eql t u v).run P w = .ok (.bool c) w ∧ (binOp .neq t u v).run P w = .ok (.bool !c) w
theorem q_eq (ob : List (Nat × AObj)) (ρ : Operand → D) (t t' : TypeId) (x y : Operand) (d : D) (h : EqRun (R := R) P t ob (ρ x) (ρ y) d) : Comes' P ob ρ (.binOp .eql t x y t') d := by
 intro E ok w a o ho hq
 obtain ⟨c, h1, h2, h3, h4, h5⟩ := h E ok w _ _ hq.obj (hq.opr x (by simp [Op.operands])) (hq.opr y (by simp [Op.operands]))
 refine does_v (s := do eqGuard .eql t x y (a.eval x) (a.eval y); binOp .eql t (a.eval x) (a.eval y)) (v := .bool c) ?_ ?_ h1
 ·simp only [execOp, ho]
 ·simp [h3 .eql x y (.inl rfl), h4]
theorem q_ne (ob : List (Nat × AObj)) (ρ : Operand → D) (t t' : TypeId) (x y : Operand) (d : D) (h : EqRun (R := R) P t ob (ρ x) (ρ y) d) : Comes' P ob ρ (.binOp .neq t x y t') (notD (std P R) d) := by
 intro E ok w a o ho hq
 obtain ⟨c, h1, h2, h3, h4, h5⟩ := h E ok w _ _ hq.obj (hq.opr x (by simp [Op.operands])) (hq.opr y (by simp [Op.operands]))
 refine does_v (s := do eqGuard .neq t x y (a.eval x) (a.eval y); binOp .neq t (a.eval x) (a.eval y)) (v := .bool !c) ?_ ?_ h2
 ·simp only [execOp, ho]
 ·simp [h3 .neq x y (.inr rfl), h5]
theorem eq_run_of {t : Nat} {u v : Value} {c : Bool} {w : World} (hu : ∀ a b, ¬ (u = .agg a ∧ v = .agg b)) (hu' : ¬ (u = .nilIface ∧ v = .nilIface)) (h : (Op.equal t u v).run P w = .ok c w)
  (hb : binOp .eql t u v = (do pure (.bool (← Op.equal t u v))) ∧ binOp .neq t u v = (do pure (.bool (!(← Op.equal t u v))))) :
  (∀ op p q, (op = .eql ∨ op = .neq) → (eqGuard op t p q u v).run P w = .ok () w) ∧ (binOp .eql t u v).run P w = .ok (.bool c) w ∧ (binOp .neq t u v).run P w = .ok (.bool !c) w := by
 refine ⟨fun op p q ho => ?_, ?_, ?_⟩
 ·unfold eqGuard
  rcases ho with rfl | rfl
  all_goals
   simp only [Bool.not_true, Bool.false_eq_true, if_false]
   split
   ·exact absurd ⟨rfl, rfl⟩ hu'
   ·exact absurd ⟨rfl, rfl⟩ (hu _ _)
   ·simp
 ·rw [hb.1]; simp only [Sem.run_bind, h, Result.andThen_ok, Sem.run_pure]
 ·rw [hb.2]; simp only [Sem.run_bind, h, Result.andThen_ok, Sem.run_pure]
theorem equal_ptr_nil {t e : Nat} (hu : P.underlying t = some (.pointer e)) (w : World) (a : Addr) : (Op.equal t (.pointer (some a)) (.pointer none)).run P w = .ok false w := by
 have h : ∀ d, (Op.equalIn (d + 1) t (.pointer (some a)) (.pointer none)).run P w = .ok false w := fun d => by simp [Op.equalIn, run_underlying hu]
 exact h 9999
theorem equal_nil_ptr {t e : Nat} (hu : P.underlying t = some (.pointer e)) (w : World) (a : Option Addr) : (Op.equal t (.pointer none) (.pointer a)).run P w = .ok a.isNone w := by
 have h : ∀ d, (Op.equalIn (d + 1) t (.pointer none) (.pointer a)).run P w = .ok a.isNone w := fun d => by simp [Op.equalIn, run_underlying hu]
 exact h 9999
theorem equal_slice_nil {t e : Nat} (hu : P.underlying t = some (.slice e)) (w : World) (a : Option Addr) (n c : Nat) : (Op.equal t (.slice a n c) (.slice none 0 0)).run P w = .ok a.isNone w := by
 have h : ∀ d, (Op.equalIn (d + 1) t (.slice a n c) (.slice none 0 0)).run P w = .ok a.isNone w := fun d => by cases a <;> simp [Op.equalIn, run_underlying hu]
 exact h 9999
theorem equal_bool {t : Nat} (hu : P.underlying t = some .bool) (w : World) (a b : Bool) : (Op.equal t (.bool a) (.bool b)).run P w = .ok (a == b) w := by
 have h : ∀ d, (Op.equalIn (d + 1) t (.bool a) (.bool b)).run P w = .ok (a == b) w := fun d => by simp [Op.equalIn, run_underlying hu]
 exact h 9999
theorem equal_fn_nil {t : Nat} {ps rs : Array TypeId} {vr : Bool} (hu : P.underlying t = some (.func ps rs vr)) (w : World) (f : Fn) (a b : Array Value) : (Op.equal t (.func f a b) .nilFunc).run P w = .ok false w := by
 have h : ∀ d, (Op.equalIn (d + 1) t (.func f a b) .nilFunc).run P w = .ok false w := fun d => by simp [Op.equalIn, run_underlying hu]
 exact h 9999
end
end Go.Proofs.YthioccbgjkbmdaaGreat.AM
