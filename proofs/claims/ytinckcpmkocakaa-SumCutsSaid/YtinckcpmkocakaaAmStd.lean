/-
  The abstract machine, part 4: what its primitives mean; what is known of types.
-/
import Derived.Test.YtinckcpmkocakaaAmDef
set_option linter.unusedVariables false
set_option linter.unusedSimpArgs false
namespace Go.Proofs.Ytinckcpmkocakaa.AM
open Go Go.RowKit

theorem look?_eq {α : Type} : ∀ (l : List α) (n : Nat), look? l n = l[n]?
  | [], n => by simp [look?]
  | x :: r, 0 => by simp [look?]
  | x :: r, n + 1 => by simp [look?, look?_eq r n]

section
variable {P : Program} (hT : tableOf P = T)
include hT
theorem ty_of {t : Nat} (h : (tyOf t).k ≠ .other) : tdOf P t = some (tyOf t) := by
  unfold tyOf at *
  rw [look?_eq, ← hT] at *
  cases hl : (tableOf P)[t]? with
  | none => rw [hl] at h; exact absurd rfl h
  | some x =>
    cases x with
    | none => rw [hl] at h; exact absurd rfl h
    | some td =>
      simp only [tableOf, List.getElem?_map, Option.map_eq_some_iff] at hl
      obtain ⟨n, hn, he⟩ := hl
      have : n = t := by
        have := List.getElem?_eq_some_iff.1 hn
        obtain ⟨h1, h2⟩ := this
        simpa using h2.symm
      subst this
      exact he
theorem ty_info {t : Nat} (h : (tyOf t).k ≠ .other) : ∃ i z, P.info? t = some i ∧ i.zero = some z ∧ i.size = (tyOf t).size ∧ i.bytes = (tyOf t).bytes ∧ (tyOf t).zero = z.cells.toList.map constD1 ∧ tkOf P t = (tyOf t).k ∧ (∀ u ∈ z.cells.toList, u.oneCell' = true) ∧ z.cells.size = i.size := by
  have h := ty_of hT h
  unfold tdOf at h
  cases hi : P.info? t with
  | none => simp [hi] at h
  | some i =>
    cases hz : i.zero with
    | none => simp [hi, hz] at h
    | some z =>
      simp only [hi, hz] at h
      split at h
      · rename_i hall
        split at h
        · rename_i hsz
          simp only [Option.some.injEq] at h
          rw [← h]
          exact ⟨i, z, rfl, hz, rfl, rfl, rfl, rfl, List.all_eq_true.1 hall, hsz⟩
        · simp at h
      · simp at h
theorem ty_k {t : Nat} {k : TK} (h : (tyOf t).k = k) (hk : k ≠ .other) : tkOf P t = k := by
  obtain ⟨i, z, _, _, _, _, _, hh, _⟩ := ty_info hT (t := t) (by rw [h]; exact hk)
  rw [hh, h]
theorem ty_bool {t : Nat} (h : (tyOf t).k = .bool) : P.underlying t = some .bool := by
  have := ty_k hT h (by simp)
  unfold tkOf at this
  split at this <;> simp_all
theorem ty_int {t : Nat} {k : IntKind} (h : (tyOf t).k = .int k) : P.underlying t = some (.int k) := by
  have := ty_k hT h (by simp)
  unfold tkOf at this
  split at this <;> simp_all
theorem ty_str {t : Nat} (h : (tyOf t).k = .str) : P.underlying t = some .string := by
  have := ty_k hT h (by simp)
  unfold tkOf at this
  split at this <;> simp_all
theorem ty_slice {t e : Nat} (h : (tyOf t).k = .slice e) : P.underlying t = some (.slice e) := by
  have := ty_k hT h (by simp)
  unfold tkOf at this
  split at this <;> simp_all
theorem ty_arr {t n e : Nat} (h : (tyOf t).k = .arr n e) : P.underlying t = some (.array n e) := by
  have := ty_k hT h (by simp)
  unfold tkOf at this
  split at this <;> simp_all
theorem ty_struct {t : Nat} {fs : List (Nat × Nat)} (h : (tyOf t).k = .struct fs) : ∃ fields : Array Field, P.underlying t = some (.struct fields) ∧ fs = fields.toList.map fun f => (f.offset, f.type) := by
  have := ty_k hT h (by simp)
  unfold tkOf at this
  split at this <;> simp_all
theorem ty_size {t : Nat} (h : (tyOf t).k ≠ .other) (w : World) : (sizeOf t).run P w = .ok (tyOf t).size w := by
  obtain ⟨i, z, hi, hz, hs, _⟩ := ty_info hT h
  simp [sizeOf, typeInfo, program, Sem.run, hi, hs]
theorem ty_isAgg {t : Nat} (h : (tyOf t).k ≠ .other) (w : World) : (isAgg t).run P w = .ok (isAggT (tyOf t).k) w := by
  have hk := ty_k hT (t := t) rfl h
  unfold tkOf at hk
  have hu : ∃ d, P.underlying t = some d := by
    cases hu : P.underlying t with
    | none => rw [hu] at hk; exact absurd hk.symm h
    | some d => exact ⟨d, rfl⟩
  obtain ⟨d, hd⟩ := hu
  rw [hd] at hk
  simp only [isAgg, Sem.run_bind, run_underlying hd, Result.andThen_ok]
  cases d <;> simp only at hk <;> rw [← hk] <;> rfl
end

/-- '==' of two structs. -/
def EqOk (P : Program) (t : Nat) (a b : List V) (c : Bool) : Prop :=
  ∀ (ok : Oks) (w : World) (u v : Value), Rep ok w (.agg a) u → Rep ok w (.agg b) v →
    (∀ op x y, (eqGuard op t x y u v).run P w = .ok () w) ∧ (Op.equal t u v).run P w = .ok c w

/-- What tells less. -/
def Weak (S S' : St) : Prop := ∀ G E ok a w, Conc G E ok S a w → ∃ E' ok', Conc G E' ok' S' a w
theorem Weak.refl (S : St) : Weak S S := fun G E ok a w h => ⟨E, ok, h⟩

def bytesV (s : List UInt8) : List V := s.map fun b => .int .u8 b.toNat

/-- What the primitives mean; 'R': what is to hold where the function ends. -/
def std (P : Program) (R : List (Nat × AObj) → List D → Prop) : Prim where
  wrap := IntKind.wrap
  add a b := a + b
  sub a b := a - b
  mul a b := a * b
  tdiv a b := a.tdiv b
  tmod a b := a.tmod b
  shl k a b := k.wrap (a * 2 ^ (min b.toNat k.bits))
  shr k a b := a.fdiv (2 ^ (min b.toNat k.bits))
  bits := Go.bits
  inot k n := Go.bits .xor k (if k.signed then -1 else k.max) n
  imin a b := if b < a then b else a
  imax a b := if b > a then b else a
  ieq a b := a == b
  ine a b := a != b
  ilt a b := decide (a < b)
  ile a b := decide (a ≤ b)
  seq a b := a == b
  sne a b := !(a == b)
  slt a b := Op.bytesLess a b
  sle a b := Op.bytesLess a b || a == b
  beq a b := a == b
  not a := !a
  cat a b := a ++ b
  lenS s := s.length
  lenL l := l.length
  app a b := a ++ b
  s2b := bytesV
  repl n x := List.replicate n.toNat x
  setL l i x := l.set i.toNat x
  cond b K := ∀ c, b = c → K c
  nz b K := b ≠ 0 ∧ K ()
  nneg b K := 0 ≤ b ∧ K ()
  inR i l K := (0 ≤ i ∧ i < l.length) ∧ K ()
  catOk a b K := a.length + b.length ≤ 9223372036854775807 ∧ K ()
  sized l z K := (∀ x ∈ l, x.flat.length = z) ∧ K ()
  isLen l n K := (l.length = n ∧ ∀ x ∈ l, x.cell = true) ∧ K ()
  room a b n K := ((a.length + b.length) * n ≤ 140737488355328 ∧ 0 < n) ∧ K ()
  mkS n c b K := (0 ≤ n ∧ n ≤ c ∧ c ≤ 140737488355328 ∧ c * b ≤ 140737488355328) ∧ K ()
  getI k l i K := ∃ n, (0 ≤ i ∧ l[i.toNat]? = some (.int k n)) ∧ K n
  getX l i K := ∃ x, (0 ≤ i ∧ l[i.toNat]? = some x ∧ x.cell = true) ∧ K x
  getA z l i K := ∃ cs, (0 ≤ i ∧ l[i.toNat]? = some (.agg cs) ∧ cs.length = z) ∧ K cs
  getC s i K := ∃ b : UInt8, (0 ≤ i ∧ s[i.toNat]? = some b) ∧ K (b.toNat : Int)
  subS s lo hi K := (0 ≤ lo ∧ lo ≤ hi ∧ hi ≤ s.length) ∧ K ((s.take hi.toNat).drop lo.toNat)
  subL s lo hi K := (0 ≤ lo ∧ lo ≤ hi ∧ hi ≤ s.length) ∧ K ((s.take hi.toNat).drop lo.toNat)
  b2s l K := ∃ s, l = bytesV s ∧ K s
  nilq l K := l ≠ [] ∧ K false
  eqA t a b K := ∃ c, EqOk P t a b c ∧ K c
  call f xs K := ∃ rs, FnR P f xs rs ∧ K rs
  chk b K := b () = true ∧ K ()
  loop body Q S := ∃ (ι : Type) (st : ι → St) (I : ι → Prop) (μ : ι → Nat), (∃ p, Weak S (st p) ∧ I p) ∧ ∀ p, I p → body (fun e S' => match e with
    | .normal => ∃ q, Weak S' (st q) ∧ I q ∧ μ q < μ p
    | e => Q e S') (st p)
  ret := R
end Go.Proofs.Ytinckcpmkocakaa.AM
