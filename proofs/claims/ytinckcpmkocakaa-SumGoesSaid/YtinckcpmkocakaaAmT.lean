/-
  What arguments of a type are, in plain data.
-/
import Derived.Test.YtinckcpmkocakaaAmLaw
set_option linter.unusedVariables false
set_option linter.unusedSimpArgs false
namespace Go.Proofs.Ytinckcpmkocakaa.AM
open Go Go.RowKit
set_option maxRecDepth 100000
set_option maxHeartbeats 4000000

theorem bytesV_len (b : List UInt8) : (bytesV b).length = b.length := by simp [bytesV]
theorem bytes_ex : ∀ (l : List V), (∀ y ∈ l, ∃ n, y = .int .u8 n ∧ 0 ≤ n ∧ n ≤ 255) → ∃ b, l = bytesV b
  | [], _ => ⟨[], rfl⟩
  | y :: r, h => by
    obtain ⟨n, rfl, h0, h1⟩ := h y (by simp)
    obtain ⟨b, rfl⟩ := bytes_ex r (fun z hz => h z (List.mem_cons_of_mem _ hz))
    refine ⟨UInt8.ofNat n.toNat :: b, ?_⟩
    simp only [bytesV, List.map_cons, List.cons.injEq, V.int.injEq, true_and, and_true]
    rw [UInt8.toNat_ofNat']
    omega
theorem tv_int {k t : Nat} {kd : IntKind} {x : V} (e : (tyOf t).k = .int kd) (h : TyV (k + 1) t x) : ∃ n, x = .int kd n ∧ kd.min ≤ n ∧ n ≤ kd.max := by
  unfold TyV at h; rw [e] at h; exact h
theorem tv_u32 {k t : Nat} {x : V} (e : (tyOf t).k = .int .u32) (h : TyV (k + 1) t x) : ∃ n : Nat, x = .int .u32 (n : Int) ∧ n < 4294967296 := by
  obtain ⟨n, rfl, h0, h1⟩ := tv_int e h
  have h0' : (0 : Int) ≤ n := h0
  have h1' : n ≤ 4294967295 := h1
  exact ⟨n.toNat, by rw [Int.toNat_of_nonneg h0'], by omega⟩
theorem tv_u16 {k t : Nat} {x : V} (e : (tyOf t).k = .int .u16) (h : TyV (k + 1) t x) : ∃ n : Nat, x = .int .u16 (n : Int) ∧ n < 65536 := by
  obtain ⟨n, rfl, h0, h1⟩ := tv_int e h
  have h0' : (0 : Int) ≤ n := h0
  have h1' : n ≤ 65535 := h1
  exact ⟨n.toNat, by rw [Int.toNat_of_nonneg h0'], by omega⟩
theorem tv_u8 {k t : Nat} {x : V} (e : (tyOf t).k = .int .u8) (h : TyV (k + 1) t x) : ∃ n : Nat, x = .int .u8 (n : Int) ∧ n < 256 := by
  obtain ⟨n, rfl, h0, h1⟩ := tv_int e h
  have h0' : (0 : Int) ≤ n := h0
  have h1' : n ≤ 255 := h1
  exact ⟨n.toNat, by rw [Int.toNat_of_nonneg h0'], by omega⟩
theorem tv_i64 {k t : Nat} {x : V} (e : (tyOf t).k = .int .i64) (h : TyV (k + 1) t x) : ∃ n : Int, x = .int .i64 n ∧ -9223372036854775808 ≤ n ∧ n ≤ 9223372036854775807 := tv_int e h
theorem tv_str {k t : Nat} {x : V} (e : (tyOf t).k = .str) (h : TyV (k + 1) t x) : ∃ s, x = .str s ∧ s.length ≤ 140737488355328 := by
  unfold TyV at h; rw [e] at h
  obtain ⟨s, rfl, h⟩ := h
  exact ⟨s, rfl, Nat.le_trans h (by simp [reachBytes])⟩
theorem tv_bool {k t : Nat} {x : V} (e : (tyOf t).k = .bool) (h : TyV (k + 1) t x) : ∃ b, x = .bool b := by
  unfold TyV at h; rw [e] at h; exact h
theorem tv_slice {k t u : Nat} {x : V} (e : (tyOf t).k = .slice u) (h : TyV (k + 1) t x) : ∃ l, x = .slice l ∧ l.length * (tyOf u).bytes ≤ 140737488355328 ∧ ∀ y ∈ l, TyV k u y := by
  unfold TyV at h; rw [e] at h
  obtain ⟨l, rfl, h1, h2⟩ := h
  exact ⟨l, rfl, Nat.le_trans h1 (by simp [reachBytes]), h2⟩
theorem tv_bytes {k t u : Nat} {x : V} (e : (tyOf t).k = .slice u) (e2 : (tyOf u).k = .int .u8) (e3 : (tyOf u).bytes = 1) (h : TyV (k + 2) t x) : ∃ b, x = .slice (bytesV b) ∧ b.length ≤ 140737488355328 := by
  obtain ⟨l, rfl, h1, h2⟩ := tv_slice e h
  obtain ⟨b, rfl⟩ := bytes_ex l fun y hy => by
    obtain ⟨n, q1, q2, q3⟩ := tv_int e2 (h2 y hy)
    exact ⟨n, q1, q2, q3⟩
  rw [e3, bytesV_len] at h1
  exact ⟨b, rfl, by omega⟩
def listsV (bs : List (List UInt8)) : List V := bs.map fun b => .slice (bytesV b)
theorem listsV_len (bs : List (List UInt8)) : (listsV bs).length = bs.length := by simp [listsV]
theorem tv_lists {k t u v : Nat} {x : V} (e : (tyOf t).k = .slice u) (e2 : (tyOf u).k = .slice v) (e3 : (tyOf v).k = .int .u8) (e4 : (tyOf v).bytes = 1) (e5 : (tyOf u).bytes = 24) (h : TyV (k + 3) t x) :
    ∃ bs, x = .slice (listsV bs) ∧ bs.length * 24 ≤ 140737488355328 ∧ ∀ b ∈ bs, b.length ≤ 140737488355328 := by
  obtain ⟨l, rfl, h1, h2⟩ := tv_slice e h
  have key : ∀ l : List V, (∀ y ∈ l, TyV (k + 2) u y) → ∃ bs, l = listsV bs ∧ ∀ b ∈ bs, b.length ≤ 140737488355328 := by
    intro l
    induction l with
    | nil => exact fun _ => ⟨[], rfl, by simp⟩
    | cons y r ih =>
      intro h
      obtain ⟨b, rfl, hb⟩ := tv_bytes e2 e3 e4 (h y (by simp))
      obtain ⟨bs, rfl, hbs⟩ := ih fun z hz => h z (List.mem_cons_of_mem _ hz)
      exact ⟨b :: bs, rfl, fun c hc => (List.mem_cons.1 hc).elim (fun e => e ▸ hb) (hbs c)⟩
  obtain ⟨bs, rfl, hbs⟩ := key l h2
  rw [e5, listsV_len] at h1
  exact ⟨bs, rfl, h1, hbs⟩
def strsV (bs : List (List UInt8)) : List V := bs.map V.str
theorem strsV_len (bs : List (List UInt8)) : (strsV bs).length = bs.length := by simp [strsV]
theorem tv_strs {k t u : Nat} {x : V} (e : (tyOf t).k = .slice u) (e2 : (tyOf u).k = .str) (e5 : (tyOf u).bytes = 16) (h : TyV (k + 2) t x) :
    ∃ bs, x = .slice (strsV bs) ∧ bs.length * 16 ≤ 140737488355328 ∧ ∀ b ∈ bs, b.length ≤ 140737488355328 := by
  obtain ⟨l, rfl, h1, h2⟩ := tv_slice e h
  have key : ∀ l : List V, (∀ y ∈ l, TyV (k + 1) u y) → ∃ bs, l = strsV bs ∧ ∀ b ∈ bs, b.length ≤ 140737488355328 := by
    intro l
    induction l with
    | nil => exact fun _ => ⟨[], rfl, by simp⟩
    | cons y r ih =>
      intro h
      obtain ⟨b, rfl, hb⟩ := tv_str e2 (h y (by simp))
      obtain ⟨bs, rfl, hbs⟩ := ih fun z hz => h z (List.mem_cons_of_mem _ hz)
      exact ⟨b :: bs, rfl, fun c hc => (List.mem_cons.1 hc).elim (fun e => e ▸ hb) (hbs c)⟩
  obtain ⟨bs, rfl, hbs⟩ := key l h2
  rw [e5, strsV_len] at h1
  exact ⟨bs, rfl, h1, hbs⟩
/-- A struct's parts. -/
theorem tv_struct {k t : Nat} {fs : List (Nat × Nat)} {x : V} (e : (tyOf t).k = .struct fs) (h : TyV (k + 1) t x) : ∃ ys : List V, x = .agg (ys.flatMap V.flat) ∧ ys.length = fs.length ∧ ∀ i (h : i < ys.length) (h' : i < fs.length), TyV k (fs[i]'h').2 (ys[i]'h) := by
  unfold TyV at h; rw [e] at h; exact h
theorem bytesV_at {b : List UInt8} {l : List V} (hl : l = bytesV b) {j : Nat} {i : Int} (hi : i = j) (hj : j < b.length) : 0 ≤ i ∧ l[i.toNat]? = some (.int .u8 ((b[j]'hj).toNat : Nat)) := by
  subst hl hi
  simp [bytesV, hj]
theorem listsV_at {b : List (List UInt8)} {l : List V} (hl : l = listsV b) {j : Nat} {i : Int} (hi : i = j) (hj : j < b.length) : 0 ≤ i ∧ l[i.toNat]? = some (.slice (bytesV (b[j]'hj))) ∧ (V.slice (bytesV (b[j]'hj))).cell = true := by
  subst hl hi
  refine ⟨by omega, ?_, rfl⟩
  simp [listsV, hj]
theorem strsV_at {b : List (List UInt8)} {l : List V} (hl : l = strsV b) {j : Nat} {i : Int} (hi : i = j) (hj : j < b.length) : 0 ≤ i ∧ l[i.toNat]? = some (.str (b[j]'hj)) ∧ (V.str (b[j]'hj)).cell = true := by
  subst hl hi
  refine ⟨by omega, ?_, rfl⟩
  simp [strsV, hj]
theorem bytesV_flat {b : List UInt8} {l : List V} (hl : l = bytesV b) : ∀ x ∈ l, x.flat.length = 1 := by
  subst hl; intro x hx
  simp only [bytesV, List.mem_map] at hx
  obtain ⟨c, _, rfl⟩ := hx
  rfl
theorem listsV_flat {b : List (List UInt8)} {l : List V} (hl : l = listsV b) : ∀ x ∈ l, x.flat.length = 1 := by
  subst hl; intro x hx
  simp only [listsV, List.mem_map] at hx
  obtain ⟨c, _, rfl⟩ := hx
  rfl
theorem strsV_flat {b : List (List UInt8)} {l : List V} (hl : l = strsV b) : ∀ x ∈ l, x.flat.length = 1 := by
  subst hl; intro x hx
  simp only [strsV, List.mem_map] at hx
  obtain ⟨c, _, rfl⟩ := hx
  rfl
/-- A number's equation, as it is written. -/
theorem natEq {i : Int} {j : Nat} (h : i = Int.ofNat j) : i = (j : Int) := h
theorem bytesV_take (b : List UInt8) (n : Nat) : (bytesV b).take n = bytesV (b.take n) := by simp [bytesV]
theorem bytesV_drop (b : List UInt8) (n : Nat) : (bytesV b).drop n = bytesV (b.drop n) := by simp [bytesV]
theorem bytesV_app (a b : List UInt8) : bytesV a ++ bytesV b = bytesV (a ++ b) := by simp [bytesV]
section
variable {A : Prim} {P : Program} {R : List (Nat × AObj) → List D → Prop} (hA : A = std P R)
include hA
theorem condT {b : Bool} {K : Bool → Prop} (h : b = true) (hK : K true) : A.cond b K := by subst hA; intro c hc; rw [← hc, h]; exact hK
theorem condF {b : Bool} {K : Bool → Prop} (h : b = false) (hK : K false) : A.cond b K := by subst hA; intro c hc; rw [← hc, h]; exact hK
theorem subLN {s : List V} {lo hi : Int} {K : List V → Prop} (h : 0 ≤ lo ∧ lo ≤ hi ∧ hi ≤ s.length) (hK : ∀ r, r = (s.take hi.toNat).drop lo.toNat → K r) : A.subL s lo hi K := by subst hA; exact ⟨h, hK _ rfl⟩
theorem subSN {s : List UInt8} {lo hi : Int} {K : List UInt8 → Prop} (h : 0 ≤ lo ∧ lo ≤ hi ∧ hi ≤ s.length) (hK : ∀ r, r = (s.take hi.toNat).drop lo.toNat → K r) : A.subS s lo hi K := by subst hA; exact ⟨h, hK _ rfl⟩
theorem b2sN {l : List V} {s : List UInt8} {K : List UInt8 → Prop} (h : l = bytesV s) (hK : ∀ r, r = s → K r) : A.b2s l K := by subst hA; exact ⟨s, h, hK _ rfl⟩
theorem getXN {l : List V} {i : Int} {x : V} {K : V → Prop} (h : 0 ≤ i ∧ l[i.toNat]? = some x ∧ x.cell = true) (hK : ∀ r, r = x → K r) : A.getX l i K := by subst hA; exact ⟨x, h, hK _ rfl⟩
theorem getIN {k : IntKind} {l : List V} {i n : Int} {K : Int → Prop} (h : 0 ≤ i ∧ l[i.toNat]? = some (.int k n)) (hK : ∀ r, r = n → K r) : A.getI k l i K := by subst hA; exact ⟨n, h, hK _ rfl⟩
theorem getCN {s : List UInt8} {i : Int} {c : UInt8} {K : Int → Prop} (h : 0 ≤ i ∧ s[i.toNat]? = some c) (hK : ∀ r : Int, r = (c.toNat : Nat) → K r) : A.getC s i K := by subst hA; exact ⟨c, h, hK _ rfl⟩
theorem getBN {b : List UInt8} {l : List V} (hl : l = bytesV b) {j : Nat} {i : Int} (hi : i = j) (hj : j < b.length) {K : Int → Prop} (hK : ∀ r : Int, r = ((b[j]'hj).toNat : Nat) → K r) : A.getI .u8 l i K := getIN hA (bytesV_at hl hi hj) hK
theorem getLN {b : List (List UInt8)} {l : List V} (hl : l = listsV b) {j : Nat} {i : Int} (hi : i = j) (hj : j < b.length) {K : V → Prop} (hK : ∀ r, r = bytesV (b[j]'hj) → K (.slice r)) : A.getX l i K := getXN hA (listsV_at hl hi hj) fun r hr => hr ▸ hK _ rfl
theorem getSN {b : List (List UInt8)} {l : List V} (hl : l = strsV b) {j : Nat} {i : Int} (hi : i = j) (hj : j < b.length) {K : V → Prop} (hK : ∀ r, r = b[j]'hj → K (.str r)) : A.getX l i K := getXN hA (strsV_at hl hi hj) fun r hr => hr ▸ hK _ rfl
end
theorem cutTo {l r : List V} {b : List UInt8} {hi : Int} {k : Nat} (hk : hi = (k : Int)) (hl : l = bytesV b) (hr : r = (l.take hi.toNat).drop (Int.toNat 0)) : r = bytesV (b.take k) := by
  subst hk hl hr; simp [bytesV]
theorem cutFrom {l r : List V} {b : List UInt8} {lo n : Int} {k : Nat} (hk : lo = (k : Int)) (hl : l = bytesV b) (hn : n = (b.length : Nat)) (hr : r = (l.take n.toNat).drop lo.toNat) : r = bytesV (b.drop k) := by
  subst hk hl hr hn
  rw [Int.toNat_natCast, Int.toNat_natCast, List.take_of_length_le (by simp [bytesV]), bytesV_drop]
theorem tf {a : Bool} (h : a = true) (k : a = false) : False := by rw [h] at k; cases k
/-- A contract, out of the body. -/
theorem CallR.of {f : Nat} {xs : List V} {post : List Rs → Prop} (rs : List Rs) (hp : post rs) (h : FnR Try.prog f xs rs) : CallR Try.prog f xs post := ⟨rs, h, hp⟩
end Go.Proofs.Ytinckcpmkocakaa.AM
