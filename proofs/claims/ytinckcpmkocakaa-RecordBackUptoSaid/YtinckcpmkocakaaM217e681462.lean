/-
  What arguments of a type are, in plain data.
-/
import Derived.Test.YtinckcpmkocakaaM1874a7ec56
import Derived.Test.YtinckcpmkocakaaM2025e6d985
set_option linter.unusedVariables false
set_option linter.unusedSimpArgs false
namespace Go.Proofs.Ytinckcpmkocakaa.AM
open Go Go.RowKit
set_option maxRecDepth 100000
set_option maxHeartbeats 4000000

theorem bytesV_len (b : List UInt8) : (bytesV b).length = b.length := by simp [bytesV]
theorem bytes_ex : ∀ (l : List V), (∀ y ∈ l, ∃ n, y = .int .u8 n ∧ 0 ≤ n ∧ n ≤ 255) → ∃ b, l = bytesV b
  | [], _ => ⟨[], rfl⟩
  | y :: r, h => by
    obtain ⟨n, rfl, h0, h1⟩ := h y (by simp)
    obtain ⟨b, rfl⟩ := bytes_ex r (fun z hz => h z (List.mem_cons_of_mem _ hz))
    refine ⟨UInt8.ofNat n.toNat :: b, ?_⟩
    simp only [bytesV, List.map_cons, List.cons.injEq, V.int.injEq, true_and, and_true]
    rw [UInt8.toNat_ofNat']
    omega
theorem tv_int {k t : Nat} {kd : IntKind} {x : V} (e : (tyOf t).k = .int kd) (h : TyV (k + 1) t x) : ∃ n, x = .int kd n ∧ kd.min ≤ n ∧ n ≤ kd.max := by
  unfold TyV TyM at h; rw [e] at h; exact h
theorem tv_u32 {k t : Nat} {x : V} (e : (tyOf t).k = .int .u32) (h : TyV (k + 1) t x) : ∃ n : Nat, x = .int .u32 (n : Int) ∧ n < 4294967296 := by
  obtain ⟨n, rfl, h0, h1⟩ := tv_int e h
  have h0' : (0 : Int) ≤ n := h0
  have h1' : n ≤ 4294967295 := h1
  exact ⟨n.toNat, by rw [Int.toNat_of_nonneg h0'], by omega⟩
theorem tv_u16 {k t : Nat} {x : V} (e : (tyOf t).k = .int .u16) (h : TyV (k + 1) t x) : ∃ n : Nat, x = .int .u16 (n : Int) ∧ n < 65536 := by
  obtain ⟨n, rfl, h0, h1⟩ := tv_int e h
  have h0' : (0 : Int) ≤ n := h0
  have h1' : n ≤ 65535 := h1
  exact ⟨n.toNat, by rw [Int.toNat_of_nonneg h0'], by omega⟩
theorem tv_u8 {k t : Nat} {x : V} (e : (tyOf t).k = .int .u8) (h : TyV (k + 1) t x) : ∃ n : Nat, x = .int .u8 (n : Int) ∧ n < 256 := by
  obtain ⟨n, rfl, h0, h1⟩ := tv_int e h
  have h0' : (0 : Int) ≤ n := h0
  have h1' : n ≤ 255 := h1
  exact ⟨n.toNat, by rw [Int.toNat_of_nonneg h0'], by omega⟩
theorem tv_i64 {k t : Nat} {x : V} (e : (tyOf t).k = .int .i64) (h : TyV (k + 1) t x) : ∃ n : Int, x = .int .i64 n ∧ -9223372036854775808 ≤ n ∧ n ≤ 9223372036854775807 := tv_int e h
theorem tv_str {k t : Nat} {x : V} (e : (tyOf t).k = .str) (h : TyV (k + 1) t x) : ∃ s, x = .str s ∧ s.length ≤ 140737488355328 := by
  unfold TyV TyM at h; rw [e] at h
  obtain ⟨s, rfl, h⟩ := h
  exact ⟨s, rfl, Nat.le_trans h (by simp [reachBytes])⟩
theorem tv_bool {k t : Nat} {x : V} (e : (tyOf t).k = .bool) (h : TyV (k + 1) t x) : ∃ b, x = .bool b := by
  unfold TyV TyM at h; rw [e] at h; exact h
theorem tv_slice {k t u : Nat} {x : V} (e : (tyOf t).k = .slice u) (h : TyV (k + 1) t x) : ∃ l, x = .slice l ∧ l.length * (tyOf u).bytes ≤ 140737488355328 ∧ ∀ y ∈ l, TyV k u y := by
  unfold TyV TyM at h; rw [e] at h
  obtain ⟨l, rfl, h1, h2⟩ := h
  exact ⟨l, rfl, Nat.le_trans h1 (by simp [reachBytes]), h2⟩
theorem tv_bytes {k t u : Nat} {x : V} (e : (tyOf t).k = .slice u) (e2 : (tyOf u).k = .int .u8) (e3 : (tyOf u).bytes = 1) (h : TyV (k + 2) t x) : ∃ b, x = .slice (bytesV b) ∧ b.length ≤ 140737488355328 := by
  obtain ⟨l, rfl, h1, h2⟩ := tv_slice e h
  obtain ⟨b, rfl⟩ := bytes_ex l fun y hy => by
    obtain ⟨n, q1, q2, q3⟩ := tv_int e2 (h2 y hy)
    exact ⟨n, q1, q2, q3⟩
  rw [e3, bytesV_len] at h1
  exact ⟨b, rfl, by omega⟩
def listsV (bs : List (List UInt8)) : List V := bs.map fun b => .slice (bytesV b)
theorem listsV_len (bs : List (List UInt8)) : (listsV bs).length = bs.length := by simp [listsV]
theorem tv_lists {k t u v : Nat} {x : V} (e : (tyOf t).k = .slice u) (e2 : (tyOf u).k = .slice v) (e3 : (tyOf v).k = .int .u8) (e4 : (tyOf v).bytes = 1) (e5 : (tyOf u).bytes = 24) (h : TyV (k + 3) t x) :
    ∃ bs, x = .slice (listsV bs) ∧ bs.length * 24 ≤ 140737488355328 ∧ ∀ b ∈ bs, b.length ≤ 140737488355328 := by
  obtain ⟨l, rfl, h1, h2⟩ := tv_slice e h
  have key : ∀ l : List V, (∀ y ∈ l, TyV (k + 2) u y) → ∃ bs, l = listsV bs ∧ ∀ b ∈ bs, b.length ≤ 140737488355328 := by
    intro l
    induction l with
    | nil => exact fun _ => ⟨[], rfl, by simp⟩
    | cons y r ih =>
      intro h
      obtain ⟨b, rfl, hb⟩ := tv_bytes e2 e3 e4 (h y (by simp))
      obtain ⟨bs, rfl, hbs⟩ := ih fun z hz => h z (List.mem_cons_of_mem _ hz)
      exact ⟨b :: bs, rfl, fun c hc => (List.mem_cons.1 hc).elim (fun e => e ▸ hb) (hbs c)⟩
  obtain ⟨bs, rfl, hbs⟩ := key l h2
  rw [e5, listsV_len] at h1
  exact ⟨bs, rfl, h1, hbs⟩
def strsV (bs : List (List UInt8)) : List V := bs.map V.str
theorem strsV_len (bs : List (List UInt8)) : (strsV bs).length = bs.length := by simp [strsV]
theorem tv_strs {k t u : Nat} {x : V} (e : (tyOf t).k = .slice u) (e2 : (tyOf u).k = .str) (e5 : (tyOf u).bytes = 16) (h : TyV (k + 2) t x) :
    ∃ bs, x = .slice (strsV bs) ∧ bs.length * 16 ≤ 140737488355328 ∧ ∀ b ∈ bs, b.length ≤ 140737488355328 := by
  obtain ⟨l, rfl, h1, h2⟩ := tv_slice e h
  have key : ∀ l : List V, (∀ y ∈ l, TyV (k + 1) u y) → ∃ bs, l = strsV bs ∧ ∀ b ∈ bs, b.length ≤ 140737488355328 := by
    intro l
    induction l with
    | nil => exact fun _ => ⟨[], rfl, by simp⟩
    | cons y r ih =>
      intro h
      obtain ⟨b, rfl, hb⟩ := tv_str e2 (h y (by simp))
      obtain ⟨bs, rfl, hbs⟩ := ih fun z hz => h z (List.mem_cons_of_mem _ hz)
      exact ⟨b :: bs, rfl, fun c hc => (List.mem_cons.1 hc).elim (fun e => e ▸ hb) (hbs c)⟩
  obtain ⟨bs, rfl, hbs⟩ := key l h2
  rw [e5, strsV_len] at h1
  exact ⟨bs, rfl, h1, hbs⟩
/-- A struct's parts. -/
theorem tv_struct {k t : Nat} {fs : List (Nat × Nat)} {x : V} (e : (tyOf t).k = .struct fs) (h : TyV (k + 1) t x) : ∃ ys : List V, x = .agg (ys.flatMap V.flat) ∧ ys.length = fs.length ∧ ∀ i (h : i < ys.length) (h' : i < fs.length), TyV k (fs[i]'h').2 (ys[i]'h) := by
  unfold TyV TyM at h; rw [e] at h; exact h
theorem bytesV_at {b : List UInt8} {l : List V} (hl : l = bytesV b) {j : Nat} {i : Int} (hi : i = j) (hj : j < b.length) : 0 ≤ i ∧ l[i.toNat]? = some (.int .u8 ((b[j]'hj).toNat : Nat)) := by
  subst hl hi
  simp [bytesV, hj]
theorem listsV_at {b : List (List UInt8)} {l : List V} (hl : l = listsV b) {j : Nat} {i : Int} (hi : i = j) (hj : j < b.length) : 0 ≤ i ∧ l[i.toNat]? = some (.slice (bytesV (b[j]'hj))) ∧ (V.slice (bytesV (b[j]'hj))).cell = true := by
  subst hl hi
  refine ⟨by omega, ?_, rfl⟩
  simp [listsV, hj]
theorem strsV_at {b : List (List UInt8)} {l : List V} (hl : l = strsV b) {j : Nat} {i : Int} (hi : i = j) (hj : j < b.length) : 0 ≤ i ∧ l[i.toNat]? = some (.str (b[j]'hj)) ∧ (V.str (b[j]'hj)).cell = true := by
  subst hl hi
  refine ⟨by omega, ?_, rfl⟩
  simp [strsV, hj]
theorem bytesV_flat {b : List UInt8} {l : List V} (hl : l = bytesV b) : ∀ x ∈ l, x.flat.length = 1 := by
  subst hl; intro x hx
  simp only [bytesV, List.mem_map] at hx
  obtain ⟨c, _, rfl⟩ := hx
  rfl
theorem listsV_flat {b : List (List UInt8)} {l : List V} (hl : l = listsV b) : ∀ x ∈ l, x.flat.length = 1 := by
  subst hl; intro x hx
  simp only [listsV, List.mem_map] at hx
  obtain ⟨c, _, rfl⟩ := hx
  rfl
theorem strsV_flat {b : List (List UInt8)} {l : List V} (hl : l = strsV b) : ∀ x ∈ l, x.flat.length = 1 := by
  subst hl; intro x hx
  simp only [strsV, List.mem_map] at hx
  obtain ⟨c, _, rfl⟩ := hx
  rfl
/-- A number's equation, as it is written. -/
theorem natEq {i : Int} {j : Nat} (h : i = Int.ofNat j) : i = (j : Int) := h
theorem bytesV_take (b : List UInt8) (n : Nat) : (bytesV b).take n = bytesV (b.take n) := by simp [bytesV]
theorem bytesV_drop (b : List UInt8) (n : Nat) : (bytesV b).drop n = bytesV (b.drop n) := by simp [bytesV]
theorem bytesV_app (a b : List UInt8) : bytesV a ++ bytesV b = bytesV (a ++ b) := by simp [bytesV]
section
variable {A : Prim} {P : Program} {R : List (Nat × AObj) → List D → Prop} (hA : A = std P R)
include hA
theorem condT {b : Bool} {K : Bool → Prop} (h : b = true) (hK : K true) : A.cond b K := by subst hA; intro c hc; rw [← hc, h]; exact hK
theorem condF {b : Bool} {K : Bool → Prop} (h : b = false) (hK : K false) : A.cond b K := by subst hA; intro c hc; rw [← hc, h]; exact hK
theorem subLN {s : List V} {lo hi : Int} {K : List V → Prop} (h : 0 ≤ lo ∧ lo ≤ hi ∧ hi ≤ s.length) (hK : ∀ r, r = (s.take hi.toNat).drop lo.toNat → K r) : A.subL s lo hi K := by subst hA; exact ⟨h, hK _ rfl⟩
theorem subSN {s : List UInt8} {lo hi : Int} {K : List UInt8 → Prop} (h : 0 ≤ lo ∧ lo ≤ hi ∧ hi ≤ s.length) (hK : ∀ r, r = (s.take hi.toNat).drop lo.toNat → K r) : A.subS s lo hi K := by subst hA; exact ⟨h, hK _ rfl⟩
theorem b2sN {l : List V} {s : List UInt8} {K : List UInt8 → Prop} (h : l = bytesV s) (hK : ∀ r, r = s → K r) : A.b2s l K := by subst hA; exact ⟨s, h, hK _ rfl⟩
theorem getXN {l : List V} {i : Int} {x : V} {K : V → Prop} (h : 0 ≤ i ∧ l[i.toNat]? = some x ∧ x.cell = true) (hK : ∀ r, r = x → K r) : A.getX l i K := by subst hA; exact ⟨x, h, hK _ rfl⟩
theorem getIN {k : IntKind} {l : List V} {i n : Int} {K : Int → Prop} (h : 0 ≤ i ∧ l[i.toNat]? = some (.int k n)) (hK : ∀ r, r = n → K r) : A.getI k l i K := by subst hA; exact ⟨n, h, hK _ rfl⟩
theorem getCN {s : List UInt8} {i : Int} {c : UInt8} {K : Int → Prop} (h : 0 ≤ i ∧ s[i.toNat]? = some c) (hK : ∀ r : Int, r = (c.toNat : Nat) → K r) : A.getC s i K := by subst hA; exact ⟨c, h, hK _ rfl⟩
theorem getBN {b : List UInt8} {l : List V} (hl : l = bytesV b) {j : Nat} {i : Int} (hi : i = j) (hj : j < b.length) {K : Int → Prop} (hK : ∀ r : Int, r = ((b[j]'hj).toNat : Nat) → K r) : A.getI .u8 l i K := getIN hA (bytesV_at hl hi hj) hK
theorem getLN {b : List (List UInt8)} {l : List V} (hl : l = listsV b) {j : Nat} {i : Int} (hi : i = j) (hj : j < b.length) {K : V → Prop} (hK : ∀ r, r = bytesV (b[j]'hj) → K (.slice r)) : A.getX l i K := getXN hA (listsV_at hl hi hj) fun r hr => hr ▸ hK _ rfl
theorem getSN {b : List (List UInt8)} {l : List V} (hl : l = strsV b) {j : Nat} {i : Int} (hi : i = j) (hj : j < b.length) {K : V → Prop} (hK : ∀ r, r = b[j]'hj → K (.str r)) : A.getX l i K := getXN hA (strsV_at hl hi hj) fun r hr => hr ▸ hK _ rfl
end
theorem cutTo {l r : List V} {b : List UInt8} {hi : Int} {k : Nat} (hk : hi = (k : Int)) (hl : l = bytesV b) (hr : r = (l.take hi.toNat).drop (Int.toNat 0)) : r = bytesV (b.take k) := by
  subst hk hl hr; simp [bytesV]
theorem cutFrom {l r : List V} {b : List UInt8} {lo n : Int} {k : Nat} (hk : lo = (k : Int)) (hl : l = bytesV b) (hn : n = (b.length : Nat)) (hr : r = (l.take n.toNat).drop lo.toNat) : r = bytesV (b.drop k) := by
  subst hk hl hr hn
  rw [Int.toNat_natCast, Int.toNat_natCast, List.take_of_length_le (by simp [bytesV]), bytesV_drop]
theorem tf {a : Bool} (h : a = true) (k : a = false) : False := by rw [h] at k; cases k
/-- A contract, out of the body. -/
theorem CallR.of {f : Nat} {xs : List V} {post : List Rs → Prop} (rs : List Rs) (hp : post rs) (h : FnR Try.prog f xs rs) : CallR Try.prog f xs post := ⟨rs, h, hp⟩
end Go.Proofs.Ytinckcpmkocakaa.AM

/-
  The common heap: rules for proofs with a variable 'A'.
-/
set_option linter.unusedVariables false
set_option linter.unusedSimpArgs false
set_option linter.unusedSectionVars false
namespace Go.Proofs.Ytinckcpmkocakaa.AM
open Go Go.RowKit

section
variable {A : Prim} {R : List (Nat × AObj) → List D → Prop} (hA : A = std Try.prog R)
include hA
theorem gldI {t : TypeId} {x : Operand} {gh : GH} {id off : Nat} {K : V → Prop} {v : V} (l : List V) (hg : gh.get id = some (.box l)) (hK : K v) (hv : l[off]? = some v := by rfl) (hkn : known (tyOf t).k = true := by rfl) (hag : isAggT (tyOf t).k = false := by rfl) : A.gq (.load t x) [.gp id off] gh K :=
  gqI hA v (gq_load T_ok hkn hag hg hv) hK
theorem gldAI {t : TypeId} {x : Operand} {gh : GH} {id off : Nat} {K : V → Prop} (l : List V) (hg : gh.get id = some (.box l)) (hK : K (.agg ((l.drop off).take (tyOf t).size))) (hle : off + (tyOf t).size ≤ l.length := by first | decide | exact Nat.le_of_ble_eq_true rfl) (hag : isAggT (tyOf t).k = true := by rfl) : A.gq (.load t x) [.gp id off] gh K :=
  gqI hA _ (gq_loadA T_ok hag hg hle) hK
theorem gldRI {t : TypeId} {x : Operand} {gh : GH} {id z off : Nat} {i : Int} {K : V → Prop} {y v : V} (l : List V) (hg : gh.get id = some (.row z l) ∨ gh.get id = some (.frow z l) ∨ gh.get id = some (.arow z l)) (hy : l[i.toNat]? = some y) (hK : K v) (hv : y.flat[off]? = some v := by rfl) (hkn : known (tyOf t).k = true := by rfl) (hag : isAggT (tyOf t).k = false := by rfl) : A.gq (.load t x) [.ge id z i off] gh K :=
  gqI hA v (gq_loadR T_ok hkn hag hg hy hv) hK
/-- A row of bytes, read. -/
theorem gldBI {t : TypeId} {x : Operand} {gh : GH} {id j : Nat} {i : Int} {K : V → Prop} (b : List UInt8) (hg : gh.get id = some (.row 1 (bytesV b))) (hi : i = (j : Int)) (hj : j < b.length) (hK : ∀ r : Int, r = ((b[j]'hj).toNat : Nat) → K (.int .u8 r)) (hkn : known (tyOf t).k = true := by rfl) (hag : isAggT (tyOf t).k = false := by rfl) : A.gq (.load t x) [.ge id 1 i 0] gh K :=
  gqI hA _ (gq_loadR T_ok (y := .int .u8 ((b[j]'hj).toNat : Nat)) hkn hag (.inl hg) (by subst hi; simp [bytesV, hj]) rfl) (hK _ rfl)
theorem gixI {t e : TypeId} {x i : Operand} {gh : GH} {id : Nat} {n m : Int} {k : IntKind} {K : V → Prop} (h0 : 0 ≤ m ∧ m < n) (hK : K (.ge id (tyOf e).size m 0)) (ht : (tyOf t).k = .slice e := by rfl) (hkn : known (tyOf e).k = true := by rfl) : A.gq (.indexAddr t x i) [.gs id n, .int k m] gh K :=
  gqI hA _ (gq_index T_ok ht hkn h0.1 h0.2) hK
theorem glenI {c : Call} {t e : TypeId} {x : Operand} {gh : GH} {id : Nat} {n : Int} {K : V → Prop} (hK : K (.int .i64 n)) (hc : c.callee = .builtin .len := by rfl) (ha : c.args = #[x] := by rfl) (hat : c.argTypes = #[t] := by rfl) (ht : (tyOf t).k = .slice e := by rfl) : A.gq (.call c) [.gs id n] gh K :=
  gqI hA _ (gq_len T_ok hc ha hat ht) hK
theorem gop1 {o : Oper} {xs : List V} {gh : GH} {K : V → GH → Prop} {r : V} {g : GH} (h : GOp Try.prog o xs gh (One r g)) (hK : ∀ g', g' = g → K r g') : A.gop o xs gh K := gopI hA r g h (hK g rfl)
theorem gstI {o : Oper} {t : TypeId} {x y : Operand} {gh : GH} {id off : Nat} {v : V} {K : V → GH → Prop} (l : List V) (hg : gh.get id = some (.box l)) (hK : ∀ g', g' = gh.set id (.box (l.take off ++ v.flat ++ l.drop (off + v.flat.length))) → K (.tup []) g')
    (ho : o.op = .store t x y := by rfl) (hkn : known (tyOf t).k = true := by rfl) (hc : v.okc = true := by rfl) (hsz : v.flat.length = (tyOf t).size := by rfl) (hle : off + v.flat.length ≤ l.length := by first | decide | exact Nat.le_of_ble_eq_true rfl) : A.gop o [.gp id off, v] gh K :=
  gop1 hA (gop_store T_ok ho hkn hc hsz hg hle) hK
/-- A row's element of one cell, written. -/
theorem gstRI {o : Oper} {t : TypeId} {x y : Operand} {gh : GH} {id : Nat} {i : Int} {v el : V} {K : V → GH → Prop} (l : List V) (hg : gh.get id = some (.row 1 l)) (hi : l[i.toNat]? = some el) (hel : el.cell = true) (hK : ∀ g', g' = gh.set id (.row 1 (l.set i.toNat v)) → K (.tup []) g')
    (hv : v.cell = true := by rfl) (ho : o.op = .store t x y := by rfl) (hkn : known (tyOf t).k = true := by rfl) (hsz : (tyOf t).size = 1 := by rfl) : A.gop o [.ge id 1 i 0, v] gh K := by
  have f1 := cell_flat hel
  have f2 := cell_flat hv
  exact gop1 hA (gop_storeR T_ok ho hkn (by cases v <;> simp [V.cell] at hv <;> rfl) (by rw [f2, hsz]; rfl) hg hi (by rw [f1, f2]; simp) (by rw [f1, f2]; rfl)) hK
theorem gapp0I {o : Oper} {c : Call} {t t2 e z bt : Nat} {s x : Operand} {gh : GH} {v : V} {K : V → GH → Prop} (l2 : List V) (hsrc : SrcIs gh z v l2) (hroom : l2.length * bt ≤ 140737488355328) (hK : ∀ (g' : GH) (m : Int), g' = gh.new (.row z l2) → m = l2.length → K (.gs gh.next m) g')
    (ho : o.op = .call c := by rfl) (hcb : c.callee = .builtin .append := by rfl) (hat : c.argTypes = #[t, t2] := by rfl) (has : c.args = #[s, x] := by rfl) (hkt : (tyOf t).k = .slice e := by rfl) (hkn : known (tyOf e).k = true := by rfl) (hz : (tyOf e).size = z := by rfl) (hbt : (tyOf e).bytes = bt := by rfl) (hz0 : 0 < z := by decide)
    (hst : isSrcV (tyOf t2).k v = true := by rfl) (hb0 : 0 < bt := by decide) : A.gop o [.nils, v] gh K := by
  subst hz hbt
  exact gop1 hA (gop_append0 T_ok ho hcb hat has hkt hkn hz0 hst hsrc hroom hb0) fun g' h => hK g' _ h rfl
theorem gappI {o : Oper} {c : Call} {t t2 e z bt : Nat} {s x : Operand} {gh : GH} {id : Nat} {n : Int} {v : V} {K : V → GH → Prop} (l l2 : List V) (hg : gh.get id = some (.row z l)) (hn : n = l.length) (hsrc : SrcIs gh z v l2) (hroom : (l.length + l2.length) * bt ≤ 140737488355328) (hK : ∀ (g' : GH) (m : Int), g' = (gh.del id).new (.row z (l ++ l2)) → m = ((l ++ l2).length : Nat) → K (.gs gh.next m) g')
    (ho : o.op = .call c := by rfl) (hcb : c.callee = .builtin .append := by rfl) (hat : c.argTypes = #[t, t2] := by rfl) (has : c.args = #[s, x] := by rfl) (hkt : (tyOf t).k = .slice e := by rfl) (hkn : known (tyOf e).k = true := by rfl) (hz : (tyOf e).size = z := by rfl) (hbt : (tyOf e).bytes = bt := by rfl) (hz0 : 0 < z := by decide)
    (hst : isSrcV (tyOf t2).k v = true := by rfl) (hb0 : 0 < bt := by decide) : A.gop o [.gs id n, v] gh K := by
  subst hz hbt
  exact gop1 hA (gop_append T_ok ho hcb hat has hkt hkn hz0 hg hn hst hsrc hroom hb0) fun g' h => hK g' _ h rfl
theorem retGI {post : List Rs → GH → Prop} {ob : List (Nat × AObj)} {l : List D} (hR : R = retOkG post) (rs : List Rs) (gh' : GH) {pub : List Nat} (hp : post rs gh') (h2 : rsOk (softOb ob (retIds l rs)) [] l rs) (h1 : look ob hk = some (.heap gh' pub) := by rfl) : A.ret ob l := by
  subst hA hR; exact ⟨rs, gh', pub, h1, h2, hp⟩
end
end Go.Proofs.Ytinckcpmkocakaa.AM

/-
  Plain laws: numbers; the check sum.
-/
set_option linter.unusedVariables false
set_option linter.unusedSimpArgs false
namespace Go.Proofs.Ytinckcpmkocakaa.AM
open Go Go.RowKit

theorem bits_xor_u32_nat (a b : Nat) (ha : a < 4294967296) (hb : b < 4294967296) : bits .xor .u32 (a : Int) (b : Int) = ((a ^^^ b : Nat) : Int) := by
  have hx : a ^^^ b < 2 ^ 32 := Nat.xor_lt_two_pow (by omega) (by omega)
  have h1 : (BitVec.ofInt 32 (a : Int)).toNat = a := by
    rw [BitVec.ofInt_natCast, BitVec.toNat_ofNat]; exact Nat.mod_eq_of_lt (by omega)
  have h2 : (BitVec.ofInt 32 (b : Int)).toNat = b := by
    rw [BitVec.ofInt_natCast, BitVec.toNat_ofNat]; exact Nat.mod_eq_of_lt (by omega)
  show IntKind.u32.wrap ((BitVec.ofInt 32 (a : Int) ^^^ BitVec.ofInt 32 (b : Int)).toNat : Int) = _
  rw [BitVec.toNat_xor, h1, h2]
  simp only [IntKind.wrap, IntKind.bits, IntKind.signed, Bool.false_and, Bool.false_eq_true, if_false]
  omega
theorem bits_xor_u8_nat (a b : Nat) (ha : a < 256) (hb : b < 256) : bits .xor .u8 (a : Int) (b : Int) = ((a ^^^ b : Nat) : Int) := by
  have hx : a ^^^ b < 2 ^ 8 := Nat.xor_lt_two_pow (by omega) (by omega)
  have h1 : (BitVec.ofInt 8 (a : Int)).toNat = a := by
    rw [BitVec.ofInt_natCast, BitVec.toNat_ofNat]; exact Nat.mod_eq_of_lt (by omega)
  have h2 : (BitVec.ofInt 8 (b : Int)).toNat = b := by
    rw [BitVec.ofInt_natCast, BitVec.toNat_ofNat]; exact Nat.mod_eq_of_lt (by omega)
  show IntKind.u8.wrap ((BitVec.ofInt 8 (a : Int) ^^^ BitVec.ofInt 8 (b : Int)).toNat : Int) = _
  rw [BitVec.toNat_xor, h1, h2]
  simp only [IntKind.wrap, IntKind.bits, IntKind.signed, Bool.false_and, Bool.false_eq_true, if_false]
  omega
theorem inot_u32 (a : Nat) (ha : a < 4294967296) : bits .xor .u32 (if IntKind.u32.signed then -1 else IntKind.u32.max) (a : Int) = ((a ^^^ 4294967295 : Nat) : Int) := by
  have : (if IntKind.u32.signed then -1 else IntKind.u32.max) = ((4294967295 : Nat) : Int) := by decide
  rw [this, bits_xor_u32_nat _ _ (by decide) ha, Nat.xor_comm]

theorem wrap_i64 {n : Int} (h1 : -9223372036854775808 ≤ n) (h2 : n ≤ 9223372036854775807) : IntKind.i64.wrap n = n := by
  simp only [IntKind.wrap, IntKind.bits, IntKind.signed, Bool.true_and, decide_eq_true_eq, ge_iff_le]
  split <;> omega
theorem shr_u32 (a : Nat) : Int.fdiv (a : Int) (2 ^ (min (Int.toNat 8) IntKind.u32.bits)) = ((a / 256 : Nat) : Int) := by
  have : (2 : Int) ^ (min (Int.toNat 8) IntKind.u32.bits) = ((256 : Nat) : Int) := by decide
  rw [this, Int.fdiv_eq_ediv_of_nonneg _ (by omega)]
  rfl

/-- One step of the sum, one bit. -/
def one (n : Nat) : Nat := if n % 2 = 1 then (n / 2) ^^^ 3988292384 else n / 2
def ones : Nat → Nat → Nat
  | 0, n => n
  | k + 1, n => ones k (one n)
def eight (n : Nat) : Nat := ones 8 n
theorem one_xor (a b : Nat) : one (a ^^^ b) = one a ^^^ one b := by
  have h1 : (a ^^^ b) / 2 = a / 2 ^^^ b / 2 := Nat.xor_div_two
  have h2 : (a ^^^ b) % 2 = a % 2 ^^^ b % 2 := by
    have := @Nat.xor_mod_two_pow a b 1
    simpa using this
  unfold one
  rw [h1, h2]
  rcases Nat.mod_two_eq_zero_or_one a with ha | ha <;> rcases Nat.mod_two_eq_zero_or_one b with hb | hb <;> rw [ha, hb] <;> simp
  · ac_rfl
  · ac_rfl
  · rw [show a / 2 ^^^ 3988292384 ^^^ (b / 2 ^^^ 3988292384) = a / 2 ^^^ b / 2 ^^^ (3988292384 ^^^ 3988292384) from by ac_rfl]
    simp
theorem ones_xor : ∀ (k a b : Nat), ones k (a ^^^ b) = ones k a ^^^ ones k b
  | 0, _, _ => rfl
  | k + 1, a, b => by simp only [ones, one_xor, ones_xor k]
theorem one_lt {n : Nat} (h : n < 4294967296) : one n < 4294967296 := by
  unfold one
  split
  · exact Nat.xor_lt_two_pow (n := 32) (by omega) (by decide)
  · omega
theorem ones_lt : ∀ (k : Nat) {n : Nat}, n < 4294967296 → ones k n < 4294967296
  | 0, _, h => h
  | k + 1, n, h => ones_lt k (one_lt h)
theorem one_even (n : Nat) : one (2 * n) = n := by unfold one; rw [if_neg (by omega)]; omega
theorem eight_high (y : Nat) : eight (y * 256) = y := by
  have e : ∀ k n, ones k (2 ^ k * n) = n := by
    intro k
    induction k with
    | zero => intro n; simp [ones]
    | succ k ih => intro n; rw [ones, show 2 ^ (k + 1) * n = 2 * (2 ^ k * n) from by rw [Nat.pow_succ]; ac_rfl, one_even, ih]
  have := e 8 y
  rw [Nat.mul_comm] at this
  exact this
/-- A byte more: the table's step. -/
def stepT (x c : Nat) : Nat := eight ((x % 256) ^^^ c) ^^^ (x / 256)
theorem step_eq (x c : Nat) (hc : c < 256) : eight (x ^^^ c) = stepT x c := by
  have h : x = (x % 256) ^^^ (x / 256 * 256) := by
    apply Nat.eq_of_testBit_eq
    intro i
    rw [Nat.testBit_xor, show (256 : Nat) = 2 ^ 8 from rfl, Nat.testBit_mod_two_pow, Nat.testBit_mul_two_pow, Nat.testBit_div_two_pow]
    by_cases hi : i < 8
    · simp [hi, show ¬ 8 ≤ i from by omega]
    · simp [hi, show 8 ≤ i from by omega]
  unfold stepT
  conv => lhs; rw [h]
  rw [show x % 256 ^^^ x / 256 * 256 ^^^ c = (x % 256 ^^^ c) ^^^ (x / 256 * 256) from by ac_rfl]
  unfold eight
  rw [ones_xor]
  congr 1
  exact eight_high _
theorem stepT_lt {x c : Nat} (hx : x < 4294967296) (hc : c < 256) : stepT x c < 4294967296 := by
  rw [← step_eq x c hc]
  exact ones_lt 8 (Nat.xor_lt_two_pow (n := 32) (by omega) (by omega))
/-- Bytes more. -/
def addN (x : Nat) (b : List UInt8) : Nat := b.foldl (fun x c => eight (x ^^^ c.toNat)) x
theorem addN_lt {x : Nat} (hx : x < 4294967296) (b : List UInt8) : addN x b < 4294967296 := by
  induction b generalizing x with
  | nil => exact hx
  | cons c b ih => exact ih (ones_lt 8 (Nat.xor_lt_two_pow (n := 32) (by omega) (by have := c.toNat_lt; omega)))
theorem addN_take {x : Nat} {b : List UInt8} {i : Nat} (h : i < b.length) : addN x (b.take (i + 1)) = eight (addN x (b.take i) ^^^ (b[i]'h).toNat) := by
  unfold addN
  rw [List.take_succ_eq_append_getElem h, List.foldl_append]; rfl
theorem addN_append (x : Nat) (a b : List UInt8) : addN x (a ++ b) = addN (addN x a) b := by unfold addN; rw [List.foldl_append]
end Go.Proofs.Ytinckcpmkocakaa.AM

/-
  Contracts: pack, part 1: numbers.
-/
set_option linter.unusedVariables false
set_option linter.unusedSimpArgs false
namespace Go.Proofs.Ytinckcpmkocakaa.AM
open Go Go.RowKit
set_option maxRecDepth 100000
set_option maxHeartbeats 4000000

/-- Part of a list turned round: the first k with the last k. -/
def Turned (b l : List UInt8) (k : Nat) : Prop := l.length = b.length ∧ ∀ m (h : m < b.length) (h' : m < l.length), l[m]'h' = if m < k ∨ b.length - k ≤ m then b[b.length - 1 - m]'(by omega) else b[m]'h
theorem GH.set_set (gh : GH) (id : Nat) (o p : GObj) : (gh.set id o).set id p = gh.set id p := by
  simp only [GH.set]; congr 1; funext j; split <;> rfl
theorem GH.set_same (gh : GH) (id : Nat) (o : GObj) (h : gh.get id = some o) : gh.set id o = gh := by
  obtain ⟨n, g⟩ := gh
  simp only [GH.set]; congr 1; funext j; split
  · rename_i e; subst e; exact h.symm
  · rfl
theorem Turned.zero (b : List UInt8) : Turned b b 0 := ⟨rfl, fun m h h' => by rw [if_neg (by omega)]⟩
theorem Turned.done {b l : List UInt8} {k : Nat} (h : Turned b l k) (hk : b.length ≤ 2 * k + 1) : l = b.reverse := by
  apply List.ext_getElem (by simp [h.1])
  intro m h1 h2
  rw [h.2 m (by rw [← h.1]; exact h1) h1, List.getElem_reverse]
  split
  · rfl
  · have := h.1
    congr 1; omega
theorem Turned.step {b l : List UInt8} {k : Nat} (h : Turned b l k) (hk : 2 * k + 1 < b.length) (h1 : k < l.length) (h2 : b.length - 1 - k < l.length) : Turned b ((l.set k (l[b.length - 1 - k]'h2)).set (b.length - 1 - k) (l[k]'h1)) (k + 1) := by
  refine ⟨by simp [h.1], fun m hm hm' => ?_⟩
  have e1 := h.2 k (by omega) h1
  have e2 := h.2 (b.length - 1 - k) (by omega) h2
  rw [if_neg (by omega)] at e1 e2
  simp only [List.getElem_set]
  split
  · rename_i e
    rw [e1, if_pos (by omega)]
    congr 1; omega
  · split
    · rename_i e e3
      rw [e2, if_pos (by omega)]
      congr 1; omega
    · rename_i e e3
      have hml : m < l.length := by simpa using hm'
      rw [h.2 m hm hml]
      by_cases hc : m < k ∨ b.length - k ≤ m
      · rw [if_pos hc, if_pos (by omega)]
      · rw [if_neg hc, if_neg (by omega)]
theorem ii_lt {i j : Int} {k n : Nat} (hi : i = (k : Int)) (hj : j = (n : Int) - 1 - (k : Int)) : (i < j) ↔ 2 * k + 1 < n := by omega
theorem ii_dn {j : Int} {k n : Nat} (hj : j = (n : Int) - 1 - (k : Int)) (hk : k < n) (hn : n ≤ 140737488355328) : IntKind.i64.wrap (j - 1) = (n : Int) - 1 - ((k + 1 : Nat) : Int) := by
  rw [hj, wrap_i64 (by omega) (by omega)]; omega
theorem ii_n1 {n : Nat} (hn : n ≤ 140737488355328) : IntKind.i64.wrap ((n : Int) - 1) = (n : Int) - 1 - ((0 : Nat) : Int) := by
  rw [wrap_i64 (by omega) (by omega)]; omega
theorem bytesV_set' (b : List UInt8) (k : Nat) (c : UInt8) : (bytesV b).set k (.int .u8 (c.toNat : Nat)) = bytesV (b.set k c) := by simp [bytesV]
theorem i64_up {i : Int} {j : Nat} (hi : i = j) (hj : j ≤ 140737488355328) : IntKind.i64.wrap (i + 1) = ((j + 1 : Nat) : Int) := by
  rw [hi, wrap_i64 (by omega) (by omega)]; rfl
theorem ii_i {i n : Int} {k m : Nat} (hi : i = (k : Int)) (hn : n = (m : Int)) (h : 2 * k + 1 < m) : 0 ≤ i ∧ i < n := by omega
theorem ii_j {j n : Int} {k m : Nat} (hj : j = (m : Int) - 1 - (k : Int)) (hn : n = (m : Int)) (h : 2 * k + 1 < m) : 0 ≤ j ∧ j < n := by omega
theorem ii_j2 {j : Int} {k m : Nat} (hj : j = (m : Int) - 1 - (k : Int)) (h : 2 * k + 1 < m) : j = ((m - 1 - k : Nat) : Int) := by omega
theorem cReverse (id : Nat) (n : Int) (b : List UInt8) (gh : GH) (hg : gh.get id = some (.row 1 (bytesV b))) (hn : n = b.length) (hb : b.length ≤ 140737488355328) : FnG Try.prog 63 [.gs id n] gh fun rs gh' => rs = [] ∧ gh' = gh.set id (.row 1 (bytesV b.reverse)) := by
  refine FnG.of' T_ok M_ok [] (fn := Try.f63) (by kernel_rfl) rfl rfl rfl rfl (Nat.le_of_ble_eq_true rfl) fun A hA => ?_
  cbv
  refine glenI hA  ?_
  cbv
  refine loopF hA (ι := Int × Int × GH) (fun p => { n := 28, sl := [(0, .v (.gs id n)), (2, .v (.int .i64 p.1)), (3, .v (.int .i64 p.2.1))], ob := [(hk, .heap p.2.2 [])] })
    (fun p => ∃ (k : Nat) (l : List UInt8), p.1 = k ∧ p.2.1 = (b.length : Int) - 1 - (k : Int) ∧ Turned b l k ∧ p.2.2 = gh.set id (.row 1 (bytesV l))) (fun p => b.length - p.1.toNat) (_, _, _) (weakI rfl ⟨rfl, rfl, rfl, trivial⟩ ⟨rfl, trivial⟩) ⟨0, b, rfl, ?_, Turned.zero b, (GH.set_same gh id _ hg).symm⟩ ?_
  · change A.wrap .i64 (A.sub n 1) = _
    rw [hA, hn]; exact ii_n1 hb
  rintro ⟨i, j, g⟩ ⟨k, l, hi, hj, hT, hgg⟩
  dsimp only at hi hj hgg
  cbv
  refine condI hA (fun hc => ?_) (fun hc => ?_)
  · have hk2 : 2 * k + 1 < b.length := by
      rw [hA] at hc
      exact (ii_lt hi hj).1 (of_decide_eq_true hc)
    have hl := hT.1
    have h1 : k < l.length := by omega
    have h2 : b.length - 1 - k < l.length := by omega
    have hi1 := ii_i hi hn hk2
    have hj1 := ii_j hj hn hk2
    have hj2 := ii_j2 hj hk2
    have hg0 : g.get id = some (.row 1 (bytesV l)) := by rw [hgg]; simp
    replace hi := natEq hi
    replace hj2 := natEq hj2
    cbv
    refine chkI hA (by kernel_rfl) ?_
    cbv
    refine gixI hA hj1 ?_
    cbv
    refine gldBI hA l hg0 hj2 h2 ?_
    rintro x hx
    cbv
    refine gixI hA hi1 ?_
    cbv
    refine gldBI hA l hg0 hi h1 ?_
    rintro y hy
    cbv
    refine gixI hA hi1 ?_
    cbv
    refine gstRI hA (bytesV l) hg0 (bytesV_at rfl hi h1).2 rfl ?_
    rintro g1 hg1
    cbv
    refine gixI hA hj1 ?_
    cbv
    have hg1' : g1.get id = some (.row 1 (bytesV (l.set k (l[b.length - 1 - k]'h2)))) := by
      rw [hg1, natEq hx, natEq hi, Int.toNat_natCast, bytesV_set']; simp
    have h3 : b.length - 1 - k < (l.set k (l[b.length - 1 - k]'h2)).length := by simpa using h2
    refine gstRI hA _ hg1' (bytesV_at rfl hj2 h3).2 rfl ?_
    rintro g2 hg2
    refine ⟨(_, _, _), weakI rfl ⟨rfl, rfl, rfl, trivial⟩ ⟨rfl, trivial⟩, ⟨k + 1, _, ?_, ?_, hT.step hk2 h1 h2, ?_⟩, ?_⟩
    · change A.wrap .i64 (A.add i 1) = _
      rw [hA]; exact i64_up hi (by omega)
    · change A.wrap .i64 (A.sub j 1) = _
      rw [hA]; exact ii_dn hj (by omega) hb
    · rw [hg2, hg1, natEq hy, natEq hj2, Int.toNat_natCast, bytesV_set', hgg, GH.set_set, GH.set_set]
    · change b.length - (A.wrap .i64 (A.add i 1)).toNat < b.length - i.toNat
      rw [hA]; simp only [std]; rw [i64_up (natEq hi) (by omega), natEq hi]; omega
  · have hk2 : ¬ 2 * k + 1 < b.length := by
      rw [hA] at hc
      exact fun h => (of_decide_eq_false hc) ((ii_lt hi hj).2 h)
    cbv
    refine retGI hA rfl [] _ ⟨rfl, ?_⟩ trivial
    rw [hgg, hT.done (by omega)]
end Go.Proofs.Ytinckcpmkocakaa.AM

/-
  Contracts: pack, part 2: a number's bytes.
-/
set_option linter.unusedVariables false
set_option linter.unusedSimpArgs false
namespace Go.Proofs.Ytinckcpmkocakaa.AM
open Go Go.RowKit
set_option maxRecDepth 100000
set_option maxHeartbeats 4000000

def leB (n : Nat) : List UInt8 := if h : n = 0 then [] else UInt8.ofNat (n % 256) :: leB (n / 256)
termination_by n
decreasing_by omega
def numB (n : Nat) : List UInt8 := (leB n).reverse
theorem leB_zero : leB 0 = [] := by unfold leB; rfl
theorem leB_pos {n : Nat} (h : 0 < n) : leB n = UInt8.ofNat (n % 256) :: leB (n / 256) := by rw [leB, dif_neg (by omega)]
theorem leB_len (k : Nat) : ∀ n, n < 256 ^ k → (leB n).length ≤ k := by
  induction k with
  | zero => intro n h; have : n = 0 := by simpa using h
            subst this; rw [leB_zero]; simp
  | succ k ih =>
    intro n h
    rcases Nat.eq_zero_or_pos n with h0 | h0
    · subst h0; rw [leB_zero]; simp
    · rw [leB_pos h0]
      have := ih (n / 256) (by rw [Nat.pow_succ] at h; omega)
      simp; omega
theorem numB_len {n : Nat} (h : n < 18446744073709551616) : (numB n).length ≤ 8 := by
  unfold numB; rw [List.length_reverse]; exact leB_len 8 n (by simpa using h)
theorem wrap_u8 (n : Nat) : IntKind.u8.wrap (n : Int) = ((n % 256 : Nat) : Int) := by
  simp only [IntKind.wrap, IntKind.bits, IntKind.signed, Bool.false_and, Bool.false_eq_true, if_false]
  omega
theorem shr_u64_8 (a : Nat) : Int.fdiv (a : Int) (2 ^ (min (Int.toNat 8) IntKind.u64.bits)) = ((a / 256 : Nat) : Int) := by
  have : (2 : Int) ^ (min (Int.toNat 8) IntKind.u64.bits) = ((256 : Nat) : Int) := by decide
  rw [this, Int.fdiv_eq_ediv_of_nonneg _ (by omega)]
  rfl
theorem byteV {x : Int} {n : Nat} (h : x = ((n % 256 : Nat) : Int)) : V.int .u8 x = .int .u8 ((UInt8.ofNat (n % 256)).toNat : Nat) := by
  rw [h]; congr 2; rw [UInt8.toNat_ofNat']; omega
theorem pos_of {x : Int} {k : Nat} (hx : x = (k : Int)) (h : 0 < x) : 0 < k := by omega
theorem zero_of {x : Int} {k : Nat} (hx : x = (k : Int)) (h : ¬ 0 < x) : k = 0 := by omega
theorem cNum (v : Int) (n : Nat) (hv : v = n) (hn : n < 18446744073709551616) : CallR Try.prog 41 [.int .u64 v] fun rs => ∃ l, rs = [.v (.slice l)] ∧ l = bytesV (numB n) := by
  obtain ⟨l, hl⟩ : ∃ l, l = bytesV (numB n) := ⟨_, rfl⟩
  refine ⟨[.v (.slice l)], FnR.ofG (fun r hr => by simp at hr; subst hr; rw [hl]; exact noG_bytes _) fun nx => FnG.frz (post0 := fun rs gh' => ∃ (id : Nat) (m : Int), rs = [.v (.gs id m)] ∧ gh'.get id = some (.row 1 l) ∧ m = l.length) ?_ ?_, _, rfl, hl⟩
  · obtain ⟨g0, hg0⟩ : ∃ g0 : GH, g0 = ⟨nx, fun _ => none⟩ := ⟨_, rfl⟩
    rw [← hg0]
    refine FnG.of' T_ok M_ok [12] (fn := Try.f41) (by kernel_rfl) rfl rfl rfl rfl (Nat.le_of_ble_eq_true rfl) fun A hA => ?_
    cbv
    refine loopF hA (ι := Int × Nat × Int × GH) (fun p => { n := 16, sl := [(0, .v (.int .u64 p.1)), (3, .v (.gs p.2.1 p.2.2.1))], ob := [(hk, .heap p.2.2.2 [12])] })
      (fun p => ∃ (k : Nat) (a : List UInt8), p.1 = k ∧ k ≤ n ∧ a ++ leB k = leB n ∧ p.2.2.1 = a.length ∧ p.2.2.2.get p.2.1 = some (.row 1 (bytesV a))) (fun p => p.1.toNat) (v, g0.next, 0, g0.new (.row 1 [])) ((weak_gnil _ 3 1 rfl rfl).trans (weakI rfl ⟨rfl, rfl, trivial⟩ ⟨rfl, trivial⟩)) ⟨n, [], hv, Nat.le_refl _, rfl, rfl, by simp [bytesV]⟩ ?_
    rintro ⟨x, id, m, g⟩ ⟨k, a, hx, hkn, ha, hm, hg⟩
    dsimp only at hx hm hg
    have hal : a.length + (leB k).length ≤ 8 := by
      have := leB_len 8 n (by simpa using hn); rw [← ha] at this; simpa using this
    cbv
    refine condI hA (fun hc => ?_) (fun hc => ?_)
    · have hk0 : 0 < k := by
        rw [hA] at hc
        have h : (0 : Int) < x := of_decide_eq_true hc
        exact pos_of hx h
      cbv
      have hml : m = ((bytesV a).length : Int) := by rw [bytesV_len]; exact hm
      refine gappI hA (bytesV a) [.int .u8 (A.wrap .u8 x)] hg hml ⟨rfl, by simp [V.flat]⟩ (by rw [bytesV_len]; change (a.length + 1) * 1 ≤ _; omega) ?_
      rintro g1 m1 hg1 hm1
      cbv
      refine nnegI hA (by decide) ?_
      cbv
      have hx8 : A.wrap .u8 x = ((k % 256 : Nat) : Int) := by rw [hA, natEq hx]; exact wrap_u8 k
      refine ⟨(_, _, _, _), weakI rfl ⟨rfl, rfl, trivial⟩ ⟨rfl, trivial⟩, ⟨k / 256, a ++ [UInt8.ofNat (k % 256)], ?_, by omega, ?_, ?_, ?_⟩, ?_⟩
      · change A.shr .u64 x 8 = _
        rw [hA, natEq hx]; exact shr_u64_8 k
      · rw [← ha, leB_pos hk0]; simp
      · exact (natEq hm1).trans (by simp [bytesV])
      · change g1.get g.next = _
        rw [hg1, byteV hx8]; simp [bytesV]
      · change (A.shr .u64 x 8).toNat < x.toNat
        rw [hA, natEq hx]; simp only [std]; rw [shr_u64_8]; omega
    · have hk0 : k = 0 := by
        rw [hA] at hc
        have h : ¬ (0 : Int) < x := of_decide_eq_false hc
        exact zero_of hx h
      subst hk0
      rw [leB_zero, List.append_nil] at ha
      cbv
      refine callGI hA (cReverse id m a g hg (natEq hm) (by omega)) ?_
      intro rs_ g1 h_
      obtain ⟨q_1, hg1⟩ := h_
      subst q_1
      cbv
      refine retGI hA rfl [.v (.gs id m)] g1 ⟨id, m, rfl, ?_, ?_⟩ ⟨rfl, trivial⟩
      · rw [hg1, hl, ha]; simp [numB]
      · rw [hl, bytesV_len]; unfold numB; rw [List.length_reverse, ← ha]; exact natEq hm
  · rintro rs gh' ⟨id, m, rfl, h1, h2⟩
    exact ⟨0, id, 1, m, l, rfl, h1, by omega, by rw [h2, Int.toNat_natCast, List.take_length]; rfl⟩
end Go.Proofs.Ytinckcpmkocakaa.AM
