/-
 The abstract machine, part 26: from a contract to a row: 'for every input true; the input reads as it did'.
-/
import Derived.Test.YthioccbgjkbmdaaGreatM129f73103e
set_option linter.unusedVariables false
set_option linter.unusedSimpArgs false
set_option linter.unusedSectionVars false
set_option maxRecDepth 100000
set_option maxHeartbeats 4000000
namespace Go.Proofs.YthioccbgjkbmdaaGreat.AM
open Go Go.RowKit Go.ChangeShapes Go.WideShapes Go.ChangeAt
section
variable {P : Program} (hT : tableOf P = T) {H : Type} {enc : TypeId × Value → H}
include hT
theorem okWide_cell {t : Nat} {w : World} {r : Reach} {b0 : Nat} {v : Value} (hk : known (tyOf t).k = true) (ha : isAggT (tyOf t).k = false) (h : Value.okWide P w r b0 t v) {k : Nat} (hg : good k t = true) : v.cells.toList = [v] := by
 cases k with
 | zero => simp [good] at hg
 | succ k =>
  unfold good at hg
  split at hg
  ·rename_i hk'
   obtain ⟨b, rfl⟩ := okWide_bool (ty_bool hT hk') h; rfl
  ·rename_i kd hk'
   simp only [Value.okWide, ty_int hT hk', Cell.okWide] at h
   cases v <;> simp_all [Cell.ok, Value.cells]
  ·rename_i hk'
   simp only [Value.okWide, ty_str hT hk', Cell.okWide] at h
   cases v <;> simp_all [Cell.ok, Value.cells]
  ·rename_i e hk'
   simp only [Value.okWide, ty_slice hT hk', Cell.okWide] at h
   cases v <;> simp_all [Cell.ok, Value.cells]
  ·rename_i fs hk'
   rw [hk'] at ha; simp [isAggT] at ha
  ·cases hg
theorem okWide_agg {t : Nat} {w : World} {r : Reach} {b0 : Nat} {v : Value} (ha : isAggT (tyOf t).k = true) (h : Value.okWide P w r b0 t v) {k : Nat} (hg : good k t = true) : ∃ cs, v = .agg cs := by
 cases k with
 | zero => simp [good] at hg
 | succ k =>
  unfold good at hg
  split at hg
  ·rename_i hk'; rw [hk'] at ha; simp [isAggT] at ha
  ·rename_i hk'; rw [hk'] at ha; simp [isAggT] at ha
  ·rename_i hk'; rw [hk'] at ha; simp [isAggT] at ha
  ·rename_i hk'; rw [hk'] at ha; simp [isAggT] at ha
  ·rename_i fs hk'
   obtain ⟨fields, hu, _⟩ := ty_struct hT hk'
   simp only [Value.okWide, hu] at h
   obtain ⟨cs, h, _⟩ := h
   exact ⟨cs, h⟩
  ·cases hg
theorem readArg {m : Nat} {w : World} {r : Reach} {b0 k t : Nat} {v : Value} {d : DataW H} {ps : List MemPlace} (hg : good k t = true) (h : DataW.Trod enc P w 0 (fun _ => true) true t v d ps) (hok : Value.okWide P w r b0 t v) (hw : ∀ n ∈ d.weights P t, n ≤ m) : ∃ x, TyM m k t x ∧ Rep (okW w) w x v := by
 obtain ⟨fuel, h⟩ := h
 obtain ⟨x, h1, ⟨h2, h3⟩, h4, h5, h6⟩ := read hT k t _ d ps fuel hg h hw
 refine ⟨x, h1, ?_⟩
 cases ha : isAggT (tyOf t).k with
 | false =>
  have hc := h6 ha
  have hf := cell_flat hc
  have hv := okWide_cell hT (good_known hT hg) ha hok hg
  obtain ⟨_, u, h7, h8⟩ := h3 0 (by rw [hf]; simp)
  rw [hv] at h7
  simp at h7
  subst h7
  simpa [hf] using h8
 | true =>
  obtain ⟨l, rfl⟩ := h5 ha
  obtain ⟨cs, rfl⟩ := okWide_agg hT ha hok hg
  have : (Value.agg cs) = .agg cs.toList.toArray := by simp
  rw [this]
  refine .agg l cs.toList ?_ (fun i hi => (h3 i hi).1) (fun i hi hi' => ?_)
  ·exact h2.symm
  ·obtain ⟨_, u, q1, q2⟩ := h3 i hi
   have q1' : cs.toList[i]? = some u := q1
   rw [List.getElem?_eq_getElem hi'] at q1'
   cases q1'
   exact q2
theorem readAll {m : Nat} {w : World} {r : Reach} {b0 k : Nat} : ∀ (ts : List Nat) (vs : List Value) (ds : List (DataW H)) (ps : List MemPlace), (∀ t ∈ ts, good k t = true) → DataW.TrodAll enc P w 0 (fun _ => true) true ts vs ds ps → (∀ (j : Nat) t v, ts[j]? = some t → vs[j]? = some v → Value.okWide P w r b0 t v) → (∀ n ∈ DataW.weightsEach P ts ds, n ≤ m) →
  ∃ xs : List V, xs.length = ts.length ∧ vs.length = ts.length ∧ ds.length = ts.length ∧ (∀ i (h : i < xs.length) (h' : i < ts.length), TyM m k (ts[i]'h') (xs[i]'h)) ∧ ∀ i (h : i < xs.length) (h' : i < vs.length), Rep (okW w) w (xs[i]'h) (vs[i]'h')
 | [], [], [], ps, hg, h, hok, hw => ⟨[], rfl, rfl, rfl, by simp, by simp⟩
 | t :: ts, v :: vs, d :: ds, ps, hg, h, hok, hw => by
  obtain ⟨p, q, h1, h2, _⟩ := h
  unfold DataW.weightsEach at hw
  obtain ⟨x, k1, k2⟩ := readArg hT (hg t (by simp)) h1 (hok 0 t v rfl rfl) (fun n hn => hw n (List.mem_append_left _ hn))
  obtain ⟨xs, q1, q2, q3, q4, q5⟩ := readAll ts vs ds q (fun t ht => hg t (List.mem_cons_of_mem _ ht)) h2 (fun j t v h h' => hok (j + 1) t v (by simpa using h) (by simpa using h')) (fun n hn => hw n (List.mem_append_right _ hn))
  refine ⟨x :: xs, by simp [q1], by simp [q2], by simp [q3], fun i hi hi' => ?_, fun i hi hi' => ?_⟩
  ·cases i with
   | zero => exact k1
   | succ i => exact q4 i (by simpa using hi) (by simpa using hi')
  ·cases i with
   | zero => exact k2
   | succ i => exact q5 i (by simpa using hi) (by simpa using hi')
 | [], [], _ :: _, _, _, h, _, _ => h.elim
 | [], _ :: _, _, _, _, h, _, _ => h.elim
 | _ :: _, [], _, _, _, h, _, _ => h.elim
 | _ :: _, _ :: _, [], _, _, h, _, _ => h.elim
omit hT in
theorem trodAll_stays (hl : laidOutB P = true) {W W' : World} {sp' : Nat → Bool} : ∀ (ts : List Nat) (vs : List Value) (ds : List (DataW H)) (ps : List MemPlace), (∀ t ∈ ts, P.readableRec t = true ∧ t < P.types.size) → DataW.TrodAll enc P W 0 (fun _ => true) true ts vs ds ps → (∀ p ∈ ps, W.sameAt W' p) → (∀ p ∈ ps, sp' p.block = true) → DataW.TrodAll enc P W' 0 sp' true ts vs ds ps
 | [], [], [], ps, hr, h, _, _ => h
 | t :: ts, v :: vs, d :: ds, ps, hr, h, hs, hp => by
  obtain ⟨p, q, h1, h2, rfl⟩ := h
  exact ⟨p, q, WideElems.Trod_stays hl (hr t (by simp)).1 (hr t (by simp)).2 h1 (fun x hx => hs x (List.mem_append_left _ hx)) (fun x hx => hp x (List.mem_append_left _ hx)),
   trodAll_stays hl ts vs ds q (fun t ht => hr t (List.mem_cons_of_mem _ ht)) h2 (fun x hx => hs x (List.mem_append_right _ hx)) (fun x hx => hp x (List.mem_append_right _ hx)), rfl⟩
 | [], [], _ :: _, _, _, h, _, _ => h.elim
 | [], _ :: _, _, _, _, h, _, _ => h.elim
 | _ :: _, [], _, _, _, h, _, _ => h.elim
 | _ :: _, _ :: _, [], _, _, h, _, _ => h.elim
def RowR (P : Program) (f : Nat) (xs : List V) : Prop :=
 ∀ (w : World) (vs : List Value), vs.length = xs.length → (∀ i (h : i < xs.length) (h' : i < vs.length), Rep (okW w) w (xs[i]'h) (vs[i]'h')) →
  Calls P f vs.toArray w fun e w' => e = .returned (.bool true) ∧ Below w.heap.size w w'
omit hT in
theorem RowR.of_R {f : Nat} {xs : List V} (h : FnR P f xs [.v (.bool true)]) : RowR P f xs := fun w vs hl hr =>
 (h.2 w (okW w) vs (fun b o h => h) hl hr).mono fun e w' ⟨us, gs, ok', he, hb, _, _, _, hu, hg, hrs, _⟩ => by
  match us, gs, hu, hg, hrs, he with
  | [u], [g], hu, hg, hrs, he =>
   obtain ⟨_, hrep⟩ := hrs 0 (by simp) (by simp) (by simp)
   have hub : u = .bool true := rep_bool hrep
   subst hub
   exact ⟨he, hb⟩
  | [], _, hu, _, _, _ => simp at hu
  | _ :: _ :: _, _, hu, _, _, _ => simp at hu
  | [_], [], _, hg, _, _ => simp at hg
  | [_], _ :: _ :: _, _, hg, _, _ => simp at hg
theorem calls_rowM {m : Nat} {f : Nat} {fn : Func} {ts : List Nat} {tb k : Nat} {s : ChangeSpec} (hparams : fn.params.toList = ts) (hrt : fn.resultTypes = #[tb]) (htb : P.underlying tb = some .bool) (hgood : ts.all (good k) = true) (hrec : ∀ t ∈ ts, P.readableRec t = true ∧ t < P.types.size) (hlaid : laidOutB P = true)
  (hvars : s.vars = []) (hs : ∀ ds : List (DataW H), ds.length = ts.length → s.fn H ds = { results := [.lit (.bool true)], args := ds })
  (hf : ∀ xs : List V, xs.length = ts.length → (∀ i (h : i < xs.length) (h' : i < ts.length), TyM m k (ts[i]'h') (xs[i]'h)) → RowR P f xs)
  {W : World} {r : Reach} {base : Nat} {args : Array Value} {ds gs : List (DataW H)} {before : List MemPlace}
  (hval : ∀ (j : Nat) t v, fn.params[j]? = some t → args[j]? = some v → Value.okWide P W r base t v) (hW : DataW.Whole enc P fn.params.toList s.vars false W args.toList ds gs before)
  (hwt : ∀ n ∈ DataW.weightsEach P (fn.params.toList ++ s.plain.varTypes P) (ds ++ gs), n ≤ m) :
  Calls P f args W fun e W' => ∃ v, e = .returned v ∧ s.post enc P fn false true false false W args v W' := by
 subst hparams
 have hW' := hW
 obtain ⟨p, q, hA, hV, rfl, hz, hn⟩ := hW
 rw [hvars] at hV
 obtain ⟨rfl, rfl⟩ := trodVars_none hV
 have hlen : ds.length = fn.params.toList.length := by
  clear hval hW' hwt hz hn hs hf hgood hrec hV
  generalize fn.params.toList = ts at *
  generalize args.toList = vs at *
  clear hrt
  induction ts generalizing vs ds p with
  | nil => cases vs <;> cases ds <;> first | rfl | exact hA.elim
  | cons t ts ih =>
   cases vs <;> cases ds <;> first | exact hA.elim | skip
   obtain ⟨p1, q1, _, h2, _⟩ := hA
   simp [ih _ _ h2]
 obtain ⟨xs, h1, h2, h3, h4, h5⟩ := readAll hT fn.params.toList args.toList ds p (fun t ht => List.all_eq_true.1 hgood t ht) hA (fun j t v h h' => hval j t v (by simpa using h) (by simpa using h')) (fun n hn => by
  exact hwt n (by
   suffices h : ∀ (ts us : List Nat) (l : List (DataW H)), l.length = ts.length → DataW.weightsEach P (ts ++ us) (l ++ []) = DataW.weightsEach P ts l by
    rw [h _ _ _ hlen]; exact hn
   intro ts us l hl
   simp only [List.append_nil]
   induction ts generalizing l with
   | nil =>
    have : l = [] := List.eq_nil_of_length_eq_zero (by simpa using hl)
    subst this
    cases us <;> simp [DataW.weightsEach]
   | cons t ts ih =>
    cases l with
    | nil => simp at hl
    | cons d l => simp only [List.cons_append]; unfold DataW.weightsEach; rw [ih l (by simpa using hl)])
  )
 have hcall := hf xs h1 h4 W args.toList (by omega) h5
 have hargs : args.toList.toArray = args := by simp
 rw [hargs] at hcall
 refine hcall.mono fun e W' ⟨he, hb⟩ => ?_
 ·refine ⟨.bool true, he, ?_⟩
  have hlt := hW'.lt
  have hpost : s.fn H (ds ++ []) = { results := [.lit (.bool true)], args := ds } := by rw [List.append_nil]; exact hs ds hlen
  have hstay : ∀ sp : Nat → Bool, (∀ x ∈ p, sp x.block = true) → DataW.TrodAll enc P W' 0 sp true fn.params.toList args.toList ds p := fun sp hsp =>
   trodAll_stays hlaid _ _ _ _ hrec hA (fun x hx => hb.same (hlt x (by simpa using hx))) hsp
  have hres : ∀ (b : Nat) (sp : Nat → Bool) (hd : Bool), DataW.TrodAll enc P W' b sp hd fn.resultTypes.toList ((Value.bool true).resultList fn.resultTypes.size) [.lit (.bool true)] [] := by
   intro b sp hd
   rw [hrt]
   exact trodAll_mk1 (shut_bool htb true)
  have hok : ∀ (j : Nat) (t : TypeId) (r : Value), fn.resultTypes[j]? = some t → ((Value.bool true).resultList fn.resultTypes.size)[j]? = some r → Value.okWide P W' .any 0 t r := ok_one hrt rfl (okWide_bool_mk htb true)
  have hold : ∀ x ∈ p, (fun b => decide (b < W.heap.size)) x.block = true := fun x hx => by simpa using hlt x (by simpa using hx)
  refine ⟨ds, [], p ++ [], [], p, [], hW', by rw [hpost]; exact hres _ _ _, by rw [hpost]; exact hstay _ hold, by rw [hvars, hpost]; rfl, World.keptBut_mono (fun x hx => ⟨by simpa using hx, Or.inr (by simpa using hx)⟩) (hb.frame (· ∈ p)), fun _ => ?_⟩
  refine ⟨hok, _, [], ([] ++ p) ++ [], ⟨[] ++ p, [], trodAll_append (hstay _ (fun _ _ => rfl)) (hres _ _ _), by rw [hvars]; rfl, rfl, ?_, ?_⟩, ?_⟩
  ·intro b off hp
   have hx : MemPlace.cell b off ∈ p := by simpa using hp
   rw [hb.frozen (p := ⟨b, off, none⟩) (by have := hlt _ (by simpa using hx : MemPlace.cell b off ∈ p ++ []); exact this)]
   exact hz b off (by simpa using hx)
  ·intro ha; cases ha
  ·intro x hx _
   simpa using hx
theorem calls_row {f : Nat} {fn : Func} {ts : List Nat} {tb k : Nat} {s : ChangeSpec} (hparams : fn.params.toList = ts) (hrt : fn.resultTypes = #[tb]) (htb : P.underlying tb = some .bool) (hgood : ts.all (good k) = true) (hrec : ∀ t ∈ ts, P.readableRec t = true ∧ t < P.types.size) (hlaid : laidOutB P = true)
  (hvars : s.vars = []) (hs : ∀ ds : List (DataW H), ds.length = ts.length → s.fn H ds = { results := [.lit (.bool true)], args := ds })
  (hf : ∀ xs : List V, xs.length = ts.length → (∀ i (h : i < xs.length) (h' : i < ts.length), TyV k (ts[i]'h') (xs[i]'h)) → RowR P f xs)
  {W : World} {r : Reach} {base : Nat} {args : Array Value} {ds gs : List (DataW H)} {before : List MemPlace}
  (hval : ∀ (j : Nat) t v, fn.params[j]? = some t → args[j]? = some v → Value.okWide P W r base t v) (hW : DataW.Whole enc P fn.params.toList s.vars false W args.toList ds gs before)
  (hwt : (DataW.weightsEach P (fn.params.toList ++ s.plain.varTypes P) (ds ++ gs)).all (· ≤ reachBytes) = true) :
  Calls P f args W fun e W' => ∃ v, e = .returned v ∧ s.post enc P fn false true false false W args v W' :=
 calls_rowM hT hparams hrt htb hgood hrec hlaid hvars hs hf hval hW fun n hn => by simpa using List.all_eq_true.1 hwt n hn
end
open Go Go.RowKit
theorem bytesV_len (b : List UInt8) : (bytesV b).length = b.length := by simp [bytesV]
theorem bytes_ex : ∀ (l : List V), (∀ y ∈ l, ∃ n, y = .int .u8 n ∧ 0 ≤ n ∧ n ≤ 255) → ∃ b, l = bytesV b
 | [], _ => ⟨[], rfl⟩
 | y :: r, h => by
  obtain ⟨n, rfl, h0, h1⟩ := h y (by simp)
  obtain ⟨b, rfl⟩ := bytes_ex r (fun z hz => h z (List.mem_cons_of_mem _ hz))
  refine ⟨UInt8.ofNat n.toNat :: b, ?_⟩
  simp only [bytesV, List.map_cons, List.cons.injEq, V.int.injEq, true_and, and_true]
  rw [UInt8.toNat_ofNat']
  omega
theorem tv_int {k t : Nat} {kd : IntKind} {x : V} (e : (tyOf t).k = .int kd) (h : TyV (k + 1) t x) : ∃ n, x = .int kd n ∧ kd.min ≤ n ∧ n ≤ kd.max := by
 unfold TyV TyM at h; rw [e] at h; exact h
theorem tv_u16 {k t : Nat} {x : V} (e : (tyOf t).k = .int .u16) (h : TyV (k + 1) t x) : ∃ n : Nat, x = .int .u16 (n : Int) ∧ n < 65536 := by
 obtain ⟨n, rfl, h0, h1⟩ := tv_int e h
 have h0' : (0 : Int) ≤ n := h0
 have h1' : n ≤ 65535 := h1
 exact ⟨n.toNat, by rw [Int.toNat_of_nonneg h0'], by omega⟩
theorem tv_str {k t : Nat} {x : V} (e : (tyOf t).k = .str) (h : TyV (k + 1) t x) : ∃ s, x = .str s ∧ s.length ≤ 140737488355328 := by
 unfold TyV TyM at h; rw [e] at h
 obtain ⟨s, rfl, h⟩ := h
 exact ⟨s, rfl, Nat.le_trans h (by simp [reachBytes])⟩
theorem tv_bool {k t : Nat} {x : V} (e : (tyOf t).k = .bool) (h : TyV (k + 1) t x) : ∃ b, x = .bool b := by
 unfold TyV TyM at h; rw [e] at h; exact h
theorem tv_slice {k t u : Nat} {x : V} (e : (tyOf t).k = .slice u) (h : TyV (k + 1) t x) : ∃ l, x = .slice l ∧ l.length * (tyOf u).bytes ≤ 140737488355328 ∧ ∀ y ∈ l, TyV k u y := by
 unfold TyV TyM at h; rw [e] at h
 obtain ⟨l, rfl, h1, h2⟩ := h
 exact ⟨l, rfl, Nat.le_trans h1 (by simp [reachBytes]), h2⟩
theorem tv_bytes {k t u : Nat} {x : V} (e : (tyOf t).k = .slice u) (e2 : (tyOf u).k = .int .u8) (e3 : (tyOf u).bytes = 1) (h : TyV (k + 2) t x) : ∃ b, x = .slice (bytesV b) ∧ b.length ≤ 140737488355328 := by
 obtain ⟨l, rfl, h1, h2⟩ := tv_slice e h
 obtain ⟨b, rfl⟩ := bytes_ex l fun y hy => by
  obtain ⟨n, q1, q2, q3⟩ := tv_int e2 (h2 y hy)
  exact ⟨n, q1, q2, q3⟩
 rw [e3, bytesV_len] at h1
 exact ⟨b, rfl, by omega⟩
def listsV (bs : List (List UInt8)) : List V := bs.map fun b => .slice (bytesV b)
theorem listsV_len (bs : List (List UInt8)) : (listsV bs).length = bs.length := by simp [listsV]
def strsV (bs : List (List UInt8)) : List V := bs.map V.str
theorem strsV_len (bs : List (List UInt8)) : (strsV bs).length = bs.length := by simp [strsV]
theorem tv_strs {k t u : Nat} {x : V} (e : (tyOf t).k = .slice u) (e2 : (tyOf u).k = .str) (e5 : (tyOf u).bytes = 16) (h : TyV (k + 2) t x) :
  ∃ bs, x = .slice (strsV bs) ∧ bs.length * 16 ≤ 140737488355328 ∧ ∀ b ∈ bs, b.length ≤ 140737488355328 := by
 obtain ⟨l, rfl, h1, h2⟩ := tv_slice e h
 have key : ∀ l : List V, (∀ y ∈ l, TyV (k + 1) u y) → ∃ bs, l = strsV bs ∧ ∀ b ∈ bs, b.length ≤ 140737488355328 := by
  intro l
  induction l with
  | nil => exact fun _ => ⟨[], rfl, by simp⟩
  | cons y r ih =>
   intro h
   obtain ⟨b, rfl, hb⟩ := tv_str e2 (h y (by simp))
   obtain ⟨bs, rfl, hbs⟩ := ih fun z hz => h z (List.mem_cons_of_mem _ hz)
   exact ⟨b :: bs, rfl, fun c hc => (List.mem_cons.1 hc).elim (fun e => e ▸ hb) (hbs c)⟩
 obtain ⟨bs, rfl, hbs⟩ := key l h2
 rw [e5, strsV_len] at h1
 exact ⟨bs, rfl, h1, hbs⟩
theorem tv_struct {k t : Nat} {fs : List (Nat × Nat)} {x : V} (e : (tyOf t).k = .struct fs) (h : TyV (k + 1) t x) : ∃ ys : List V, x = .agg (ys.flatMap V.flat) ∧ ys.length = fs.length ∧ ∀ i (h : i < ys.length) (h' : i < fs.length), TyV k (fs[i]'h').2 (ys[i]'h) := by
 unfold TyV TyM at h; rw [e] at h; exact h
theorem bytesV_at {b : List UInt8} {l : List V} (hl : l = bytesV b) {j : Nat} {i : Int} (hi : i = j) (hj : j < b.length) : 0 ≤ i ∧ l[i.toNat]? = some (.int .u8 ((b[j]'hj).toNat : Nat)) := by
 subst hl hi
 simp [bytesV, hj]
theorem listsV_at {b : List (List UInt8)} {l : List V} (hl : l = listsV b) {j : Nat} {i : Int} (hi : i = j) (hj : j < b.length) : 0 ≤ i ∧ l[i.toNat]? = some (.slice (bytesV (b[j]'hj))) ∧ (V.slice (bytesV (b[j]'hj))).cell = true := by
 subst hl hi
 refine ⟨by omega, ?_, rfl⟩
 simp [listsV, hj]
theorem strsV_at {b : List (List UInt8)} {l : List V} (hl : l = strsV b) {j : Nat} {i : Int} (hi : i = j) (hj : j < b.length) : 0 ≤ i ∧ l[i.toNat]? = some (.str (b[j]'hj)) ∧ (V.str (b[j]'hj)).cell = true := by
 subst hl hi
 refine ⟨by omega, ?_, rfl⟩
 simp [strsV, hj]
theorem bytesV_flat {b : List UInt8} {l : List V} (hl : l = bytesV b) : ∀ x ∈ l, x.flat.length = 1 := by
 subst hl; intro x hx
 simp only [bytesV, List.mem_map] at hx
 obtain ⟨c, _, rfl⟩ := hx
 rfl
theorem natEq {i : Int} {j : Nat} (h : i = Int.ofNat j) : i = (j : Int) := h
theorem bytesV_take (b : List UInt8) (n : Nat) : (bytesV b).take n = bytesV (b.take n) := by simp [bytesV]
theorem bytesV_drop (b : List UInt8) (n : Nat) : (bytesV b).drop n = bytesV (b.drop n) := by simp [bytesV]
theorem bytesV_app (a b : List UInt8) : bytesV a ++ bytesV b = bytesV (a ++ b) := by simp [bytesV]
section
variable {A : Prim} {P : Program} {R : List (Nat × AObj) → List D → Prop} (hA : A = std P R)
include hA
theorem condT {b : Bool} {K : Bool → Prop} (h : b = true) (hK : K true) : A.cond b K := by subst hA; intro c hc; rw [← hc, h]; exact hK
theorem condF {b : Bool} {K : Bool → Prop} (h : b = false) (hK : K false) : A.cond b K := by subst hA; intro c hc; rw [← hc, h]; exact hK
theorem subLN {s : List V} {lo hi : Int} {K : List V → Prop} (h : 0 ≤ lo ∧ lo ≤ hi ∧ hi ≤ s.length) (hK : ∀ r, r = (s.take hi.toNat).drop lo.toNat → K r) : A.subL s lo hi K := by subst hA; exact ⟨h, hK _ rfl⟩
theorem subSN {s : List UInt8} {lo hi : Int} {K : List UInt8 → Prop} (h : 0 ≤ lo ∧ lo ≤ hi ∧ hi ≤ s.length) (hK : ∀ r, r = (s.take hi.toNat).drop lo.toNat → K r) : A.subS s lo hi K := by subst hA; exact ⟨h, hK _ rfl⟩
theorem b2sN {l : List V} {s : List UInt8} {K : List UInt8 → Prop} (h : l = bytesV s) (hK : ∀ r, r = s → K r) : A.b2s l K := by subst hA; exact ⟨s, h, hK _ rfl⟩
theorem getXN {l : List V} {i : Int} {x : V} {K : V → Prop} (h : 0 ≤ i ∧ l[i.toNat]? = some x ∧ x.cell = true) (hK : ∀ r, r = x → K r) : A.getX l i K := by subst hA; exact ⟨x, h, hK _ rfl⟩
theorem getIN {k : IntKind} {l : List V} {i n : Int} {K : Int → Prop} (h : 0 ≤ i ∧ l[i.toNat]? = some (.int k n)) (hK : ∀ r, r = n → K r) : A.getI k l i K := by subst hA; exact ⟨n, h, hK _ rfl⟩
theorem getCN {s : List UInt8} {i : Int} {c : UInt8} {K : Int → Prop} (h : 0 ≤ i ∧ s[i.toNat]? = some c) (hK : ∀ r : Int, r = (c.toNat : Nat) → K r) : A.getC s i K := by subst hA; exact ⟨c, h, hK _ rfl⟩
theorem getBN {b : List UInt8} {l : List V} (hl : l = bytesV b) {j : Nat} {i : Int} (hi : i = j) (hj : j < b.length) {K : Int → Prop} (hK : ∀ r : Int, r = ((b[j]'hj).toNat : Nat) → K r) : A.getI .u8 l i K := getIN hA (bytesV_at hl hi hj) hK
theorem getLN {b : List (List UInt8)} {l : List V} (hl : l = listsV b) {j : Nat} {i : Int} (hi : i = j) (hj : j < b.length) {K : V → Prop} (hK : ∀ r, r = bytesV (b[j]'hj) → K (.slice r)) : A.getX l i K := getXN hA (listsV_at hl hi hj) fun r hr => hr ▸ hK _ rfl
theorem getSN {b : List (List UInt8)} {l : List V} (hl : l = strsV b) {j : Nat} {i : Int} (hi : i = j) (hj : j < b.length) {K : V → Prop} (hK : ∀ r, r = b[j]'hj → K (.str r)) : A.getX l i K := getXN hA (strsV_at hl hi hj) fun r hr => hr ▸ hK _ rfl
end
theorem cutTo {l r : List V} {b : List UInt8} {hi : Int} {k : Nat} (hk : hi = (k : Int)) (hl : l = bytesV b) (hr : r = (l.take hi.toNat).drop (Int.toNat 0)) : r = bytesV (b.take k) := by
 subst hk hl hr; simp [bytesV]
theorem cutFrom {l r : List V} {b : List UInt8} {lo n : Int} {k : Nat} (hk : lo = (k : Int)) (hl : l = bytesV b) (hn : n = (b.length : Nat)) (hr : r = (l.take n.toNat).drop lo.toNat) : r = bytesV (b.drop k) := by
 subst hk hl hr hn
 rw [Int.toNat_natCast, Int.toNat_natCast, List.take_of_length_le (by simp [bytesV]), bytesV_drop]
theorem CallR.of {f : Nat} {xs : List V} {post : List Rs → Prop} (rs : List Rs) (hp : post rs) (h : FnR Tryz.prog f xs rs) : CallR Tryz.prog f xs post := ⟨rs, h, hp⟩
open Go Go.RowKit
abbrev Bs := List UInt8
structure Ct where
 b : Bs
 en : List (Bs × Nat)
inductive Stp where
 | app (b : Bs)
 | cut (n : Nat)
 | link (s : Bs) (i : Nat)
 | ren (f t : Bs) (i : Nat)
 | unl (s : Bs)
abbrev lt (a b : Bs) : Bool := Op.bytesLess a b
def enWithout (l : List (Bs × Nat)) (s : Bs) : List (Bs × Nat) := l.filter fun e => !(e.1 == s)
def enIns : List (Bs × Nat) → Bs × Nat → List (Bs × Nat)
 | [], e => [e]
 | x :: r, e => if lt x.1 e.1 then x :: enIns r e else e :: x :: r
def enWith (l : List (Bs × Nat)) (s : Bs) (i : Nat) : List (Bs × Nat) := enIns (enWithout l s) (s, i)
def enGet (l : List (Bs × Nat)) (s : Bs) : Option Nat := (l.find? fun e => e.1 == s).map (·.2)
def Stp.parts : Stp → Nat
 | .app b => b.length
 | _ => 1
def Stp.run (c : Ct) (k : Nat) : Stp → Ct
 | .app b => { c with b := c.b ++ b.take k }
 | .cut n => { c with b := c.b.take n }
 | .link s i => { c with en := enWith c.en s i }
 | .ren f t i => { c with en := enWith (enWithout c.en f) t i }
 | .unl s => { c with en := enWithout c.en s }
structure Nd where
 dir : Bool
 safe : Ct
 loose : List Stp
def Nd.parts (n : Nd) : Nat := (n.loose.map Stp.parts).sum
def runs : Ct → List Stp → Nat → Ct
 | c, [], _ => c
 | c, s :: r, k => if k = 0 then c else runs (s.run c (min k s.parts)) r (k - s.parts)
def Nd.seen (n : Nd) : Ct := n.loose.foldl (fun c s => s.run c s.parts) n.safe
def Nd.sync (n : Nd) : Nd := { n with safe := n.seen, loose := [] }
def Nd.add (n : Nd) (s : Stp) : Nd := { n with loose := n.loose ++ [s] }
def Nd.crash (n : Nd) (k : Nat) : Nd := { n with safe := runs n.safe n.loose k, loose := [] }
theorem Nd.seen_add (n : Nd) (s : Stp) : (n.add s).seen = s.run n.seen s.parts := by simp [Nd.add, Nd.seen]
structure Told where
 is : Bool
 after : Int
structure Dk where
 nodes : List Nd
 cap : Int
 ops : Int
 changes : Int
 down : Bool
 done : Bool
 fail : Told
 full : Told
def w64 (n : Int) : Int := IntKind.i64.wrap n
def Told.hit (t : Told) : Bool := t.is && !decide (0 < t.after)
def Told.next (t : Told) : Told := if t.is then if 0 < t.after then { t with after := w64 (t.after - 1) } else { t with is := false } else t
def Dk.node? (k : Dk) (i : Int) : Option Nd := if 1 ≤ i then k.nodes[(i - 1).toNat]? else none
def Dk.anyE (k : Dk) (i : Int) : Int := if k.down then 12 else match k.node? i with
 | some _ => 0
 | none => 8
def Dk.ofE (k : Dk) (i : Int) (dir : Bool) : Int := if k.down then 12 else match k.node? i with
 | some n => if n.dir = dir then 0 else 10
 | none => 8
def Dk.set (k : Dk) (i : Int) (n : Nd) : Dk := { k with nodes := k.nodes.set (i - 1).toNat n }
def Dk.tick (k : Dk) (change : Bool) : Dk := { k with ops := w64 (k.ops + 1), changes := if change then w64 (k.changes + 1) else k.changes, fail := k.fail.next, down := k.down || k.fail.hit }
def Dk.does (k : Dk) : Bool := !k.fail.hit || k.done
def Dk.opE (k : Dk) : Int := if k.fail.hit then 12 else 0
def Dk.op (k : Dk) (change : Bool) (i : Int) (f : Nd → Nd) : Dk := match k.node? i with
 | some n => if k.does then (k.tick change).set i (f n) else k.tick change
 | none => k
def nameOk (s : Bs) : Bool := !s.isEmpty && decide (s.length ≤ 64) && !s.contains 0 && !s.contains 47
def Dk.findE (k : Dk) (dir : Int) (s : Bs) : Int × Int := if k.ofE dir true ≠ 0 then (0, k.ofE dir true) else match k.node? dir with
 | some n => match enGet n.seen.en s with
  | some i => (i, 0)
  | none => (0, 8)
 | none => (0, 8)
open Go Go.RowKit
def GH.set (gh : GH) (id : Nat) (o : GObj) : GH := { gh with get := fun j => if j = id then some o else gh.get j }
def GH.del (gh : GH) (id : Nat) : GH := { gh with get := fun j => if j = id then none else gh.get j }
def GH.new (gh : GH) (o : GObj) : GH := { next := gh.next + 1, get := fun j => if j = gh.next then some o else gh.get j }
@[simp] theorem GH.set_get (gh : GH) (id : Nat) (o : GObj) (j : Nat) : (gh.set id o).get j = if j = id then some o else gh.get j := rfl
@[simp] theorem GH.del_get (gh : GH) (id : Nat) (j : Nat) : (gh.del id).get j = if j = id then none else gh.get j := rfl
@[simp] theorem GH.new_get (gh : GH) (o : GObj) (j : Nat) : (gh.new o).get j = if j = gh.next then some o else gh.get j := rfl
@[simp] theorem GH.set_next (gh : GH) (id : Nat) (o : GObj) : (gh.set id o).next = gh.next := rfl
@[simp] theorem GH.del_next (gh : GH) (id : Nat) : (gh.del id).next = gh.next := rfl
@[simp] theorem GH.new_next (gh : GH) (o : GObj) : (gh.new o).next = gh.next + 1 := rfl
theorem GOp.of_run {P : Program} {o : Oper} {xs : List V} {gh : GH} {R : V → GH → Prop}
  (h : ∀ (ok : Oks) (w : World) (a : Act), GlOk ok gh w → (∀ b o, ok b o → b < w.heap.size) → OpsRep ok w a o.op xs → ∃ v w' ok' r gh', ((execOp a.eval o).run P w = .ok (.value v) w' ∨ ((execOp a.eval o).run P w = .ok .skip w' ∧ v = undef)) ∧ R r gh' ∧ Frame (occG ok gh) w w' ∧
   Same ok ok' w w' ∧ (∀ b o, ok' b o → b < w'.heap.size ∧ (ok b o ∨ occG ok gh b ∨ w.heap.size ≤ b)) ∧ GlOk ok' gh' w' ∧ (∀ b, occG ok' gh' b → occG ok gh b ∨ w.heap.size ≤ b) ∧ Rep ok' w' r v) : GOp P o xs gh R := by
 intro G E ok S a w pub c hh hx Q
 obtain ⟨v, w', ok', r, gh', hrun, hR, fr, hs, hn, gl, hg, hr⟩ := h ok w a (c.obj _ _ hh).2 c.okb hx
 have fin : ∃ v' ok'' r' gh'', a.put o.dst v = a.put o.dst v' ∧ R r' gh'' ∧ Conc G E ok'' (S.setOb hk (.heap gh'' pub)) a w' ∧ Rep ok'' w' r' v' := ⟨v, ok', r, gh', rfl, hR, c.swap hh fr hs hn gl hg, hr⟩
 rcases hrun with hrun | ⟨hrun, rfl⟩
 ·exact wp_value hrun fin
 ·exact wp_skip' hrun fin
theorem GlOk.upd {ok : Oks} {gh : GH} {w w' : World} {id b : Nat} {o o' : GObj} (gl : GlOk ok gh w) (hid : gh.get id = some o) (hf : ¬ o.isF) (ha : ¬ o.isA) (hb : ok.blk id = some b) (hw : ∀ k, k ≠ b → w'.heap[k]? = w.heap[k]?) (hsz : w'.heap.size = w.heap.size) (hf' : ¬ o'.isF) (ho : GRep ok w' id o') : GlOk ok (gh.set id o') w' where
 next := gl.next
 obj j p q := by
  simp only [GH.set_get] at q
  split at q
  ·rename_i e; subst e; cases q; exact ⟨(gl.obj _ _ hid).1, ho⟩
  ·rename_i e
   refine ⟨(gl.obj j p q).1, (gl.obj j p q).2.stay ⟨fun _ _ h => h, fun k o h => ?_, .refl _⟩ (gl.obj j p q).1 (by omega) fun f2 bb hbb => ⟨hw bb fun e2 => ?_, fun _ h => h⟩⟩
   ·have hk : k ≠ b := fun e2 => by subst e2; exact (gl.obj _ _ hid).2.not_ok hf ha hb o h
    simp only [World.cell?, hw k hk]
   ·subst e2; exact gl.apart j id p o bb q hid e f2 hf hbb hb
 apart i j p q bb h1 h2 hne f1 f2 hb1 hb2 := by
  simp only [GH.set_get] at h1 h2
  split at h1 <;> split at h2
  ·rename_i e1 e2; exact hne (e1.trans e2.symm)
  ·rename_i e1 e2; subst e1; exact gl.apart _ j o q bb hid h2 hne hf f2 hb1 hb2
  ·rename_i e1 e2; subst e2; exact gl.apart i _ p o bb h1 hid hne f1 hf hb1 hb2
  ·exact gl.apart i j p q bb h1 h2 hne f1 f2 hb1 hb2
theorem occG_set {ok : Oks} {gh : GH} {id : Nat} {o o' : GObj} (hid : gh.get id = some o) (hf : ¬ o.isF) {b : Nat} (h : occG ok (gh.set id o') b) : occG ok gh b := by
 obtain ⟨j, p, h1, h2, h3⟩ := h
 simp only [GH.set_get] at h1
 split at h1
 ·rename_i e; subst e; exact ⟨_, o, hid, hf, h3⟩
 ·exact ⟨j, p, h1, h2, h3⟩
def Oks.bind (ok : Oks) (b : Option Nat) (cap : Nat) : Oks := { ok with next := ok.next + 1, blk := fun j => if j = ok.next then b else ok.blk j, cap := fun j => if j = ok.next then cap else ok.cap j }
theorem Oks.bind_ext (ok : Oks) (b : Option Nat) (cap : Nat) : Ext ok (ok.bind b cap) :=
 ⟨Nat.le_succ _, fun id h => by simp [Oks.bind, Nat.ne_of_lt h], fun id h => by simp [Oks.bind, Nat.ne_of_lt h]⟩
theorem Oks.bind_blk (ok : Oks) (b : Option Nat) (cap : Nat) : (ok.bind b cap).blk ok.next = b := by simp [Oks.bind]
theorem Oks.bind_cap (ok : Oks) (b : Option Nat) (cap : Nat) : (ok.bind b cap).cap ok.next = cap := by simp [Oks.bind]
theorem GlOk.new {ok : Oks} {gh : GH} {w w' : World} {b : Option Nat} {cap : Nat} {o : GObj} (gl : GlOk ok gh w) (hokb : ∀ b o, ok b o → b < w.heap.size) (hw : ∀ k, k < w.heap.size → w'.heap[k]? = w.heap[k]?) (hsz : w.heap.size ≤ w'.heap.size) (hb : ∀ bb, b = some bb → w.heap.size ≤ bb) (ho : GRep (ok.bind b cap) w' ok.next o) : GlOk (ok.bind b cap) (gh.new o) w' where
 next := congrArg (· + 1) gl.next
 obj j p q := by
  simp only [GH.new_get] at q
  split at q
  ·rename_i e; subst e; cases q; rw [gl.next]; exact ⟨Nat.lt_succ_self _, ho⟩
  ·have hs : Same ok (ok.bind b cap) w w' := ⟨fun _ _ h => h, fun k o h => by simp only [World.cell?, hw k (hokb _ _ h)], Oks.bind_ext _ _ _⟩
   exact ⟨Nat.lt_succ_of_lt (gl.obj j p q).1, (gl.obj j p q).2.stay hs (gl.obj j p q).1 hsz fun f2 bb hbb => ⟨hw bb (gobj_lt (gl.obj j p q).2 hbb), fun _ h => h⟩⟩
 apart i j p q bb h1 h2 hne f1 f2 hb1 hb2 := by
  have old : ∀ k r, gh.get k = some r → (ok.bind b cap).blk k = some bb → ok.blk k = some bb ∧ bb < w.heap.size := fun k r hk hkb => by
   rw [(Oks.bind_ext ok b cap).blk k (gl.obj k r hk).1] at hkb
   exact ⟨hkb, gobj_lt (gl.obj k r hk).2 hkb⟩
  simp only [GH.new_get, gl.next] at h1 h2
  split at h1 <;> split at h2
  ·rename_i e1 e2; exact hne (e1.trans e2.symm)
  ·rename_i e1 e2
   subst e1
   rw [Oks.bind_blk] at hb1
   have := hb _ hb1
   have := (old j q h2 hb2).2
   omega
  ·rename_i e1 e2
   subst e2
   rw [Oks.bind_blk] at hb2
   have := hb _ hb2
   have := (old i p h1 hb1).2
   omega
  ·exact gl.apart i j p q bb h1 h2 hne f1 f2 (old i p h1 hb1).1 (old j q h2 hb2).1
theorem occG_new {ok : Oks} {gh : GH} {w : World} {b : Option Nat} {cap : Nat} {o : GObj} (gl : GlOk ok gh w) (hb : ∀ bb, b = some bb → w.heap.size ≤ bb) {k : Nat} (h : occG (ok.bind b cap) (gh.new o) k) : occG ok gh k ∨ w.heap.size ≤ k := by
 obtain ⟨j, p, h1, h2, h3⟩ := h
 simp only [GH.new_get, gl.next] at h1
 split at h1
 ·rename_i e; subst e; rw [Oks.bind_blk] at h3; exact .inr (hb _ h3)
 ·rw [(Oks.bind_ext ok b cap).blk j (gl.obj j p h1).1] at h3
  exact .inl ⟨j, p, h1, h2, h3⟩
theorem GlOk.del {ok : Oks} {gh : GH} {w : World} (gl : GlOk ok gh w) (id : Nat) : GlOk ok (gh.del id) w where
 next := gl.next
 obj j p q := by
  simp only [GH.del_get] at q
  split at q
  ·cases q
  ·exact gl.obj j p q
 apart i j p q bb h1 h2 := by
  simp only [GH.del_get] at h1 h2
  split at h1 <;> split at h2 <;> first | (cases h1; done) | (cases h2; done) | skip
  exact gl.apart i j p q bb h1 h2
theorem occG_del {ok : Oks} {gh : GH} {id b : Nat} (h : occG ok (gh.del id) b) : occG ok gh b := by
 obtain ⟨j, p, h1, h2, h3⟩ := h
 simp only [GH.del_get] at h1
 split at h1
 ·cases h1
 ·exact ⟨j, p, h1, h2, h3⟩
def V.okc : V → Bool
 | .tup _ => false
 | _ => true
theorem repV_cells {ok : Oks} {w : World} {x : V} {u : Value} (h : Rep ok w x u) (hc : x.okc = true) : u.cells.toList.length = x.flat.length ∧ (∀ c ∈ u.cells.toList, c.oneCell' = true) ∧ (∀ j (hj : j < x.flat.length), (x.flat[j]'hj).cell = true) ∧ ∀ j (hj : j < x.flat.length) (hj' : j < u.cells.toList.length), Rep ok w (x.flat[j]'hj) (u.cells.toList[j]'hj') := by
 by_cases hx : x.cell = true
 ·obtain ⟨h1, h2⟩ := h.oneCell hx
  have hf := cell_flat hx
  rw [h1]
  refine ⟨by simp [hf], by simpa using h2, fun j hj => ?_, fun j hj hj' => ?_⟩
  ·have : j = 0 := by rw [hf] at hj; simpa using hj
   subst this; simpa [hf] using hx
  ·have : j = 0 := by rw [hf] at hj; simpa using hj
   subst this; simpa [hf] using h
 ·cases x <;> simp [V.cell, V.okc] at hx hc
  rename_i l
  obtain ⟨cs, rfl, h1, h2, h3⟩ := rep_agg h
  refine ⟨by simpa [Value.cells, V.flat] using h1, fun c hc => ?_, h2, fun j hj hj' => by
   have hj2 : j < cs.length := by simpa [Value.cells] using hj'
   have e : (Value.agg cs.toArray).cells.toList[j]'hj' = cs[j]'hj2 := by simp [Value.cells]
   rw [e]; exact h3 j hj hj2⟩
  simp [Value.cells] at hc
  obtain ⟨j, hj, rfl⟩ := List.getElem_of_mem hc
  exact ((h3 j (by omega) hj).oneCell (h2 j (by omega))).2
theorem OpsRep.get {ok : Oks} {w : World} {a : Act} {op : Op} {xs : List V} (h : OpsRep ok w a op xs) (i : Nat) {x : V} {y : Operand} (hx : xs[i]? = some x) (hy : op.operands.toList[i]? = some y) : Rep ok w x (a.eval y) := by
 obtain ⟨q1, q2⟩ := List.getElem?_eq_some_iff.1 hx
 obtain ⟨q3, q4⟩ := List.getElem?_eq_some_iff.1 hy
 have := h.2 i q3 q1
 rwa [q2, q4] at this
section
variable {P : Program} (hT : tableOf P = T)
include hT
theorem gq_load {t : TypeId} {x : Operand} {gh : GH} {id off : Nat} {l : List V} {v : V} (hkn : known (tyOf t).k = true) (hag : isAggT (tyOf t).k = false) (hg : gh.get id = some (.box l)) (hv : l[off]? = some v) : GQ P (.load t x) [.gp id off] gh v := by
 intro ok w a o ho gl hokb hx
 obtain ⟨b, hn, hb, he⟩ := rep_gp (hx.get 0 rfl (by simp [Op.operands]; rfl))
 obtain ⟨b', e, cs, h1, h2, h3, h4, h5⟩ := (gl.obj _ _ hg).2
 rw [hb] at h1; cases h1
 obtain ⟨hlt, rfl⟩ := List.getElem?_eq_some_iff.1 hv
 obtain ⟨u, q1, q2, q3⟩ := h5 off hlt
 refine ⟨u, ?_, q3⟩
 rw [exec_load ho, he]
 have := run_load_cell hT (t := t) (w := w) (b := b) (off := off) (u := u) hag hkn (by rw [cell_of_heap h2]; exact q1)
 simp only [Sem.run_bind, this, Result.andThen_ok, Sem.run_pure]
theorem gq_loadA {t : TypeId} {x : Operand} {gh : GH} {id off : Nat} {l : List V} (hag : isAggT (tyOf t).k = true) (hg : gh.get id = some (.box l)) (hle : off + (tyOf t).size ≤ l.length) : GQ P (.load t x) [.gp id off] gh (.agg ((l.drop off).take (tyOf t).size)) := by
 intro ok w a o ho gl hokb hx
 obtain ⟨b, hn, hb, he⟩ := rep_gp (hx.get 0 rfl (by simp [Op.operands]; rfl))
 obtain ⟨b', e, cs, h1, h2, h3, h4, h5⟩ := (gl.obj _ _ hg).2
 rw [hb] at h1; cases h1
 refine ⟨.agg ((List.range (tyOf t).size).map fun j => cs.getD (off + j) undef).toArray, ?_, .agg _ _ (by simp; omega) (fun j hj => ?_) (fun j hj hj' => ?_)⟩
 ·rw [exec_load ho, he]
  have := run_load_agg hT (t := t) (w := w) (b := b) (off := off) (us := (List.range (tyOf t).size).map fun j => cs.getD (off + j) undef) hag (by simp) (fun j hj => by
   simp at hj
   rw [cell_of_heap h2]
   simp [show off + j < cs.size from by omega])
  simp only [Sem.run_bind, this, Result.andThen_ok, Sem.run_pure]
 ·simp only [List.getElem_take, List.getElem_drop]
  obtain ⟨u, q1, q2, q3⟩ := h5 (off + j) (by simp at hj; omega)
  exact rep_cell q3 q2
 ·simp only [List.getElem_take, List.getElem_drop, List.getElem_map, List.getElem_range]
  obtain ⟨u, q1, q2, q3⟩ := h5 (off + j) (by simp at hj; omega)
  have : cs.getD (off + j) undef = u := by rw [Array.getD_eq_getD_getElem?, q1]; rfl
  rw [this]; exact q3
theorem grow_elem {ok : Oks} {w : World} {gh : GH} (gl : GlOk ok gh w) {id z : Nat} {l : List V} {b : Nat} (hg : gh.get id = some (.row z l) ∨ gh.get id = some (.frow z l) ∨ gh.get id = some (.arow z l)) (hb : ok.blk id = some b) : RowAt ok w b 0 z l := by
 rcases hg with hg | hg | hg
 ·rcases (gl.obj _ _ hg).2 with ⟨_, h1⟩ | ⟨b', cs, e, h1, _, _, _, _, h6, _⟩
  ·rw [hb] at h1; cases h1
  ·rw [hb] at h1; cases h1; exact h6
 ·rcases (gl.obj _ _ hg).2 with ⟨_, h1⟩ | ⟨b', h1, _, _, _, h6, _⟩
  ·rw [hb] at h1; cases h1
  ·rw [hb] at h1; cases h1; exact h6
 ·rcases (gl.obj _ _ hg).2 with ⟨_, h1⟩ | ⟨b', cs, e, h1, _, _, _, _, h6, _⟩
  ·rw [hb] at h1; cases h1
  ·rw [hb] at h1; cases h1; exact h6
theorem gq_loadR {t : TypeId} {x : Operand} {gh : GH} {id z off : Nat} {i : Int} {l : List V} {y v : V} (hkn : known (tyOf t).k = true) (hag : isAggT (tyOf t).k = false) (hg : gh.get id = some (.row z l) ∨ gh.get id = some (.frow z l) ∨ gh.get id = some (.arow z l)) (hy : l[i.toNat]? = some y) (hv : y.flat[off]? = some v) : GQ P (.load t x) [.ge id z i off] gh v := by
 intro ok w a o ho gl hokb hx
 obtain ⟨b, hn, hb, hi, he⟩ := rep_ge (hx.get 0 rfl (by simp [Op.operands]; rfl))
 have hrow := grow_elem hT gl hg hb
 obtain ⟨q1, q2, q3⟩ := hrow.elem hi hy
 obtain ⟨hlt, rfl⟩ := List.getElem?_eq_some_iff.1 hv
 obtain ⟨u, hu, hr⟩ := q3 off hlt
 rw [Nat.zero_add] at hu
 refine ⟨u, ?_, hr⟩
 rw [exec_load ho, he]
 have := run_load_cell hT (t := t) hag hkn hu
 simp only [Sem.run_bind, this, Result.andThen_ok, Sem.run_pure]
theorem gq_loadRA {t : TypeId} {x : Operand} {gh : GH} {id z off : Nat} {i : Int} {l : List V} {y : V} (hag : isAggT (tyOf t).k = true) (hg : gh.get id = some (.row z l) ∨ gh.get id = some (.frow z l) ∨ gh.get id = some (.arow z l)) (hy : l[i.toNat]? = some y) (hle : off + (tyOf t).size ≤ y.flat.length) : GQ P (.load t x) [.ge id z i off] gh (.agg ((y.flat.drop off).take (tyOf t).size)) := by
 intro ok w a o ho gl hokb hx
 obtain ⟨b, hn, hb, hi, he⟩ := rep_ge (hx.get 0 rfl (by simp [Op.operands]; rfl))
 have hrow := grow_elem hT gl hg hb
 obtain ⟨q1, q2, q3⟩ := hrow.elem hi hy
 refine ⟨.agg ((List.range (tyOf t).size).map fun j => (w.cell? ⟨b, i.toNat * z + off + j, none⟩).getD undef).toArray, ?_, .agg _ _ (by simp; omega) (fun j hj => ?_) (fun j hj hj' => ?_)⟩
 ·rw [exec_load ho, he]
  have := run_load_agg hT (t := t) (w := w) (b := b) (off := i.toNat * z + off) (us := (List.range (tyOf t).size).map fun j => (w.cell? ⟨b, i.toNat * z + off + j, none⟩).getD undef) hag (by simp) (fun j hj => by
   simp at hj
   obtain ⟨u, hu, _⟩ := q3 (off + j) (by omega)
   rw [Nat.zero_add, ← Nat.add_assoc] at hu
   simp [hu])
  simp only [Sem.run_bind, this, Result.andThen_ok, Sem.run_pure]
 ·simp only [List.getElem_take, List.getElem_drop]
  exact q2 _ (by simp at hj; omega)
 ·simp only [List.getElem_take, List.getElem_drop, List.getElem_map, List.getElem_range]
  obtain ⟨u, hu, hr⟩ := q3 (off + j) (by simp at hj; omega)
  rw [Nat.zero_add, ← Nat.add_assoc] at hu
  rw [hu]; exact hr
theorem gq_index {t e : TypeId} {x i : Operand} {gh : GH} {id : Nat} {n m : Int} {k : IntKind} (ht : (tyOf t).k = .slice e) (hkn : known (tyOf e).k = true) (h0 : 0 ≤ m) (h1 : m < n) : GQ P (.indexAddr t x i) [.gs id n, .int k m] gh (.ge id (tyOf e).size m 0) := by
 intro ok w a o ho gl hokb hx
 have hi := rep_int (hx.get 1 rfl (by simp [Op.operands]; rfl))
 obtain ⟨hn, hs⟩ := rep_gs (hx.get 0 rfl (by simp [Op.operands]; rfl))
 rcases hs with ⟨rfl, _, _⟩ | ⟨b, hb, q0, qc, qm, he⟩
 ·omega
 refine ⟨.pointer (some ⟨b, m.toNat * (tyOf e).size + 0, none⟩), ?_, .ge _ _ _ _ b hn hb h0⟩
 have run : ∀ N C : Nat, m < N → (Instr.indexAt t (.slice (some ⟨b, 0, none⟩) N C) (.int k m)).run P w = .ok (.pointer (some ⟨b, 0 + m.toNat * (tyOf e).size, none⟩)) w := by
  intro N C hlt
  simp [Instr.indexAt, asIntOf, run_underlying (ty_slice hT ht), ty_size hT (known_ne' hkn), h0, hlt, add_plain]
 simp only [execOp, ho, he, hi, Sem.run_bind, run _ _ (show m < (n.toNat : Int) by omega), Result.andThen_ok, Sem.run_pure]
 rw [Nat.zero_add, Nat.add_zero]
theorem gq_len {c : Call} {t e : TypeId} {x : Operand} {gh : GH} {id : Nat} {n : Int} (hc : c.callee = .builtin .len) (ha : c.args = #[x]) (hat : c.argTypes = #[t]) (ht : (tyOf t).k = .slice e) : GQ P (.call c) [.gs id n] gh (.int .i64 n) := by
 intro ok w a o ho gl hokb hx
 obtain ⟨hn, hs⟩ := rep_gs (hx.get 0 rfl (by simp [Op.operands, Call.operands, hc, ha]; rfl))
 have h0 : 0 ≤ n := by rcases hs with ⟨rfl, _⟩ | ⟨_, _, h, _⟩ <;> omega
 refine ⟨.int .i64 n, ?_, .int _ _⟩
 have e2 : ∃ ad cap, a.eval x = .slice ad n.toNat cap := by
  rcases hs with ⟨rfl, _, he⟩ | ⟨b, _, _, _, _, he⟩
  ·exact ⟨_, _, he⟩
  ·exact ⟨_, _, he⟩
 obtain ⟨ad, cap, he⟩ := e2
 have hnn : ((n.toNat : Nat) : Int) = n := Int.toNat_of_nonneg h0
 simp only [execOp, ho, resolve, hc, Sem.run_bind, Sem.run_pure, Result.andThen_ok, invoke, builtin, hat, ha]
 simp [he, Builtin.len_, run_underlying (ty_slice hT ht), goInt, hnn]
end
open Go Go.RowKit
def One (r : V) (gh' : GH) : V → GH → Prop := fun r' h' => r' = r ∧ h' = gh'
theorem frame_set {ok : Oks} {gh : GH} {w w' : World} {id b : Nat} {o : GObj} (hid : gh.get id = some o) (hf : ¬ o.isF) (hb : ok.blk id = some b) (g4 : ∀ k, k ≠ b → w'.heap[k]? = w.heap[k]?) (g5 : w'.os = w.os) (g6 : w'.tape = w.tape) (g7 : w'.output = w.output) (g8 : w'.heap.size = w.heap.size) : Frame (occG ok gh) w w' :=
 ⟨g5, g6, g7, by omega, fun k _ hk => g4 k fun e => by subst e; exact hk ⟨id, o, hid, hf, hb⟩⟩
theorem frame_alloc (M : Nat → Prop) (w : World) (o : Obj) : Frame M w (w.alloc o) :=
 ⟨rfl, rfl, rfl, by simp, fun b hb _ => heap_alloc_old w o hb⟩
section
variable {P : Program} (hT : tableOf P = T)
include hT
theorem gop_store {o : Oper} {t : TypeId} {x y : Operand} (ho : o.op = .store t x y) {gh : GH} {id off : Nat} {l : List V} {v : V} (hkn : known (tyOf t).k = true) (hc : v.okc = true) (hsz : v.flat.length = (tyOf t).size) (hg : gh.get id = some (.box l)) (hle : off + v.flat.length ≤ l.length) :
  GOp P o [.gp id off, v] gh (One (.tup []) (gh.set id (.box (l.take off ++ v.flat ++ l.drop (off + v.flat.length))))) := by
 refine GOp.of_run fun ok w a gl hokb hx => ?_
 rw [ho] at hx
 obtain ⟨b, hn, hb, he⟩ := rep_gp (hx.get 0 rfl (by simp [Op.operands]; rfl))
 have hy := hx.get 1 rfl (y := y) (by simp [Op.operands])
 obtain ⟨c1, c2, c3, c4⟩ := repV_cells hy hc
 obtain ⟨b', e, cs, h1, h2, h3, h4, h5⟩ := (gl.obj _ _ hg).2
 rw [hb] at h1; cases h1
 have c1' : (a.eval y).cells.size = v.flat.length := by simpa using c1
 obtain ⟨cs', g1, g2, g3, g4, g5, g6, g7, g8⟩ := setCells_row (a.eval y).cells.toList off w cs h2 (by simp; omega)
 have hrun := run_store_at hT (t := t) (b := b) (off := off) (w := w) (v := a.eval y) hkn (by omega) h2 (by omega) c2
 have hs : Same ok ok w (w.setCells b off (a.eval y).cells.toList) := ⟨fun _ _ h => h, fun k o h => by
  have hk : k ≠ b := fun q => by subst q; exact h4 _ h
  simp only [World.cell?, g4 k hk], .refl _⟩
 refine ⟨undef, w.setCells b off (a.eval y).cells.toList, ok, _, _, .inr ⟨?_, rfl⟩, ⟨rfl, rfl⟩, frame_set hg (fun h => h) hb g4 g5 g6 g7 g8, hs, fun k o h => ⟨by rw [g8]; exact hokb _ _ h, .inl h⟩,
  gl.upd hg (fun h => h) (fun h => h) hb g4 g8 (fun h => h) ⟨b, e, cs', hb, g1, by simp; omega, h4, fun j hj => ?_⟩, fun k h => .inl (occG_set hg (fun h => h) h), Rep.tup (ok := ok) [] [] rfl (by simp)⟩
 ·simp only [execOp, ho, he, Sem.run_bind, hrun, Result.andThen_ok, Sem.run_pure]
 ·have hlay := lay_get l v.flat off v.flat.length rfl (by omega) j
  rw [g3]
  by_cases hin : off ≤ j ∧ j < off + v.flat.length
  ·rw [if_pos (by simp; omega)]
   rw [if_pos hin] at hlay
   have hj1 : j - off < v.flat.length := by omega
   have hj2 : j - off < (a.eval y).cells.toList.length := by omega
   rw [List.getElem?_eq_getElem hj, List.getElem?_eq_getElem hj1] at hlay
   simp only [Option.some.injEq] at hlay
   rw [hlay]
   exact ⟨_, List.getElem?_eq_getElem hj2, c2 _ (List.getElem_mem hj2), (c4 (j - off) hj1 hj2).mono hs⟩
  ·rw [if_neg (by simp; omega)]
   rw [if_neg hin] at hlay
   have hj1 : j < l.length := by simp at hj; omega
   rw [List.getElem?_eq_getElem hj, List.getElem?_eq_getElem hj1] at hlay
   simp only [Option.some.injEq] at hlay
   rw [hlay]
   obtain ⟨u, k1, k2, k3⟩ := h5 j hj1
   exact ⟨u, k1, k2, k3.mono hs⟩
theorem gop_storeR {o : Oper} {t : TypeId} {x y : Operand} (ho : o.op = .store t x y) {gh : GH} {id z off : Nat} {i : Int} {l : List V} {v el el' : V} (hkn : known (tyOf t).k = true) (hc : v.okc = true) (hsz : v.flat.length = (tyOf t).size) (hg : gh.get id = some (.row z l)) (hi : l[i.toNat]? = some el)
  (hle : off + v.flat.length ≤ el.flat.length) (hel : el'.flat = el.flat.take off ++ v.flat ++ el.flat.drop (off + v.flat.length)) :
  GOp P o [.ge id z i off, v] gh (One (.tup []) (gh.set id (.row z (l.set i.toNat el')))) := by
 refine GOp.of_run fun ok w a gl hokb hx => ?_
 rw [ho] at hx
 obtain ⟨b, hn, hb, hi0, he⟩ := rep_ge (hx.get 0 rfl (by simp [Op.operands]; rfl))
 have hy := hx.get 1 rfl (y := y) (by simp [Op.operands])
 obtain ⟨c1, c2, c3, c4⟩ := repV_cells hy hc
 obtain ⟨hlt, hli⟩ := List.getElem?_eq_some_iff.1 hi
 rcases (gl.obj _ _ hg).2 with ⟨_, h1⟩ | ⟨b', cs, e, h1, h2, h3, h4, h5, h6, h7⟩
 ·rw [hb] at h1; cases h1
 rw [hb] at h1; cases h1
 have c1' : (a.eval y).cells.size = v.flat.length := by simpa using c1
 have hz := h6.hz _ hlt
 rw [hli] at hz
 have hmul : i.toNat * z + z ≤ ok.cap id * z := by rw [← Nat.succ_mul]; exact Nat.mul_le_mul_right _ (by omega)
 obtain ⟨cs', g1, g2, g3, g4, g5, g6, g7, g8⟩ := setCells_row (a.eval y).cells.toList (i.toNat * z + off) w cs h2 (by simp; omega)
 have hrun := run_store_at hT (t := t) (b := b) (off := i.toNat * z + off) (w := w) (v := a.eval y) hkn (by omega) h2 (by omega) c2
 have hs : Same ok ok w (w.setCells b (i.toNat * z + off) (a.eval y).cells.toList) := ⟨fun _ _ h => h, fun k o h => by
  have hk : k ≠ b := fun q => by subst q; exact h7 _ h
  simp only [World.cell?, g4 k hk], .refl _⟩
 have hlay := fun j => lay_get el.flat v.flat off v.flat.length rfl (by omega) j
 rw [← hel] at hlay
 have hel2 : el'.flat.length = z := by rw [hel]; simp; omega
 have hcells : ∀ j (hj : j < el'.flat.length), (off ≤ j ∧ j < off + v.flat.length ∧ ∃ hj1 : j - off < v.flat.length, el'.flat[j]'hj = v.flat[j - off]'hj1) ∨ (¬ (off ≤ j ∧ j < off + v.flat.length) ∧ ∃ hj1 : j < el.flat.length, el'.flat[j]'hj = el.flat[j]'hj1) := by
  intro j hj
  have h := hlay j
  rw [List.getElem?_eq_getElem hj] at h
  by_cases hin : off ≤ j ∧ j < off + v.flat.length
  ·rw [if_pos hin, List.getElem?_eq_getElem (show j - off < v.flat.length by omega)] at h
   simp only [Option.some.injEq] at h
   exact .inl ⟨hin.1, hin.2, by omega, h⟩
  ·have hj1 : j < el.flat.length := by omega
   rw [if_neg hin, List.getElem?_eq_getElem hj1] at h
   simp only [Option.some.injEq] at h
   exact .inr ⟨hin, hj1, h⟩
 have hrow : RowAt ok (w.setCells b (i.toNat * z + off) (a.eval y).cells.toList) b 0 z (l.set i.toNat el') := by
  refine h6.set hs hlt hel2 (fun j hj => ?_) (fun k hk => ?_) (fun j hj => ?_)
  ·rcases hcells j hj with ⟨_, _, hj1, q⟩ | ⟨_, hj1, q⟩
   ·rw [q]; exact c3 _ _
   ·rw [q]
    have := h6.hcell _ hlt j (by rw [hli]; exact hj1)
    simpa [hli] using this
  ·rw [cell_of_heap g1, cell_of_heap h2, g3, if_neg (by simp; omega)]
  ·rw [cell_of_heap g1, g3]
   rcases hcells j hj with ⟨q1, q2, hj1, q⟩ | ⟨q1, hj1, q⟩
   ·have hj2 : j - off < (a.eval y).cells.toList.length := by omega
    rw [if_pos (by simp; omega), show i.toNat * z + j - (i.toNat * z + off) = j - off from by omega, q]
    exact ⟨_, List.getElem?_eq_getElem hj2, (c4 (j - off) hj1 hj2).mono hs⟩
   ·obtain ⟨u, k1, k2⟩ := h6.hr _ hlt j (by rw [hli]; exact hj1)
    rw [if_neg (by simp; omega), q]
    rw [cell_of_heap h2, Nat.zero_add] at k1
    have k3 : Rep ok w (el.flat[j]'hj1) u := by simpa [hli] using k2
    exact ⟨u, k1, k3.mono hs⟩
 refine ⟨undef, w.setCells b (i.toNat * z + off) (a.eval y).cells.toList, ok, _, _, .inr ⟨?_, rfl⟩, ⟨rfl, rfl⟩, frame_set hg (fun h => h) hb g4 g5 g6 g7 g8, hs, fun k o h => ⟨by rw [g8]; exact hokb _ _ h, .inl h⟩,
  gl.upd hg (fun h => h) (fun h => h) hb g4 g8 (fun h => h) (.inr ⟨b, cs', e, hb, g1, by omega, by simpa using h4, h5, hrow, h7⟩), fun k h => .inl (occG_set hg (fun h => h) h), Rep.tup (ok := ok) [] [] rfl (by simp)⟩
 simp only [execOp, ho, he, Sem.run_bind, hrun, Result.andThen_ok, Sem.run_pure]
theorem gop_alloc {o : Oper} {t : TypeId} (ho : o.op = .alloc t) {gh : GH} {l : List V} (hkn : known (tyOf t).k = true) (hz : toVas [] (tyOf t).zero = some l) : GOp P o [] gh (One (.gp gh.next 0) (gh.new (.box l))) := by
 refine GOp.of_run fun ok w a gl hokb hx => ?_
 obtain ⟨z, hrun, hzero, hone, hsz⟩ := exec_alloc hT hkn w
 rw [hzero] at hz
 have hv := toVas_sound (E := ⟨fun _ => none, fun _ => none, fun _ => 0, fun _ => 0⟩) (ok := ok) (w := w) (ob := []) (by simp [look]) _ l z.cells.toList hz (by simp) (fun i h h' => by simp only [List.getElem_map]; exact constD1_rep _ _ _ _)
 have hlen : l.length = z.cells.size := by simpa using hv.1
 have hs : Same ok (ok.bind (some w.heap.size) 0) w (w.alloc (.cells z.cells t)) := ⟨fun _ _ h => h, fun k o h => by simp only [World.cell?, heap_alloc_old w _ (hokb _ _ h)], Oks.bind_ext _ _ _⟩
 refine ⟨.pointer (some ⟨w.heap.size, 0, none⟩), w.alloc (.cells z.cells t), ok.bind (some w.heap.size) 0, _, _, .inl ?_, ⟨rfl, rfl⟩, frame_alloc _ _ _, hs, fun k o h => ⟨by have := hokb _ _ (h : ok k o); simp; omega, .inl h⟩,
  gl.new hokb (fun k hk => heap_alloc_old w _ hk) (by simp) (fun bb h => by cases h; exact Nat.le_refl _) ⟨w.heap.size, t, z.cells, Oks.bind_blk _ _ _, heap_alloc_new w _, hlen.symm, fun o h => by have := hokb _ _ (h : ok w.heap.size o); omega, fun j hj => ?_⟩,
  fun k h => occG_new gl (fun bb h => by cases h; exact Nat.le_refl _) h, .gp _ _ _ (by rw [gl.next]; exact Nat.lt_succ_self _) (by rw [gl.next]; exact Oks.bind_blk _ _ _)⟩
 ·simp only [execOp, ho, Sem.run_bind, hrun, Result.andThen_ok, Sem.run_pure]
 ·have hj' : j < z.cells.toList.length := by simp; omega
  refine ⟨z.cells[j]'(by omega), Array.getElem?_eq_getElem _, hone _ (by simp), ?_⟩
  have := hv.2 j hj hj'
  simp at this
  exact this.mono hs
theorem gop_box {o : Oper} {t : TypeId} {x : Operand} (ho : o.op = .box t x) {gh : GH} {v : V} (hc : v.okc = true) : GOp P o [v] gh (One (.gp gh.next 0) (gh.new (.box v.flat))) := by
 refine GOp.of_run fun ok w a gl hokb hx => ?_
 rw [ho] at hx
 have hy := hx.get 0 rfl (y := x) (by simp [Op.operands])
 obtain ⟨c1, c2, c3, c4⟩ := repV_cells hy hc
 have hs : Same ok (ok.bind (some w.heap.size) 0) w (w.alloc (.cells (a.eval x).cells t)) := ⟨fun _ _ h => h, fun k o h => by simp only [World.cell?, heap_alloc_old w _ (hokb _ _ h)], Oks.bind_ext _ _ _⟩
 refine ⟨.pointer (some ⟨w.heap.size, 0, none⟩), w.alloc (.cells (a.eval x).cells t), ok.bind (some w.heap.size) 0, _, _, .inl ?_, ⟨rfl, rfl⟩, frame_alloc _ _ _, hs, fun k o h => ⟨by have := hokb _ _ (h : ok k o); simp; omega, .inl h⟩,
  gl.new hokb (fun k hk => heap_alloc_old w _ hk) (by simp) (fun bb h => by cases h; exact Nat.le_refl _) ⟨w.heap.size, t, (a.eval x).cells, Oks.bind_blk _ _ _, heap_alloc_new w _, by simpa using c1, fun o h => by have := hokb _ _ (h : ok w.heap.size o); omega, fun j hj => ?_⟩,
  fun k h => occG_new gl (fun bb h => by cases h; exact Nat.le_refl _) h, .gp _ _ _ (by rw [gl.next]; exact Nat.lt_succ_self _) (by rw [gl.next]; exact Oks.bind_blk _ _ _)⟩
 ·simp [execOp, ho, Instr.box, newVar, newRow, newObj, Sem.run]
 ·have hj' : j < (a.eval x).cells.toList.length := by omega
  refine ⟨(a.eval x).cells[j]'(by simpa using hj'), Array.getElem?_eq_getElem _, c2 _ (by simp), ?_⟩
  have := c4 j hj hj'
  simp at this
  exact this.mono hs
end
end Go.Proofs.YthioccbgjkbmdaaGreat.AM
