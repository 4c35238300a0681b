/-
  The abstract machine, part 26: from a contract to a row: 'for every input true; the input reads as it did'.
-/
import Derived.Test.YtinckcpmkocakaaAmR
set_option linter.unusedVariables false
set_option linter.unusedSimpArgs false
set_option linter.unusedSectionVars false
namespace Go.Proofs.Ytinckcpmkocakaa.AM
open Go Go.RowKit Go.ChangeShapes Go.WideShapes Go.ChangeAt

section
variable {P : Program} (hT : tableOf P = T) {H : Type} {enc : TypeId × Value → H}
include hT

theorem okWide_cell {t : Nat} {w : World} {r : Reach} {b0 : Nat} {v : Value} (hk : known (tyOf t).k = true) (ha : isAggT (tyOf t).k = false) (h : Value.okWide P w r b0 t v) {k : Nat} (hg : good k t = true) : v.cells.toList = [v] := by
  cases k with
  | zero => simp [good] at hg
  | succ k =>
    unfold good at hg
    split at hg
    · rename_i hk'
      obtain ⟨b, rfl⟩ := okWide_bool (ty_bool hT hk') h; rfl
    · rename_i kd hk'
      simp only [Value.okWide, ty_int hT hk', Cell.okWide] at h
      cases v <;> simp_all [Cell.ok, Value.cells]
    · rename_i hk'
      simp only [Value.okWide, ty_str hT hk', Cell.okWide] at h
      cases v <;> simp_all [Cell.ok, Value.cells]
    · rename_i e hk'
      simp only [Value.okWide, ty_slice hT hk', Cell.okWide] at h
      cases v <;> simp_all [Cell.ok, Value.cells]
    · rename_i fs hk'
      rw [hk'] at ha; simp [isAggT] at ha
    · cases hg
theorem okWide_agg {t : Nat} {w : World} {r : Reach} {b0 : Nat} {v : Value} (ha : isAggT (tyOf t).k = true) (h : Value.okWide P w r b0 t v) {k : Nat} (hg : good k t = true) : ∃ cs, v = .agg cs := by
  cases k with
  | zero => simp [good] at hg
  | succ k =>
    unfold good at hg
    split at hg
    · rename_i hk'; rw [hk'] at ha; simp [isAggT] at ha
    · rename_i hk'; rw [hk'] at ha; simp [isAggT] at ha
    · rename_i hk'; rw [hk'] at ha; simp [isAggT] at ha
    · rename_i hk'; rw [hk'] at ha; simp [isAggT] at ha
    · rename_i fs hk'
      obtain ⟨fields, hu, _⟩ := ty_struct hT hk'
      simp only [Value.okWide, hu] at h
      obtain ⟨cs, h, _⟩ := h
      exact ⟨cs, h⟩
    · cases hg

/-- One argument. -/
theorem readArg {w : World} {r : Reach} {b0 k t : Nat} {v : Value} {d : DataW H} {ps : List MemPlace} (hg : good k t = true) (h : DataW.Trod enc P w 0 (fun _ => true) true t v d ps) (hok : Value.okWide P w r b0 t v) (hw : ∀ n ∈ d.weights P t, n ≤ reachBytes) : ∃ x, TyV k t x ∧ Rep (okW w) w x v := by
  obtain ⟨fuel, h⟩ := h
  obtain ⟨x, h1, ⟨h2, h3⟩, h4, h5, h6⟩ := read hT k t _ d ps fuel hg h hw
  refine ⟨x, h1, ?_⟩
  cases ha : isAggT (tyOf t).k with
  | false =>
    have hc := h6 ha
    have hf := cell_flat hc
    have hv := okWide_cell hT (good_known hT hg) ha hok hg
    obtain ⟨_, u, h7, h8⟩ := h3 0 (by rw [hf]; simp)
    rw [hv] at h7
    simp at h7
    subst h7
    simpa [hf] using h8
  | true =>
    obtain ⟨l, rfl⟩ := h5 ha
    obtain ⟨cs, rfl⟩ := okWide_agg hT ha hok hg
    have : (Value.agg cs) = .agg cs.toList.toArray := by simp
    rw [this]
    refine .agg l cs.toList ?_ (fun i hi => (h3 i hi).1) (fun i hi hi' => ?_)
    · exact h2.symm
    · obtain ⟨_, u, q1, q2⟩ := h3 i hi
      have q1' : cs.toList[i]? = some u := q1
      rw [List.getElem?_eq_getElem hi'] at q1'
      cases q1'
      exact q2

theorem readAll {w : World} {r : Reach} {b0 k : Nat} : ∀ (ts : List Nat) (vs : List Value) (ds : List (DataW H)) (ps : List MemPlace), (∀ t ∈ ts, good k t = true) → DataW.TrodAll enc P w 0 (fun _ => true) true ts vs ds ps → (∀ (j : Nat) t v, ts[j]? = some t → vs[j]? = some v → Value.okWide P w r b0 t v) → (∀ n ∈ DataW.weightsEach P ts ds, n ≤ reachBytes) →
    ∃ xs : List V, xs.length = ts.length ∧ vs.length = ts.length ∧ ds.length = ts.length ∧ (∀ i (h : i < xs.length) (h' : i < ts.length), TyV k (ts[i]'h') (xs[i]'h)) ∧ ∀ i (h : i < xs.length) (h' : i < vs.length), Rep (okW w) w (xs[i]'h) (vs[i]'h')
  | [], [], [], ps, hg, h, hok, hw => ⟨[], rfl, rfl, rfl, by simp, by simp⟩
  | t :: ts, v :: vs, d :: ds, ps, hg, h, hok, hw => by
    obtain ⟨p, q, h1, h2, _⟩ := h
    unfold DataW.weightsEach at hw
    obtain ⟨x, k1, k2⟩ := readArg hT (hg t (by simp)) h1 (hok 0 t v rfl rfl) (fun n hn => hw n (List.mem_append_left _ hn))
    obtain ⟨xs, q1, q2, q3, q4, q5⟩ := readAll ts vs ds q (fun t ht => hg t (List.mem_cons_of_mem _ ht)) h2 (fun j t v h h' => hok (j + 1) t v (by simpa using h) (by simpa using h')) (fun n hn => hw n (List.mem_append_right _ hn))
    refine ⟨x :: xs, by simp [q1], by simp [q2], by simp [q3], fun i hi hi' => ?_, fun i hi hi' => ?_⟩
    · cases i with
      | zero => exact k1
      | succ i => exact q4 i (by simpa using hi) (by simpa using hi')
    · cases i with
      | zero => exact k2
      | succ i => exact q5 i (by simpa using hi) (by simpa using hi')
  | [], [], _ :: _, _, _, h, _, _ => h.elim
  | [], _ :: _, _, _, _, h, _, _ => h.elim
  | _ :: _, [], _, _, _, h, _, _ => h.elim
  | _ :: _, _ :: _, [], _, _, h, _, _ => h.elim
omit hT in
theorem trodAll_stays (hl : laidOutB P = true) {W W' : World} {sp' : Nat → Bool} : ∀ (ts : List Nat) (vs : List Value) (ds : List (DataW H)) (ps : List MemPlace), (∀ t ∈ ts, P.readableRec t = true ∧ t < P.types.size) → DataW.TrodAll enc P W 0 (fun _ => true) true ts vs ds ps → (∀ p ∈ ps, W.sameAt W' p) → (∀ p ∈ ps, sp' p.block = true) → DataW.TrodAll enc P W' 0 sp' true ts vs ds ps
  | [], [], [], ps, hr, h, _, _ => h
  | t :: ts, v :: vs, d :: ds, ps, hr, h, hs, hp => by
    obtain ⟨p, q, h1, h2, rfl⟩ := h
    exact ⟨p, q, WideElems.Trod_stays hl (hr t (by simp)).1 (hr t (by simp)).2 h1 (fun x hx => hs x (List.mem_append_left _ hx)) (fun x hx => hp x (List.mem_append_left _ hx)),
      trodAll_stays hl ts vs ds q (fun t ht => hr t (List.mem_cons_of_mem _ ht)) h2 (fun x hx => hs x (List.mem_append_right _ hx)) (fun x hx => hp x (List.mem_append_right _ hx)), rfl⟩
  | [], [], _ :: _, _, _, h, _, _ => h.elim
  | [], _ :: _, _, _, _, h, _, _ => h.elim
  | _ :: _, [], _, _, _, h, _, _ => h.elim
  | _ :: _, _ :: _, [], _, _, h, _, _ => h.elim

/-- **The contract that the row's form asks for.** -/
theorem calls_row {f : Nat} {fn : Func} {ts : List Nat} {tb k : Nat} {s : ChangeSpec} (hparams : fn.params.toList = ts) (hrt : fn.resultTypes = #[tb]) (htb : P.underlying tb = some .bool) (hgood : ts.all (good k) = true) (hrec : ∀ t ∈ ts, P.readableRec t = true ∧ t < P.types.size) (hlaid : laidOutB P = true)
    (hvars : s.vars = []) (hs : ∀ ds : List (DataW H), ds.length = ts.length → s.fn H ds = { results := [.lit (.bool true)], args := ds })
    (hf : ∀ xs : List V, xs.length = ts.length → (∀ i (h : i < xs.length) (h' : i < ts.length), TyV k (ts[i]'h') (xs[i]'h)) → FnR P f xs [.v (.bool true)])
    {W : World} {r : Reach} {base : Nat} {args : Array Value} {ds gs : List (DataW H)} {before : List MemPlace}
    (hval : ∀ (j : Nat) t v, fn.params[j]? = some t → args[j]? = some v → Value.okWide P W r base t v) (hW : DataW.Whole enc P fn.params.toList s.vars false W args.toList ds gs before)
    (hwt : (DataW.weightsEach P (fn.params.toList ++ s.plain.varTypes P) (ds ++ gs)).all (· ≤ reachBytes) = true) :
    Calls P f args W fun e W' => ∃ v, e = .returned v ∧ s.post enc P fn false true false false W args v W' := by
  subst hparams
  have hW' := hW
  obtain ⟨p, q, hA, hV, rfl, hz, hn⟩ := hW
  rw [hvars] at hV
  obtain ⟨rfl, rfl⟩ := trodVars_none hV
  have hlen : ds.length = fn.params.toList.length := by
    clear hval hW' hwt hz hn hs hf hgood hrec hV
    generalize fn.params.toList = ts at *
    generalize args.toList = vs at *
    clear hrt
    induction ts generalizing vs ds p with
    | nil => cases vs <;> cases ds <;> first | rfl | exact hA.elim
    | cons t ts ih =>
      cases vs <;> cases ds <;> first | exact hA.elim | skip
      obtain ⟨p1, q1, _, h2, _⟩ := hA
      simp [ih _ _ h2]
  obtain ⟨xs, h1, h2, h3, h4, h5⟩ := readAll hT fn.params.toList args.toList ds p (fun t ht => List.all_eq_true.1 hgood t ht) hA (fun j t v h h' => hval j t v (by simpa using h) (by simpa using h')) (fun n hn => by
    have hall := List.all_eq_true.1 hwt n (by
      suffices h : ∀ (ts us : List Nat) (l : List (DataW H)), l.length = ts.length → DataW.weightsEach P (ts ++ us) (l ++ []) = DataW.weightsEach P ts l by
        rw [h _ _ _ hlen]; exact hn
      intro ts us l hl
      simp only [List.append_nil]
      induction ts generalizing l with
      | nil =>
        have : l = [] := List.eq_nil_of_length_eq_zero (by simpa using hl)
        subst this
        cases us <;> simp [DataW.weightsEach]
      | cons t ts ih =>
        cases l with
        | nil => simp at hl
        | cons d l => simp only [List.cons_append]; unfold DataW.weightsEach; rw [ih l (by simpa using hl)])
    simpa using hall)
  have hcall := (hf xs h1 h4).2 W (okW W) args.toList (fun b o h => h) (by omega) h5
  have hargs : args.toList.toArray = args := by simp
  rw [hargs] at hcall
  refine hcall.mono fun e W' ⟨us, gs', ok', he, hb, _, _, hu, hg, hr, _⟩ => ?_
  match us, gs', hu, hg, hr with
  | [u], [g], hu, hg, hr =>
    obtain ⟨_, hrep⟩ := hr 0 (by simp) (by simp) (by simp)
    have hub : u = .bool true := rep_bool hrep
    subst hub
    refine ⟨.bool true, he, ?_⟩
    have hlt := hW'.lt
    have hpost : s.fn H (ds ++ []) = { results := [.lit (.bool true)], args := ds } := by rw [List.append_nil]; exact hs ds hlen
    have hstay : ∀ sp : Nat → Bool, (∀ x ∈ p, sp x.block = true) → DataW.TrodAll enc P W' 0 sp true fn.params.toList args.toList ds p := fun sp hsp =>
      trodAll_stays hlaid _ _ _ _ hrec hA (fun x hx => hb.same (hlt x (by simpa using hx))) hsp
    have hres : ∀ (b : Nat) (sp : Nat → Bool) (hd : Bool), DataW.TrodAll enc P W' b sp hd fn.resultTypes.toList ((Value.bool true).resultList fn.resultTypes.size) [.lit (.bool true)] [] := by
      intro b sp hd
      rw [hrt]
      exact trodAll_mk1 (shut_bool htb true)
    have hok : ∀ (j : Nat) (t : TypeId) (r : Value), fn.resultTypes[j]? = some t → ((Value.bool true).resultList fn.resultTypes.size)[j]? = some r → Value.okWide P W' .any 0 t r := ok_one hrt rfl (okWide_bool_mk htb true)
    have hold : ∀ x ∈ p, (fun b => decide (b < W.heap.size)) x.block = true := fun x hx => by simpa using hlt x (by simpa using hx)
    refine ⟨ds, [], p ++ [], [], p, [], hW', by rw [hpost]; exact hres _ _ _, by rw [hpost]; exact hstay _ hold, by rw [hvars, hpost]; rfl, World.keptBut_mono (fun x hx => ⟨by simpa using hx, Or.inr (by simpa using hx)⟩) (hb.frame (· ∈ p)), fun _ => ?_⟩
    refine ⟨hok, _, [], ([] ++ p) ++ [], ⟨[] ++ p, [], trodAll_append (hstay _ (fun _ _ => rfl)) (hres _ _ _), by rw [hvars]; rfl, rfl, ?_, ?_⟩, ?_⟩
    · intro b off hp
      have hx : MemPlace.cell b off ∈ p := by simpa using hp
      rw [hb.frozen (p := ⟨b, off, none⟩) (by have := hlt _ (by simpa using hx : MemPlace.cell b off ∈ p ++ []); exact this)]
      exact hz b off (by simpa using hx)
    · intro ha; cases ha
    · intro x hx _
      simpa using hx
  | [], _, hu, _, _ => simp at hu
  | _ :: _ :: _, _, hu, _, _ => simp at hu
  | [_], [], _, hg, _ => simp at hg
  | [_], _ :: _ :: _, _, hg, _ => simp at hg
end
end Go.Proofs.Ytinckcpmkocakaa.AM
