/-
  Contracts: the laws RecordPuts, RecordGets, RecordFrames.
-/
import Derived.Test.YtinckcpmkocakaaM28b9e026b6
import Derived.Test.YtinckcpmkocakaaM217e681462
import Derived.Test.YtinckcpmkocakaaRows
import Derived.Deep.CondSized
set_option linter.unusedVariables false
set_option linter.unusedSimpArgs false
namespace Go.Proofs.Ytinckcpmkocakaa.AM
open Go Go.RowKit
set_option maxRecDepth 100000
set_option maxHeartbeats 4000000

theorem cCopy12 (a : RecM) (l : List V) (ha : l = strsV a.path) (hl : a.path.length ≤ 1000000) : CallR Try.prog 25 [.agg [.int .u8 a.k, .slice l, .int .i64 a.sz, .int .u32 a.sm, .int .i64 a.mi, .int .i64 a.mo, .int .u32 a.si, .int .u32 a.so]] fun rs => rs = [.v (.agg [.int .u8 a.k, .slice l, .int .i64 a.sz, .int .u32 a.sm, .int .i64 a.mi, .int .i64 a.mo, .int .u32 a.si, .int .u32 a.so])] := by
  refine .of _ rfl ?_
  obtain ⟨k, p, sz, sm, mi, mo, si, so⟩ := a
  dsimp only at *
  refine FnR.of' T_ok M_ok (fn := Try.f25) (by kernel_rfl) rfl rfl rfl rfl (Nat.le_of_ble_eq_true rfl) fun A hA => ?_
  cbv
  refine sizedI hA (strsV_flat ha) ?_
  cbv
  refine roomI hA (by rw [ha, strsV_len]; simp; omega) ?_
  cbv
  refine retI hA ?_
  refine ⟨?_, trivial⟩
  have : A.app [] l = l := by rw [hA]; rfl
  change some (V.agg [.int .u8 k, .slice (A.app [] l), .int .i64 sz, .int .u32 sm, .int .i64 mi, .int .i64 mo, .int .u32 si, .int .u32 so]) = _
  rw [this]
theorem lenGt40 {A : Prim} {P : Program} {R : List (Nat × AObj) → List D → Prop} (hA : A = std P R) {l : List V} {p : List (List UInt8)} (hl : l = strsV p) (h : A.ilt 40 (A.lenL l) = false) : p.length ≤ 40 := by
  have := lenGtF hA hl h; simpa using this
theorem seqT {A : Prim} {P : Program} {R : List (Nat × AObj) → List D → Prop} (hA : A = std P R) {s t a b : List UInt8} (hs : s = a) (ht : t = b) (h : a = b) : A.seq s t = true := by subst hs ht h hA; simp [std]
theorem sameM_self (a : RecM) : sameM a a = true := (sameM_iff a a).2 rfl
theorem c9 (a : RecM) (l : List V) (ha : l = strsV a.path) (hr : RecOk a) : CallR Try.prog 9 [.agg [.int .u8 a.k, .slice l, .int .i64 a.sz, .int .u32 a.sm, .int .i64 a.mi, .int .i64 a.mo, .int .u32 a.si, .int .u32 a.so]] fun rs => rs = [.v (.bool true)] := by
  refine .of _ rfl ?_
  obtain ⟨a0, hae⟩ : ∃ a0, a0 = a := ⟨_, rfl⟩
  obtain ⟨k, p, sz, sm, mi, mo, si, so⟩ := a
  have hpl : p.length ≤ 140737488355328 := hr.pl
  dsimp only at ha
  refine FnR.of' T_ok M_ok (fn := Try.f9) (by kernel_rfl) rfl rfl rfl rfl (Nat.le_of_ble_eq_true rfl) fun A hA => ?_
  cbv
  refine condI hA (fun h1 => ?_) (fun h1 => ?_)
  · cbv
    refine callI hA (cAwake) ?_
    intro rs_ h_
    subst h_
    cbv
    refine retI hA ?_
    simp only [retOk, rsOk, retIds, idsD, idsDs, softOb, toV, toVs, List.append_nil, List.nil_append, Option.some.injEq, V.int.injEq, V.bool.injEq, V.slice.injEq, V.agg.injEq, V.str.injEq, true_and, and_true, hA, std]
  · have h40 := lenGt40 hA ha h1
    cbv
    refine callI hA (cCopy12 ⟨k, p, sz, sm, mi, mo, si, so⟩ l ha (by dsimp only; omega)) ?_
    intro rs_ h_
    subst h_
    cbv
    refine callI hA (cPut ⟨k, p, sz, sm, mi, mo, si, so⟩ l ha hr) ?_
    intro rs_ h_
    obtain ⟨b1, e1, q_1, hb1, he1⟩ := h_
    subst q_1
    cbv
    refine callI hA (cPut12 ⟨k, p, sz, sm, mi, mo, si, so⟩ l ha hr) ?_
    intro rs_ h_
    obtain ⟨b2, e2, q_1, hb2, he2⟩ := h_
    subst q_1
    cbv
    refine chkI hA (by kernel_rfl) ?_
    cbv
    refine b2sN hA hb1 ?_
    rintro s1 hs1
    cbv
    refine b2sN hA hb2 ?_
    rintro s2 hs2
    cbv
    refine condT hA (seqT hA hs1 hs2 rfl) ?_
    cbv
    refine condT hA (ieqT hA (he1.trans he2.symm)) ?_
    cbv
    refine callI hA (cCheck ⟨k, p, sz, sm, mi, mo, si, so⟩ l ha hpl) ?_
    intro rs_ h_
    obtain ⟨e3, q_1, he3⟩ := h_
    subst q_1
    cbv
    refine callI hA (cCheck12 ⟨k, p, sz, sm, mi, mo, si, so⟩ l ha) ?_
    intro rs_ h_
    obtain ⟨e4, q_1, he4⟩ := h_
    subst q_1
    cbv
    refine condT hA (ieqT hA (he3.trans he4.symm)) ?_
    cbv
    refine callI hA (cSame12 ⟨k, p, sz, sm, mi, mo, si, so⟩ ⟨k, p, sz, sm, mi, mo, si, so⟩ l l ha ha hpl) ?_
    intro rs_ h_
    obtain ⟨c1, q_1, hc1⟩ := h_
    subst q_1
    cbv
    refine condT hA (hc1.trans (sameM_self _)) ?_
    cbv
    refine callI hA (cAwake) ?_
    intro rs_ h_
    subst h_
    cbv
    refine retI hA ?_
    simp only [retOk, rsOk, retIds, idsD, idsDs, softOb, toV, toVs, List.append_nil, List.nil_append, Option.some.injEq, V.int.injEq, V.bool.injEq, V.slice.injEq, V.agg.injEq, V.str.injEq, true_and, and_true, hA, std]
theorem c11 (v : Int) (s : Nat) (b : List UInt8) (l : List V) (hv : v = s) (hs : s < 4294967296) (hl : l = bytesV b) : CallR Try.prog 11 [.int .u32 v, .slice l] fun rs => rs = [.v (.bool true)] := by
  refine .of _ rfl ?_
  refine FnR.of' T_ok M_ok (fn := Try.f11) (by kernel_rfl) rfl rfl rfl rfl (Nat.le_of_ble_eq_true rfl) fun A hA => ?_
  cbv
  refine callI hA (cFrame v s b l hv hs hl) ?_
  intro rs_ h_
  obtain ⟨f1, e1, q_1, hf1, he1⟩ := h_
  subst q_1
  cbv
  refine callI hA (cFrame12 v s b l hv hs hl) ?_
  intro rs_ h_
  obtain ⟨f2, e2, q_1, hf2, he2⟩ := h_
  subst q_1
  cbv
  refine b2sN hA hf1 ?_
  rintro s1 hs1
  cbv
  refine b2sN hA hf2 ?_
  rintro s2 hs2
  cbv
  refine condT hA (seqT hA hs1 hs2 rfl) ?_
  cbv
  refine condT hA (ieqT hA (he1.trans he2.symm)) ?_
  cbv
  refine callI hA (cAwake) ?_
  intro rs_ h_
  subst h_
  cbv
  refine retI hA ?_
  simp only [retOk, rsOk, retIds, idsD, idsDs, softOb, toV, toVs, List.append_nil, List.nil_append, Option.some.injEq, V.int.injEq, V.bool.injEq, V.slice.injEq, V.agg.injEq, V.str.injEq, true_and, and_true, hA, std]
theorem getR_path (b : List UInt8) : (getR b).path.length ≤ b.length := by
  unfold getR
  split
  · have p1 := unpackL_len ((unpackL b).getD 1 [])
    have p2 := getD_small b 1
    simp only [recOf]; omega
  · simp [zeroR]
theorem c10 (b : List UInt8) (l : List V) (hl : l = bytesV b) (hb : b.length ≤ 4000000000) : CallR Try.prog 10 [.slice l] fun rs => rs = [.v (.bool true)] := by
  refine .of _ rfl ?_
  refine FnR.of' T_ok M_ok (fn := Try.f10) (by kernel_rfl) rfl rfl rfl rfl (Nat.le_of_ble_eq_true rfl) fun A hA => ?_
  cbv
  refine sizedI hA (bytesV_flat hl) ?_
  cbv
  refine roomI hA (by rw [hl, bytesV_len]; simp; omega) ?_
  cbv
  have hin : A.app [] l = bytesV b := by rw [hA, ← hl]; rfl
  refine callI hA (cGet b _ hin hb) ?_
  intro rs_ h_
  obtain ⟨g1, l1, e1, q_1, hg1, hl1, he1⟩ := h_
  subst q_1
  cbv
  refine callI hA (cGet12 b l hl hb) ?_
  intro rs_ h_
  obtain ⟨g2, l2, e2, q_1, hg2, hl2, he2⟩ := h_
  subst q_1
  cbv
  refine callI hA (cSame12 g1 g2 l1 l2 hl1 hl2 (by rw [hg1]; have := getR_path b; omega)) ?_
  intro rs_ h_
  obtain ⟨c1, q_1, hc1⟩ := h_
  subst q_1
  cbv
  refine condT hA (hc1.trans (by rw [hg1, hg2]; exact sameM_self _)) ?_
  cbv
  refine condT hA (ieqT hA (he1.trans he2.symm)) ?_
  cbv
  refine b2sN hA hin ?_
  rintro s1 hs1
  cbv
  refine b2sN hA hl ?_
  rintro s2 hs2
  cbv
  refine condT hA (seqT hA hs1 hs2 rfl) ?_
  cbv
  refine callI hA (cAwake) ?_
  intro rs_ h_
  subst h_
  cbv
  refine retI hA ?_
  simp only [retOk, rsOk, retIds, idsD, idsDs, softOb, toV, toVs, List.append_nil, List.nil_append, Option.some.injEq, V.int.injEq, V.bool.injEq, V.slice.injEq, V.agg.injEq, V.str.injEq, true_and, and_true, hA, std]
end Go.Proofs.Ytinckcpmkocakaa.AM

/-
  What the bound of a statement of the second form gives.
-/
set_option linter.unusedVariables false
set_option linter.unusedSimpArgs false
namespace Go.Proofs.Ytinckcpmkocakaa.AM
open Go Go.RowKit
set_option maxRecDepth 100000
set_option maxHeartbeats 4000000

section
variable {H : Type} {P : Program} {C : Nat}
/-- What a sizing tells is at most so many times the bulk. -/
def okT (P : Program) (C t : Nat) : Bool := Nat.ble (2 * P.bytesOf t + 1) C && match P.underlying t with
  | some (.pointer e) => Nat.blt e P.types.size
  | some (.slice e) => Nat.blt e P.types.size
  | some (.array _ e) => Nat.blt e P.types.size
  | some (.map k e) => Nat.blt k P.types.size && Nat.blt e P.types.size
  | some (.struct fs) => fs.toList.all fun f => Nat.blt f.type P.types.size
  | _ => true
structure WB (P : Program) (C : Nat) : Prop where
  one : 1 ≤ C
  all : ∀ t, t < P.types.size → okT P C t = true
theorem WB.le {P : Program} {C t : Nat} (h : WB P C) (ht : t < P.types.size) : 2 * P.bytesOf t + 1 ≤ C := by
  have := h.all t ht
  unfold okT at this
  rw [Bool.and_eq_true] at this
  exact Nat.le_of_ble_eq_true this.1
theorem bltU {a b : Nat} (h : Nat.blt a b = true) : a < b := Nat.le_of_ble_eq_true h
theorem WB.ptr {P : Program} {C t e : Nat} (h : WB P C) (ht : t < P.types.size) (hu : P.underlying t = some (.pointer e)) : e < P.types.size := by
  have := h.all t ht
  unfold okT at this
  rw [Bool.and_eq_true, hu] at this
  exact bltU this.2
theorem WB.sl {P : Program} {C t e : Nat} (h : WB P C) (ht : t < P.types.size) (hu : P.underlying t = some (.slice e)) : e < P.types.size := by
  have := h.all t ht
  unfold okT at this
  rw [Bool.and_eq_true, hu] at this
  exact bltU this.2
theorem WB.ar {P : Program} {C t e n : Nat} (h : WB P C) (ht : t < P.types.size) (hu : P.underlying t = some (.array n e)) : e < P.types.size := by
  have := h.all t ht
  unfold okT at this
  rw [Bool.and_eq_true, hu] at this
  exact bltU this.2
theorem WB.mp {P : Program} {C t e k : Nat} (h : WB P C) (ht : t < P.types.size) (hu : P.underlying t = some (.map k e)) : k < P.types.size ∧ e < P.types.size := by
  have := h.all t ht
  unfold okT at this
  rw [Bool.and_eq_true, hu] at this
  exact ⟨bltU (Bool.and_eq_true _ _ ▸ this.2).1, bltU (Bool.and_eq_true _ _ ▸ this.2).2⟩
theorem WB.st {P : Program} {C t : Nat} {fs : Array Field} (h : WB P C) (ht : t < P.types.size) (hu : P.underlying t = some (.struct fs)) : ∀ e ∈ fs.toList.map (·.type), e < P.types.size := by
  have := h.all t ht
  unfold okT at this
  rw [Bool.and_eq_true, hu] at this
  intro e he
  obtain ⟨f, hf, rfl⟩ := List.mem_map.1 he
  exact bltU (List.all_eq_true.1 this.2 f hf)
mutual
theorem wb (hC : WB P C) : ∀ (t : Nat) (d : DataW H), t < P.types.size → ∀ n ∈ d.weights P t, n ≤ Rows.uptoBulk d * C
  | t, .lit l, ht, n, hn => by
    have := hC.one
    cases l <;> simp [DataW.weights] at hn
    subst hn
    simp only [Rows.uptoBulk]
    exact Nat.le_trans (Nat.le_succ _) (Nat.le_mul_of_pos_right _ (by omega))
  | t, .nil, ht, n, hn => by simp [DataW.weights] at hn
  | t, .ptr d, ht, n, hn => by
    unfold DataW.weights at hn
    split at hn
    · rename_i e hu
      exact Nat.le_trans (wb hC _ d (hC.ptr ht hu) n hn) (Nat.mul_le_mul_right _ (by simp [Rows.uptoBulk]))
    · cases hn
  | t, .slice elems spare, ht, n, hn => by
    unfold DataW.weights at hn
    split at hn
    · rename_i e hu
      have he := hC.sl ht hu
      have h1 := hC.le he
      simp only [Rows.uptoBulk]
      rcases List.mem_cons.1 hn with rfl | hn
      · have h2 := lenUB elems
        have h3 := lenUB spare
        exact Nat.mul_le_mul (by omega) (by omega)
      · rcases List.mem_append.1 hn with hn | hn
        · exact Nat.le_trans (wbAll hC e elems he n hn) (Nat.mul_le_mul_right _ (by omega))
        · exact Nat.le_trans (wbAll hC e spare he n hn) (Nat.mul_le_mul_right _ (by omega))
    · cases hn
  | t, .agg parts, ht, n, hn => by
    unfold DataW.weights at hn
    simp only [Rows.uptoBulk]
    split at hn
    · rename_i fs hu
      exact Nat.le_trans (wbEach hC _ parts (hC.st ht hu) n hn) (Nat.mul_le_mul_right _ (by omega))
    · rename_i e hu
      exact Nat.le_trans (wbAll hC _ parts (hC.ar ht hu) n hn) (Nat.mul_le_mul_right _ (by omega))
    · cases hn
  | t, .iface _ d, ht, n, hn => by simp [DataW.weights] at hn
  | t, .map entries, ht, n, hn => by
    unfold DataW.weights at hn
    split at hn
    · rename_i k e hu
      obtain ⟨hk, he⟩ := hC.mp ht hu
      have h1 := hC.le he
      have h4 := hC.le hk
      simp only [Rows.uptoBulk]
      rcases List.mem_cons.1 hn with rfl | hn
      · exact Nat.mul_le_mul (Nat.le_succ_of_le (lenUE entries)) (by omega)
      · exact Nat.le_trans (wbEntries hC e entries he n hn) (Nat.mul_le_mul_right _ (by omega))
    · cases hn
  | t, .held _, ht, n, hn => by simp [DataW.weights] at hn
theorem wbAll (hC : WB P C) : ∀ (e : Nat) (l : List (DataW H)), e < P.types.size → ∀ n ∈ DataW.weightsAll P e l, n ≤ Rows.uptoBulkAll l * C
  | e, [], ht, n, hn => by simp [DataW.weightsAll] at hn
  | e, d :: r, ht, n, hn => by
    simp only [DataW.weightsAll, List.mem_append] at hn
    simp only [Rows.uptoBulkAll]
    rcases hn with hn | hn
    · exact Nat.le_trans (wb hC e d ht n hn) (Nat.mul_le_mul_right _ (by omega))
    · exact Nat.le_trans (wbAll hC e r ht n hn) (Nat.mul_le_mul_right _ (by omega))
theorem wbEach (hC : WB P C) : ∀ (ts : List Nat) (l : List (DataW H)), (∀ t ∈ ts, t < P.types.size) → ∀ n ∈ DataW.weightsEach P ts l, n ≤ Rows.uptoBulkAll l * C
  | [], l, ht, n, hn => by simp [DataW.weightsEach] at hn
  | t :: ts, [], ht, n, hn => by simp [DataW.weightsEach] at hn
  | t :: ts, d :: r, ht, n, hn => by
    simp only [DataW.weightsEach, List.mem_append] at hn
    simp only [Rows.uptoBulkAll]
    rcases hn with hn | hn
    · exact Nat.le_trans (wb hC t d (ht t (by simp)) n hn) (Nat.mul_le_mul_right _ (by omega))
    · exact Nat.le_trans (wbEach hC ts r (fun t q => ht t (by simp [q])) n hn) (Nat.mul_le_mul_right _ (by omega))
theorem wbEntries (hC : WB P C) : ∀ (e : Nat) (l : List (Lit × DataW H)), e < P.types.size → ∀ n ∈ DataW.weightsEntries P e l, n ≤ Rows.uptoBulkEntries l * C
  | e, [], ht, n, hn => by simp [DataW.weightsEntries] at hn
  | e, x :: r, ht, n, hn => by
    simp only [DataW.weightsEntries, List.mem_append] at hn
    simp only [Rows.uptoBulkEntries]
    rcases hn with hn | hn
    · exact Nat.le_trans (wbEntry hC e x ht n hn) (Nat.mul_le_mul_right _ (by omega))
    · exact Nat.le_trans (wbEntries hC e r ht n hn) (Nat.mul_le_mul_right _ (by omega))
theorem wbEntry (hC : WB P C) : ∀ (e : Nat) (x : Lit × DataW H), e < P.types.size → ∀ n ∈ DataW.weightsEntry P e x, n ≤ Rows.uptoBulkEntry x * C
  | e, (k, d), ht, n, hn => by
    have := hC.one
    have h1 := wb hC e d ht
    have h2 : Rows.uptoBulk d * C ≤ Rows.uptoBulkEntry (k, d) * C := Nat.mul_le_mul_right _ (by cases k <;> simp [Rows.uptoBulkEntry] <;> omega)
    cases k with
    | string bytes =>
      simp only [DataW.weightsEntry, List.mem_cons] at hn
      rcases hn with rfl | hn
      · simp only [Rows.uptoBulkEntry]
        exact Nat.le_trans (by omega) (Nat.le_mul_of_pos_right (bytes.length + Rows.uptoBulk d + 1) (by omega))
      · exact Nat.le_trans (h1 n hn) h2
    | _ => exact Nat.le_trans (h1 n (by simpa [DataW.weightsEntry] using hn)) h2
theorem lenUB : ∀ (l : List (DataW H)), l.length ≤ Rows.uptoBulkAll l
  | [] => by simp
  | d :: r => by
    have h1 := lenUB r
    have h2 : 1 ≤ Rows.uptoBulk d := by
      cases d with
      | lit l => cases l <;> simp [Rows.uptoBulk]
      | _ => simp [Rows.uptoBulk]
    simp only [Rows.uptoBulkAll, List.length_cons]; omega
theorem lenUE : ∀ (l : List (Lit × DataW H)), l.length ≤ Rows.uptoBulkEntries l
  | [] => by simp
  | (k, d) :: r => by
    have h1 := lenUE r
    have h2 : 1 ≤ Rows.uptoBulkEntry (k, d) := by cases k <;> simp [Rows.uptoBulkEntry]
    simp only [Rows.uptoBulkEntries, List.length_cons]; omega
end
end
/-- So many bytes a string, or a slice's elements, have at the most, where a statement of the second form speaks. -/
theorem upto_le {H : Type} {P : Program} {C : Nat} (hC : WB P C) {ts : List Nat} {ds : List (DataW H)} (hts : ∀ t ∈ ts, t < P.types.size) (hk : Rows.uptoSmall H (ds ++ []) = true) : ∀ n ∈ DataW.weightsEach P ts ds, n ≤ 1048576 * C := by
  intro n hn
  rw [List.append_nil] at hk
  exact Nat.le_trans (wbEach hC ts ds hts n hn) (Nat.mul_le_mul_right _ (of_decide_eq_true hk))
theorem wb_of {P : Program} {C : Nat} (h : (List.range P.types.size).all (okT P C) = true) (h1 : 1 ≤ C) : WB P C :=
  ⟨h1, fun t ht => List.all_eq_true.1 h t (List.mem_range.2 ht)⟩
theorem tm_bytes {m k t u : Nat} {x : V} (e : (tyOf t).k = .slice u) (e2 : (tyOf u).k = .int .u8) (e3 : (tyOf u).bytes = 1) (h : TyM m (k + 2) t x) : ∃ b, x = .slice (bytesV b) ∧ b.length ≤ m := by
  unfold TyM at h; rw [e] at h
  obtain ⟨l, rfl, h1, h2⟩ := h
  obtain ⟨b, rfl⟩ := bytes_ex l fun y hy => by
    have h3 := h2 y hy
    unfold TyM at h3; rw [e2] at h3
    obtain ⟨n, q1, q2, q3⟩ := h3
    exact ⟨n, q1, q2, q3⟩
  rw [e3, bytesV_len] at h1
  exact ⟨b, rfl, by omega⟩
end Go.Proofs.Ytinckcpmkocakaa.AM

/-
  THE LAW RecordGets HOLDS, in its second form: bytes are the record that the document says, or none. The condition: the input's bulk is at most that of the statement.
-/
set_option linter.unusedVariables false
set_option linter.unusedSimpArgs false
namespace Go.Proofs.Ytinckcpmkocakaa.AM
open Go Go.RowKit Go.ChangeShapes Go.WideShapes Go.ChangeAt
set_option maxRecDepth 100000

theorem progOwn : ownKnob Try.prog.godebug = none := by kernel_rfl
theorem progLaid : laidOutB Try.prog = true := by kernel_rfl
theorem progWB : WB Try.prog 3500 := wb_of (by kernel_rfl) (by decide)
theorem argsRead : ([22] : List Nat).all (fun t => Try.prog.readableRec t && Nat.blt t Try.prog.types.size) = true := by kernel_rfl
theorem recordGets_liftedUpto (os : Os) (started : os.Started) (H : Type) (enc : TypeId × Value → H) (F : Stop.Interp) :
    ReturnsInHanded {} Try.checked os 10 .any ((Rows.OpenSpec.upto Rows.recordGetsSpec).pre6 enc Try.prog Try.f10 Rows.recordGetsUptoRow.domain false) (((Rows.OpenSpec.upto Rows.recordGetsSpec).at F).post enc Try.prog Try.f10 false true false false) := by
  refine returnsInHanded_of_cond_sized (C := Try.checked) (s := Rows.OpenSpec.upto Rows.recordGetsSpec) (k := Rows.uptoSmall) rfl progOwn started (by kernel_rfl) Try.func10
    (OpenSpec.witness (enc := enc) (C := Try.checked) (s := Rows.OpenSpec.upto Rows.recordGetsSpec) (k := Rows.uptoSmall) rfl false ⟨#[], #[.slice none 0 0], []⟩ 8 (by kernel_rfl) (by kernel_rfl) (by kernel_rfl)
      (x := ([.nil], [], [])) (by kernel_rfl) rfl (by kernel_rfl)) ?_
  intro W base args ds gs before hval hW hcnd hk _ _
  obtain rfl : gs = [] := by
    obtain ⟨p, q, hA, hV, _⟩ := hW
    exact (trodVars_none hV).1
  refine calls_rowM T_ok (s := Rows.recordGetsSpec) (m := 1048576 * 3500) (ts := [22]) (tb := 4) (k := 8) (by rw [Try.params10]) (by kernel_rfl) Try.underlying4 (by decide) (fun t ht => ?_) progLaid rfl (fun ds hds => ?_) (fun xs hx hty => ?_) hval hW (fun n hn => upto_le (ts := [22]) progWB (fun t ht => by
    have e := List.all_eq_true.1 argsRead t (by simpa using ht)
    rw [Bool.and_eq_true] at e
    exact Nat.le_of_ble_eq_true e.2) hk n (by
    have e : n ∈ DataW.weightsEach Try.prog [22] (ds ++ []) := hn
    simpa using e))
  · have e := List.all_eq_true.1 argsRead t (by simpa using ht)
    rw [Bool.and_eq_true] at e
    exact ⟨e.1, Nat.le_of_ble_eq_true e.2⟩
  · match ds, hds with
    | [d0], _ => rfl
  · match xs, hx, hty with
    | [x0], _, hty =>
      obtain ⟨b0, rfl, h0⟩ := tm_bytes (k := 6) rfl rfl rfl (hty 0 (by simp) (by simp))
      obtain ⟨rs, q1, rfl⟩ := c10 b0 _ rfl (by omega)
      exact .of_R q1

/-- **RecordGets**, in its second form. -/
theorem recordGets_upto_holds : Rows.RecordGetsUptoSaid :=
  OpenClaim.holds_of_cond 10 Try.f10 rfl rfl rfl rfl rfl rfl rfl ⟨rfl, rfl, rfl, rfl, rfl⟩ rfl rfl rfl rfl rfl (by kernel_rfl) Try.func10 (by kernel_rfl)
    (of_decide_eq_true (by kernel_rfl)) (by unfold Func.isWrapper; rw [if_neg (by decide +kernel)]; exact ⟨rfl, rfl⟩)
    (fun os started H enc _ F => recordGets_liftedUpto os started H enc F)
end Go.Proofs.Ytinckcpmkocakaa.AM
