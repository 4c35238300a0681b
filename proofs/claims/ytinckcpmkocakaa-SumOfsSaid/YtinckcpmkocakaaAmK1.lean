/-
  THE LAW SumOfs HOLDS: for every input the law's function returns true, and the input reads as it read before. No condition.
-/
import Derived.Test.YtinckcpmkocakaaAmC3
import Derived.Test.YtinckcpmkocakaaRows
set_option linter.unusedVariables false
set_option linter.unusedSimpArgs false
namespace Go.Proofs.Ytinckcpmkocakaa.AM
open Go Go.RowKit Go.ChangeShapes Go.WideShapes Go.ChangeAt
set_option maxRecDepth 100000

theorem progOwn : ownKnob Try.prog.godebug = none := by kernel_rfl
theorem progLaid : laidOutB Try.prog = true := by kernel_rfl
theorem bytes_ex : ∀ (l : List V), (∀ y ∈ l, ∃ n, y = .int .u8 n ∧ 0 ≤ n ∧ n ≤ 255) → ∃ b, l = bytesV b
  | [], _ => ⟨[], rfl⟩
  | y :: r, h => by
    obtain ⟨n, rfl, h0, h1⟩ := h y (by simp)
    obtain ⟨b, rfl⟩ := bytes_ex r (fun z hz => h z (List.mem_cons_of_mem _ hz))
    refine ⟨UInt8.ofNat n.toNat :: b, ?_⟩
    simp only [bytesV, List.map_cons, List.cons.injEq, V.int.injEq, true_and, and_true]
    rw [UInt8.toNat_ofNat']
    omega
theorem ty_bytes {k : Nat} {x : V} (h : TyV (k + 2) 22 x) : ∃ b, x = .slice (bytesV b) ∧ b.length ≤ 140737488355328 := by
  unfold TyV at h
  have e : (tyOf 22).k = .slice 5 := rfl
  rw [e] at h
  obtain ⟨l, rfl, h1, h2⟩ := h
  obtain ⟨b, rfl⟩ := bytes_ex l (fun y hy => by
    have := h2 y hy
    unfold TyV at this
    have e5 : (tyOf 5).k = .int .u8 := rfl
    rw [e5] at this
    obtain ⟨n, q1, q2, q3⟩ := this
    exact ⟨n, q1, q2, q3⟩)
  refine ⟨b, rfl, ?_⟩
  have e6 : (tyOf 5).bytes = 1 := rfl
  rw [e6] at h1
  simp [bytesV, reachBytes] at h1
  omega
theorem readable22 : Try.prog.readableRec 22 = true := by kernel_rfl
theorem sized22 : 22 < Try.prog.types.size := of_decide_eq_true (by kernel_rfl)

theorem sumOfs_lifted (os : Os) (started : os.Started) (H : Type) (enc : TypeId × Value → H) :
    ReturnsInHanded {} Try.checked os 3 .any (Rows.sumOfsSpec.pre6 enc Try.prog Try.f3 Rows.sumOfsRow.domain false) (Rows.sumOfsSpec.post enc Try.prog Try.f3 false true false false) := by
  refine returnsInHanded_of_change_sized (C := Try.checked) progOwn started (by kernel_rfl) Try.func3
    (ChangeSpec.witness6 (enc := enc) (C := Try.checked) false ⟨#[], #[.slice none 0 0], []⟩ 8 (by kernel_rfl) (by kernel_rfl) (by kernel_rfl) (by kernel_rfl)) ?_
  intro W base args ds gs before hval hW hcnd hwt _
  refine calls_row T_ok (ts := [22]) (tb := 4) (k := 8) (by rw [Try.params3]) (by kernel_rfl) Try.underlying4 (by decide) (fun t ht => ?_) progLaid rfl (fun ds hds => ?_) (fun xs hx hty => ?_) hval hW hwt
  · have e : t = 22 := by simpa using ht
    subst e
    exact ⟨readable22, sized22⟩
  · match ds, hds with
    | [d], _ => rfl
  · match xs, hx, hty with
    | [x], _, hty =>
      obtain ⟨b, rfl, hb⟩ := ty_bytes (k := 6) (hty 0 (by simp) (by simp))
      obtain ⟨rs, h1, rfl⟩ := c3 b _ rfl hb
      exact h1

/-- **SumOfs.** -/
theorem sumOfs_holds : Rows.SumOfsSaid :=
  OpenClaim.holds_of_wide 3 Try.f3 rfl rfl rfl rfl rfl rfl rfl ⟨rfl, rfl, rfl, rfl, rfl⟩ rfl rfl rfl rfl rfl (by kernel_rfl) Try.func3 (by kernel_rfl)
    (of_decide_eq_true (by kernel_rfl)) (by unfold Func.isWrapper; rw [if_neg (by decide +kernel)]; exact ⟨rfl, rfl⟩)
    (fun os started H enc _ => sumOfs_lifted os started H enc)
end Go.Proofs.Ytinckcpmkocakaa.AM
