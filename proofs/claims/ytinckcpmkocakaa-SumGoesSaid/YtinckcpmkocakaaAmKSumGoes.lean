/-
  THE LAW SumGoes HOLDS: for every input the law's function returns true, and the input reads as it read before. No condition.
-/
import Derived.Test.YtinckcpmkocakaaAmC4
import Derived.Test.YtinckcpmkocakaaRows
set_option linter.unusedVariables false
set_option linter.unusedSimpArgs false
namespace Go.Proofs.Ytinckcpmkocakaa.AM
open Go Go.RowKit Go.ChangeShapes Go.WideShapes Go.ChangeAt
set_option maxRecDepth 100000

theorem progOwn : ownKnob Try.prog.godebug = none := by kernel_rfl
theorem progLaid : laidOutB Try.prog = true := by kernel_rfl
theorem argsRead : ([23, 27] : List Nat).all (fun t => Try.prog.readableRec t && Nat.blt t Try.prog.types.size) = true := by kernel_rfl
theorem sumGoes_lifted (os : Os) (started : os.Started) (H : Type) (enc : TypeId × Value → H) :
    ReturnsInHanded {} Try.checked os 4 .any (Rows.sumGoesSpec.pre6 enc Try.prog Try.f4 Rows.sumGoesRow.domain false) (Rows.sumGoesSpec.post enc Try.prog Try.f4 false true false false) := by
  refine returnsInHanded_of_change_sized (C := Try.checked) progOwn started (by kernel_rfl) Try.func4
    (ChangeSpec.witness6 (enc := enc) (C := Try.checked) false ⟨#[], #[.int .u32 0, .slice none 0 0], []⟩ 8 (by kernel_rfl) (by kernel_rfl) (by kernel_rfl) (by kernel_rfl)) ?_
  intro W base args ds gs before hval hW hcnd hwt _
  refine calls_row T_ok (ts := [23, 27]) (tb := 4) (k := 8) (by rw [Try.params4]) (by kernel_rfl) Try.underlying4 (by decide) (fun t ht => ?_) progLaid rfl (fun ds hds => ?_) (fun xs hx hty => ?_) hval hW hwt
  · have e := List.all_eq_true.1 argsRead t (by simpa using ht)
    rw [Bool.and_eq_true] at e
    exact ⟨e.1, Nat.le_of_ble_eq_true e.2⟩
  · match ds, hds with
    | [d0, d1], _ => rfl
  · match xs, hx, hty with
    | [x0, x1], _, hty =>
      obtain ⟨n0, rfl, h0⟩ := tv_u32 (k := 7) rfl (hty 0 (by simp) (by simp))
      obtain ⟨b1, rfl, h1, g1⟩ := tv_lists (k := 5) rfl rfl rfl rfl rfl (hty 1 (by simp) (by simp))
      obtain ⟨rs, q1, rfl⟩ := c4 _ _ _ _ rfl h0 rfl h1 g1
      exact q1

/-- **SumGoes.** -/
theorem sumGoes_holds : Rows.SumGoesSaid :=
  OpenClaim.holds_of_wide 4 Try.f4 rfl rfl rfl rfl rfl rfl rfl ⟨rfl, rfl, rfl, rfl, rfl⟩ rfl rfl rfl rfl rfl (by kernel_rfl) Try.func4 (by kernel_rfl)
    (of_decide_eq_true (by kernel_rfl)) (by unfold Func.isWrapper; rw [if_neg (by decide +kernel)]; exact ⟨rfl, rfl⟩)
    (fun os started H enc _ => sumGoes_lifted os started H enc)
end Go.Proofs.Ytinckcpmkocakaa.AM
