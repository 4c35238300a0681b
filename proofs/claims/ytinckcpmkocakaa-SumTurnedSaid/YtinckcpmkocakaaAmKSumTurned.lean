/-
  THE LAW SumTurned HOLDS: for every input the law's function returns true, and the input reads as it read before. No condition.
-/
import Derived.Test.YtinckcpmkocakaaAmC6
import Derived.Test.YtinckcpmkocakaaRows
set_option linter.unusedVariables false
set_option linter.unusedSimpArgs false
namespace Go.Proofs.Ytinckcpmkocakaa.AM
open Go Go.RowKit Go.ChangeShapes Go.WideShapes Go.ChangeAt
set_option maxRecDepth 100000

theorem progOwn : ownKnob Try.prog.godebug = none := by kernel_rfl
theorem progLaid : laidOutB Try.prog = true := by kernel_rfl
theorem argsRead : ([22, 35, 5] : List Nat).all (fun t => Try.prog.readableRec t && Nat.blt t Try.prog.types.size) = true := by kernel_rfl
theorem sumTurned_lifted (os : Os) (started : os.Started) (H : Type) (enc : TypeId × Value → H) :
    ReturnsInHanded {} Try.checked os 6 .any (Rows.sumTurnedSpec.pre6 enc Try.prog Try.f6 Rows.sumTurnedRow.domain false) (Rows.sumTurnedSpec.post enc Try.prog Try.f6 false true false false) := by
  refine returnsInHanded_of_change_sized (C := Try.checked) progOwn started (by kernel_rfl) Try.func6
    (ChangeSpec.witness6 (enc := enc) (C := Try.checked) false ⟨#[], #[.slice none 0 0, .int .u16 0, .int .u8 0], []⟩ 8 (by kernel_rfl) (by kernel_rfl) (by kernel_rfl) (by kernel_rfl)) ?_
  intro W base args ds gs before hval hW hcnd hwt _
  refine calls_row T_ok (ts := [22, 35, 5]) (tb := 4) (k := 8) (by rw [Try.params6]) (by kernel_rfl) Try.underlying4 (by decide) (fun t ht => ?_) progLaid rfl (fun ds hds => ?_) (fun xs hx hty => ?_) hval hW hwt
  · have e := List.all_eq_true.1 argsRead t (by simpa using ht)
    rw [Bool.and_eq_true] at e
    exact ⟨e.1, Nat.le_of_ble_eq_true e.2⟩
  · match ds, hds with
    | [d0, d1, d2], _ => rfl
  · match xs, hx, hty with
    | [x0, x1, x2], _, hty =>
      obtain ⟨b0, rfl, h0⟩ := tv_bytes (k := 6) rfl rfl rfl (hty 0 (by simp) (by simp))
      obtain ⟨n1, rfl, h1⟩ := tv_u16 (k := 7) rfl (hty 1 (by simp) (by simp))
      obtain ⟨n2, rfl, h2⟩ := tv_u8 (k := 7) rfl (hty 2 (by simp) (by simp))
      obtain ⟨rs, q1, rfl⟩ := c6 _ _ _ _ _ _ rfl h0 rfl h1 rfl h2
      exact q1

/-- **SumTurned.** -/
theorem sumTurned_holds : Rows.SumTurnedSaid :=
  OpenClaim.holds_of_wide 6 Try.f6 rfl rfl rfl rfl rfl rfl rfl ⟨rfl, rfl, rfl, rfl, rfl⟩ rfl rfl rfl rfl rfl (by kernel_rfl) Try.func6 (by kernel_rfl)
    (of_decide_eq_true (by kernel_rfl)) (by unfold Func.isWrapper; rw [if_neg (by decide +kernel)]; exact ⟨rfl, rfl⟩)
    (fun os started H enc _ => sumTurned_lifted os started H enc)
end Go.Proofs.Ytinckcpmkocakaa.AM
