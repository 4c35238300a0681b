/-
  THE LAW RecordTurned HOLDS: for every input the law's function returns true, and the input reads as it read before. No condition.
-/
import Derived.Test.YtinckcpmkocakaaM28bfbd81b7
import Derived.Test.YtinckcpmkocakaaRows
set_option linter.unusedVariables false
set_option linter.unusedSimpArgs false
namespace Go.Proofs.Ytinckcpmkocakaa.AM
open Go Go.RowKit Go.ChangeShapes Go.WideShapes Go.ChangeAt
set_option maxRecDepth 100000

theorem progOwn : ownKnob Try.prog.godebug = none := by kernel_rfl
theorem progLaid : laidOutB Try.prog = true := by kernel_rfl
theorem argsRead : ([63, 35, 5] : List Nat).all (fun t => Try.prog.readableRec t && Nat.blt t Try.prog.types.size) = true := by kernel_rfl
theorem recordTurned_lifted (os : Os) (started : os.Started) (H : Type) (enc : TypeId × Value → H) :
    ReturnsInHanded {} Try.checked os 15 .any (Rows.recordTurnedSpec.pre6 enc Try.prog Try.f15 Rows.recordTurnedRow.domain false) (Rows.recordTurnedSpec.post enc Try.prog Try.f15 false true false false) := by
  refine returnsInHanded_of_change_sized (C := Try.checked) progOwn started (by kernel_rfl) Try.func15
    (ChangeSpec.witness6 (enc := enc) (C := Try.checked) false ⟨#[], #[.slice none 0 0, .int .u16 0, .int .u8 0], []⟩ 8 (by kernel_rfl) (by kernel_rfl) (by kernel_rfl) (by kernel_rfl)) ?_
  intro W base args ds gs before hval hW hcnd hwt _
  refine calls_row T_ok (ts := [63, 35, 5]) (tb := 4) (k := 8) (by rw [Try.params15]) (by kernel_rfl) Try.underlying4 (by decide) (fun t ht => ?_) progLaid rfl (fun ds hds => ?_) (fun xs hx hty => ?_) hval hW hwt
  · have e := List.all_eq_true.1 argsRead t (by simpa using ht)
    rw [Bool.and_eq_true] at e
    exact ⟨e.1, Nat.le_of_ble_eq_true e.2⟩
  · match ds, hds with
    | [d0, d1, d2], _ => rfl
  · match xs, hx, hty with
    | [x0, x1, x2], _, hty =>
      obtain ⟨r0, rfl, g0, h0⟩ := tv_recs (k := 4) (hty 0 (by simp) (by simp))
      obtain ⟨n1, rfl, h1⟩ := tv_u16 (k := 7) rfl (hty 1 (by simp) (by simp))
      obtain ⟨n2, rfl, h2⟩ := tv_u8 (k := 7) rfl (hty 2 (by simp) (by simp))
      obtain ⟨rs, q1, rfl⟩ := c15 r0 _ _ _ n1 n2 rfl rfl h1 rfl h2 h0
      exact .of_R q1

/-- **RecordTurned.** -/
theorem recordTurned_holds : Rows.RecordTurnedSaid :=
  OpenClaim.holds_of_wide 15 Try.f15 rfl rfl rfl rfl rfl rfl rfl ⟨rfl, rfl, rfl, rfl, rfl⟩ rfl rfl rfl rfl rfl (by kernel_rfl) Try.func15 (by kernel_rfl)
    (of_decide_eq_true (by kernel_rfl)) (by unfold Func.isWrapper; rw [if_neg (by decide +kernel)]; exact ⟨rfl, rfl⟩)
    (fun os started H enc _ => recordTurned_lifted os started H enc)
end Go.Proofs.Ytinckcpmkocakaa.AM
