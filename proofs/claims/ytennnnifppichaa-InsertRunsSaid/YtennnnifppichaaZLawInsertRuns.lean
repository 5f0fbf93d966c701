/- InsertRuns: whatever the input: true; the input reads as it did. -/
import Derived.Test.YtennnnifppichaaZ3LawInsertRuns
import Derived.Test.YtennnnifppichaaRows
import Derived.Test.YtennnnifppichaaEOpen
import Derived.ShutString
import Derived.Below
import Derived.Carry
namespace Go.Proofs.Ytennnnifppichaa.insertRuns
open Go Go.ChangeShapes Go.WideShapes Go.ChangeAt Go.RowKit
open Go.Eng
set_option linter.unusedVariables false
theorem own : ownKnob Try.prog.godebug = none := by kernel_rfl
set_option maxRecDepth 100000 in
theorem lifted (os : Os) (started : os.Started) (H : Type) (enc : TypeId × Value → H) :
    ReturnsInHanded {} Try.checked os 5 .any (Rows.insertRunsSpec.pre6 enc Try.prog Try.f5 Rows.insertRunsRow.domain false) (Rows.insertRunsSpec.post enc Try.prog Try.f5 false true false false) := by
  refine returnsInHanded_of_change_sized (C := Try.checked) own started (by kernel_rfl) Try.func5
    (ChangeSpec.witness6 (enc := enc) (C := Try.checked) false ⟨#[], #[], []⟩ 8 (by kernel_rfl) (by kernel_rfl) (by kernel_rfl) (by kernel_rfl)) ?_
  intro W base args ds gs before hval0 hW hcnd hsz0 _
  have hW' := hW
  obtain ⟨p, q, hA0, hV, rfl, hfz, hnd⟩ := hW
  have hA : DataW.TrodAll enc Try.prog W 0 (fun _ => true) true Try.f5.params.toList args.toList ds p := hA0
  rw [Try.params5] at hA
  obtain ⟨rfl, rfl, rfl⟩ := trodAll_none hA
  obtain ⟨rfl, rfl⟩ := trodVars_none hV
  clear hA0 hval0 hsz0
  refine (law_calls (w := W) insertRuns_t (x := ()) (vs := []) trivial rfl trivial).mono fun e W' ⟨he, bel⟩ => ?_
  subst he
  exact ⟨_, rfl, _, _, _, [], _, [], hW', trodAll_mk1 (shut_bool Try.underlying4 _), trodAll_mk0, rfl, bel.frame _, fun h => by cases h⟩
theorem over : Rows.insertRunsRow.holds Try.pinned (OpenSpec.ofChange Rows.insertRunsSpec) :=
  OpenClaim.holds_of_wide 5 Try.f5 rfl rfl rfl rfl rfl rfl rfl ⟨rfl, rfl, rfl, rfl, rfl⟩ rfl rfl rfl rfl rfl (by kernel_rfl) Try.func5 (by kernel_rfl)
    (of_decide_eq_true (by kernel_rfl)) (by unfold Func.isWrapper; first | (rw [if_pos (by decide +kernel)]; kernel_rfl) | (rw [if_neg (by decide +kernel)]; exact ⟨rfl, rfl⟩))
    (fun os started H enc _ => lifted os started H enc)
theorem proved : Rows.InsertRunsSaid := over
end Go.Proofs.Ytennnnifppichaa.insertRuns
namespace Go.Proofs.Ytennnnifppichaa
/-- The row, under a short name, for the claim. -/
theorem insertRuns_holds : Rows.InsertRunsSaid := insertRuns.proved
#print axioms insertRuns_holds
end Go.Proofs.Ytennnnifppichaa
