/- Chapter 7's runs. -/
import Derived.Test.YtadblcopmoiaaaaRouteLawVc
import Derived.Test.YtadblcopmoiaaaaNewC
import Derived.KernelRfl
set_option linter.unusedVariables false
set_option linter.unusedSimpArgs false
namespace Go.Eng
open Go Go.Proofs
theorem routeRuns_ok : routeRuns_vc := by
  have hm : ∀ (x : MapD), some ⟨2, [0, 5, 7, 0]⟩ = some x → MapOk x := mapOkO_some (by decide)
  unfold routeRuns_vc
  simp only [bad_false, int0, nilOf, decide_eq_true_eq, decide_eq_false_iff_not, Bool.not_eq_true', Bool.not_eq_false', Bool.not_true, Bool.not_false, Bool.false_eq_true, Bool.true_eq_false, eq_self, true_and, and_true, false_or, or_false, false_implies, true_implies, implies_true, Int.not_lt, Int.not_le, gt_iff_lt, ge_iff_le, ne_eq, eq_true hm]
  have e1 : drive (some ⟨2, [0, 5, 7, 0]⟩) ⟨4, 3, 1, 1, 30, false⟩ [⟨1, 3, 0, 2, 9, 1, 1, 0, 20, 2⟩] [⟨1, false⟩, ⟨1, true⟩] = .ok [⟨1, false, 8, 8, 9, 3⟩, ⟨1, true, 14, 14, 16, 0⟩] := by kernel_rfl
  have e2 : drive (some ⟨2, [0, 5, 7, 0]⟩) ⟨4, 3, 1, 1, 30, false⟩ [⟨1, 3, 0, 2, 9, 1, 1, 0, 20, 2⟩] [⟨1, true⟩] = .error ⟨0, 17⟩ := by kernel_rfl
  have e3 : drive (some ⟨2, [0, 5, 7, 0]⟩) ⟨4, 3, 1, 1, 30, false⟩ [⟨1, 3, 0, 2, 9, 1, 1, 0, 20, 2⟩] [⟨1, false⟩] = .error ⟨1, 18⟩ := by kernel_rfl
  have e4 : drive (some ⟨2, [0, 5, 7, 0]⟩) ⟨4, 3, 1, 1, 30, false⟩ [⟨1, 3, 0, 2, 9, 1, 1, 0, 20, 2⟩] [⟨1, false⟩, ⟨1, false⟩] = .error ⟨1, 16⟩ := by kernel_rfl
  have e5 : drive (some ⟨2, [0, 5, 7, 0]⟩) ⟨4, 3, 1, 1, 30, false⟩ [] [⟨1, false⟩] = .error ⟨0, 8⟩ := by kernel_rfl
  have c1 : cost (some ⟨2, [0, 5, 7, 0]⟩) ⟨4, 3, 1, 1, 30, false⟩ [⟨1, 3, 0, 2, 9, 1, 1, 0, 20, 2⟩] [⟨1, false⟩, ⟨1, true⟩] = (12, true) := by kernel_rfl
  have c2 : cost (some ⟨2, [0, 5, 7, 0]⟩) ⟨4, 3, 1, 1, 30, false⟩ [⟨1, 3, 0, 2, 9, 1, 1, 0, 20, 2⟩] [] = (0, true) := by kernel_rfl
  have c3 : cost (some ⟨2, [0, 5, 7, 0]⟩) ⟨4, 3, 1, 1, 30, false⟩ [⟨1, 3, 0, 2, 9, 1, 1, 0, 20, 2⟩] [⟨1, false⟩] = (0, false) := by kernel_rfl
  simp [e1, e2, e3, e4, e5, c1, c2, c3, fauR, visR]
theorem routeRuns_t : Told Try.prog 3 yes_con := routeRuns_told (csOk_cons newC_t (csOk_cons drive_t (csOk_cons cost_t csOk_nil))) routeRuns_ok
end Go.Eng
