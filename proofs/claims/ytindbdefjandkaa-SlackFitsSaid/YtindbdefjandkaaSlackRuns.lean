/- Chapter 8's runs. -/
import Derived.Test.YtindbdefjandkaaSlackRunsVc
set_option linter.unusedVariables false
set_option linter.unusedSimpArgs false
namespace Go.Eng
open Go Go.Proofs
theorem slackRuns_ok : slackRuns_vc := by
  have hm : ∀ (x : MapD), some ⟨2, [0, 5, 7, 0]⟩ = some x → MapOk x := mapOkO_some (by decide)
  unfold slackRuns_vc
  simp only [bad_false, int0, nilOf, decide_eq_true_eq, decide_eq_false_iff_not, Bool.not_eq_true', Bool.not_eq_false', Bool.not_true, Bool.not_false, Bool.false_eq_true, Bool.true_eq_false, eq_self, true_and, and_true, false_or, or_false, false_implies, true_implies, implies_true, Int.not_lt, Int.not_le, gt_iff_lt, ge_iff_le, ne_eq, eq_true hm]
  have l1 : latR (some ⟨2, [0, 5, 7, 0]⟩) ⟨4, 3, 1, 1, 30, false⟩ [⟨1, 3, 0, 2, 9, 1, 1, 0, 20, 2⟩] [⟨1, false⟩, ⟨1, true⟩] = [9, 20] := by kernel_rfl
  have g1 : good (fauR (drive (some ⟨2, [0, 5, 7, 0]⟩) ⟨4, 3, 1, 1, 30, false⟩ [⟨1, 3, 0, 2, 9, 1, 1, 0, 20, 2⟩] [⟨1, false⟩, ⟨1, true⟩])) = true := by kernel_rfl
  have l2 : latR (some ⟨2, [0, 5, 7, 0]⟩) ⟨4, 3, 1, 1, 30, false⟩ [⟨1, 3, 0, 2, 9, 1, 1, 0, 20, 2⟩] [⟨1, false⟩] = [] := by kernel_rfl
  have g2 : good (fauR (drive (some ⟨2, [0, 5, 7, 0]⟩) ⟨4, 3, 1, 1, 30, false⟩ [⟨1, 3, 0, 2, 9, 1, 1, 0, 20, 2⟩] [⟨1, false⟩])) = false := by kernel_rfl
  have l3 : latR (some ⟨2, [0, 5, 7, 0]⟩) ⟨4, 3, 1, 1, 30, false⟩ [⟨1, 3, 0, 2, 9, 1, 1, 0, 20, 2⟩] [] = [] := by kernel_rfl
  have g3 : good (fauR (drive (some ⟨2, [0, 5, 7, 0]⟩) ⟨4, 3, 1, 1, 30, false⟩ [⟨1, 3, 0, 2, 9, 1, 1, 0, 20, 2⟩] [])) = true := by kernel_rfl
  have p1 : putS [⟨1, false⟩, ⟨1, true⟩] 7 1 1 = [⟨1, false⟩, ⟨7, false⟩, ⟨7, true⟩, ⟨1, true⟩] := by kernel_rfl
  have p2 : putS [⟨1, false⟩, ⟨1, true⟩] 7 2 1 = [] := by kernel_rfl
  have f1 : fits (some ⟨2, [0, 5, 7, 0]⟩) ⟨4, 3, 1, 1, 30, false⟩ [] [] ⟨1, 3, 0, 2, 9, 1, 1, 0, 20, 2⟩ 0 0 = true := by kernel_rfl
  have f2 : fits (some ⟨2, [0, 5, 7, 0]⟩) ⟨4, 3, 1, 1, 30, false⟩ [⟨1, 3, 0, 2, 9, 1, 1, 0, 20, 2⟩] [⟨1, false⟩, ⟨1, true⟩] ⟨2, 1, 0, 0, 100, 1, 1, 0, 100, 2⟩ 0 0 = false := by kernel_rfl
  have f3 : fits (some ⟨2, [0, 5, 7, 0]⟩) ⟨4, 3, 1, 1, 30, false⟩ [⟨1, 3, 0, 2, 9, 1, 1, 0, 20, 2⟩] [⟨1, false⟩, ⟨1, true⟩] ⟨2, 1, 0, 0, 100, 1, 1, 0, 100, 2⟩ 1 2 = false := by kernel_rfl
  have f4 : fits (some ⟨2, [0, 5, 7, 0]⟩) ⟨4, 4, 1, 1, 30, false⟩ [⟨1, 3, 0, 2, 9, 1, 1, 0, 20, 2⟩] [⟨1, false⟩, ⟨1, true⟩] ⟨2, 1, 0, 0, 100, 1, 1, 0, 100, 2⟩ 1 2 = true := by kernel_rfl
  have f5 : fits (some ⟨2, [0, 5, 7, 0]⟩) ⟨4, 4, 1, 1, 18, false⟩ [⟨1, 3, 0, 2, 9, 1, 1, 0, 20, 2⟩] [⟨1, false⟩, ⟨1, true⟩] ⟨2, 1, 0, 0, 100, 1, 1, 0, 100, 2⟩ 1 2 = false := by kernel_rfl
  simp [l1, l2, l3, g1, g2, g3, p1, p2, f1, f2, f3, f4, f5, same_self]
theorem slackRuns_t : Told Try.prog 3 yes_con := slackRuns_told (csOk_cons newC_t (csOk_cons slat_t (csOk_cons sameI_t (csOk_cons sput_t (csOk_cons sameS_t (csOk_cons sfits_t csOk_nil)))))) slackRuns_ok
end Go.Eng
