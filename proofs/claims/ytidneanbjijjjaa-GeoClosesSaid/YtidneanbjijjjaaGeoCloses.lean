/- Any map closed, and whether it is even: the program's answers are the document's. -/
import Derived.Test.YtidneanbjijjjaaGeoClosesVc
import Derived.Test.YtidneanbjijjjaaGeoRuns
set_option linter.unusedVariables false
set_option linter.unusedSimpArgs false
namespace Go.Eng
open Go Go.Proofs
theorem geoCloses_ok : geoCloses_vc := by
  unfold geoCloses_vc
  simp only [bad_false, int0, nilOf, decide_eq_true_eq, decide_eq_false_iff_not, Bool.not_eq_true', Bool.not_eq_false', Bool.not_true, Bool.not_false, Bool.false_eq_true, Bool.true_eq_false, eq_self, true_and, and_true, false_or, or_false, false_implies, true_implies, implies_true, Int.not_lt, Int.not_le, gt_iff_lt, ge_iff_le, ne_eq]
  intro n ts hts hg h
  have hk := mapOk_of h
  have hm := mapOkO_some h
  have hc : ∀ (x : MapD), some ⟨n, fw n.toNat ts⟩ = some x → MapOk x := mapOkO_of (closed_ok' hk)
  have he : even (some ⟨n, fw n.toNat ts⟩) = true := closed_even hk
  simp only [eq_true hm, eq_true hk, eq_true hc]
  simp [places, times, same_self, he]
theorem geoCloses_t : Told Try.prog 13 geoCloses_con := geoCloses_told (csOk_cons both_t (csOk_cons geoRuns_t (csOk_cons closed_t (csOk_cons rClosed_t (csOk_cons alike_t (csOk_cons even_t (csOk_cons rEven_t csOk_nil))))))) geoCloses_ok
end Go.Eng
