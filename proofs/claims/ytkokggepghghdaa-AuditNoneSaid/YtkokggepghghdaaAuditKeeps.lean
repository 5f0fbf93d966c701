/- What is kept: the statement. -/
import Derived.Test.YtkokggepghghdaaAuditKeepsVc
import Derived.Test.YtkokggepghghdaaAuditRuns
set_option linter.unusedVariables false
set_option linter.unusedSimpArgs false
namespace Go.Eng
open Go Go.Proofs
theorem routed_self {last : Int} {all : List Stop} {p : List Route} (h : okR last all p) : ∀ r ∈ p, routed r.driver p = some r := by
  induction p generalizing last all with
  | nil => simp
  | cons a l ih =>
    intro r hr
    rw [routed]
    rcases List.mem_cons.1 hr with rfl | hr
    · rw [if_pos rfl]
    · have := (okR_mem h.2.2 r hr).1
      rw [if_neg (by omega)]
      exact ih h.2.2 r hr
theorem kept_self {p : List Route} : keptP p p = rightP p := by
  cases e : rightP p with
  | false => exact (kept_no fun h => right_ne e h.1).symm
  | true =>
    have hR := rightP_iff.1 e
    refine keptP_iff.2 ⟨hR, hR, fun r hr => by rw [routed_self hR.2 r hr]; rfl, fun r hr => ?_⟩
    unfold keptR; rw [routed_self hR.2 r hr]; exact ⟨rfl, rfl⟩
theorem auditKeeps_ok : auditKeeps_vc := by
  unfold auditKeeps_vc
  simp only [bad_false, int0, nilOf, decide_eq_true_eq, decide_eq_false_iff_not, Bool.not_eq_true', Bool.not_eq_false', Bool.not_true, Bool.not_false, Bool.false_eq_true, Bool.true_eq_false, eq_self, true_and, and_true, false_or, or_false, false_implies, true_implies, implies_true, Int.not_lt, Int.not_le, gt_iff_lt, ge_iff_le, ne_eq]
  intro x _ y _ _
  simp [kept_self]
theorem auditKeeps_t : Told Try.prog 5 auditKeeps_con := auditKeeps_told (csOk_cons akept_t (csOk_cons rAkept_t (csOk_cons rPright_t (csOk_cons auditRuns_t csOk_nil)))) auditKeeps_ok
end Go.Eng
