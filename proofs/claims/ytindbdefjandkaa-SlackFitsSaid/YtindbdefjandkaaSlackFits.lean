/- Whether an order fits: the statement. -/
import Derived.Test.YtindbdefjandkaaSlackFitsVc
import Derived.Test.YtindbdefjandkaaSlackRuns
set_option linter.unusedVariables false
set_option linter.unusedSimpArgs false
namespace Go.Eng
open Go Go.Proofs
theorem slackFits_ok : slackFits_vc := by
  unfold slackFits_vc
  simp only [bad_false, int0, nilOf, decide_eq_true_eq, decide_eq_false_iff_not, Bool.not_eq_true', Bool.not_eq_false', Bool.not_true, Bool.not_false, Bool.false_eq_true, Bool.true_eq_false, eq_self, true_and, and_true, false_or, or_false, false_implies, true_implies, implies_true, Int.not_lt, Int.not_le, gt_iff_lt, ge_iff_le, ne_eq]
  intro w hw d ss hss a o hg
  have hx := hg.is.1.2
  simp only [AV.szd, SK.enc, List.forall_mem_cons] at hx
  have z1 : w.orders.length * 80 ≤ 140737488351232 := hx.2.2.2.1
  have z2 : ss.length * 16 ≤ 140737488351232 := hg.is.2.2.1.2
  refine ⟨fun h => ?_, fun h => ?_⟩
  · have hm : ∀ (x : MapD), none = some x → MapOk x := mapOkO_none
    exact ⟨by decide, by decide, ⟨hm, z1, z2⟩, by decide, by decide, ⟨hm, z1, z2⟩, fun q => by simp at q⟩
  · have hm := mapOkO_some h
    exact ⟨by decide, by decide, ⟨hm, z1, z2⟩, by decide, by decide, ⟨hm, z1, z2⟩, fun q => by simp at q⟩
theorem slackFits_t : Told Try.prog 6 slackFits_con := slackFits_told (csOk_cons maps_t (csOk_cons sfits_t (csOk_cons rSfits_t (csOk_cons slackRuns_t csOk_nil)))) slackFits_ok
end Go.Eng
