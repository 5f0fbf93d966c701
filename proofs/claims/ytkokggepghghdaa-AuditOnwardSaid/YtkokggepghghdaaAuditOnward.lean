/- What is kept goes on from plan to plan: the statement. -/
import Derived.Test.YtkokggepghghdaaAuditOnwardVc
import Derived.Test.YtkokggepghghdaaPlanLaw
set_option linter.unusedVariables false
set_option linter.unusedSimpArgs false
namespace Go.Eng
open Go Go.Proofs
theorem auditOnward_ok : auditOnward_vc := by
  unfold auditOnward_vc
  simp only [bad_false, int0, nilOf, decide_eq_true_eq, decide_eq_false_iff_not, Bool.not_eq_true', Bool.not_eq_false', Bool.not_true, Bool.not_false, Bool.false_eq_true, Bool.true_eq_false, eq_self, true_and, and_true, false_or, or_false, false_implies, true_implies, implies_true, Int.not_lt, Int.not_le, gt_iff_lt, ge_iff_le, ne_eq]
  intro a _ b _ c _ id s hg
  have hz : a.length * 40 ≤ 140737488351232 ∧ ∀ (r : Route), List.Mem r a → r.stops.length * 16 ≤ 140737488351232 := hg.is.1.2
  have tail : (rightP a = false → (keptP a b = false → keptP b a = true → False) ∧ (keptP a b = true → False)) ∧ (rightP a = true → ((withP a id s).isSome = true → (keptP a ((withP a id s).getD []) = true → (keptP ((withP a id s).getD []) a = false → False) ∧ (keptP ((withP a id s).getD []) a = true → (a.length * 40 ≤ 140737488351232 ∧ ∀ (r : Route), List.Mem r a → r.stops.length * 16 ≤ 140737488351232) ∧ (keptP a (withoutP a [id]) = false → False))) ∧ (keptP a ((withP a id s).getD []) = false → False)) ∧
      ((withP a id s).isSome = false → (a.length * 40 ≤ 140737488351232 ∧ ∀ (r : Route), List.Mem r a → r.stops.length * 16 ≤ 140737488351232) ∧ (keptP a (withoutP a [id]) = false → False))) := by
    refine ⟨fun h => ⟨fun _ q => right_ne h (keptP_iff.1 q).2.1, fun q => right_ne h (keptP_iff.1 q).1⟩, fun h => ?_⟩
    have hR := rightP_iff.1 h
    have hw : keptP a (withoutP a [id]) = true := keptP_iff.2 (sim_kept (without_right hR).2 hR (without_right hR).1)
    have hw' : ¬ keptP a (withoutP a [id]) = false := by rw [hw]; simp
    refine ⟨fun q => ?_, fun _ => ⟨hz, hw'⟩⟩
    obtain ⟨x, hx⟩ := Option.isSome_iff_exists.1 q
    obtain ⟨_, rx, sx⟩ := with_right hx
    rw [hx]
    dsimp only [Option.getD]
    have k1 : keptP a x = true := keptP_iff.2 (sim_kept sx hR rx)
    have k2 : keptP x a = true := keptP_iff.2 (sim_kept sx.symm rx hR)
    exact ⟨fun _ => ⟨fun z => (by rw [k2] at z; cases z), fun _ => ⟨hz, hw'⟩⟩, fun z => by rw [k1] at z; cases z⟩
  refine ⟨fun h1 => ⟨fun h2 => ⟨fun h3 => ?_, fun _ => tail⟩, fun _ => tail⟩, fun _ => tail⟩
  have := keptP_iff.2 (kept_trans (keptP_iff.1 h1) (keptP_iff.1 h2))
  rw [this] at h3; cases h3
theorem auditOnward_t : Told Try.prog 7 auditOnward_con := auditOnward_told (csOk_cons akept_t (csOk_cons pright_t (csOk_cons auditRuns_t (csOk_cons pwith_t (csOk_cons pwithout_t csOk_nil))))) auditOnward_ok
end Go.Eng
