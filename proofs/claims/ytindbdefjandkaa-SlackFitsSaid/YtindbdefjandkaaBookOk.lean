/- Books of memory: it is so. -/
import Derived.Test.YtindbdefjandkaaBookVc
set_option linter.unusedVariables false
set_option linter.unusedSimpArgs false
namespace Go.Eng
open Go Go.Proofs
theorem elEqS (a b : Stop) : (decide (a.order = b.order) && ((a.drop == b.drop) && true)) = true ↔ a = b := by
  cases a; cases b; simp [and_assoc]
theorem sameS_ok : sameS_vc := fun x hx y _ => same_gen elEqS x hx y
theorem sameS_t : Told Try.prog 13 sameS_con := sameS_told csOk_nil sameS_ok
theorem roomyS_ok : roomyS_vc := by
  intro x hx m hb
  simp only [bad_false, int0, nilOf, decide_eq_true_eq, decide_eq_false_iff_not, Bool.not_eq_true', Bool.not_eq_false', Bool.not_true, Bool.not_false, Bool.false_eq_true, Bool.true_eq_false, eq_self, true_and, and_true, false_or, or_false, false_implies, true_implies, implies_true, Int.not_lt, Int.not_le, gt_iff_lt, ge_iff_le, ne_eq]
  refine roomy_gen (z := FK.zero .stop) x m 16 (8 * ((2 : Nat) : Int)) rfl (by decide) (by decide) hb
theorem roomyS_t : Told Try.prog 16 roomyS_con := roomyS_told csOk_nil roomyS_ok
theorem intactS_ok : intactS_vc := fun x hx y hy m => intact_gen (e := m.order = m.order ∧ m.drop = m.drop) (by simp) elEqS x hx y hy m
theorem intactS_t : Told Try.prog 18 intactS_con := intactS_told (csOk_cons sameS_t csOk_nil) intactS_ok
theorem elEqI (a b : Int) : decide (a = b) = true ↔ a = b := by
  simp
theorem sameI_ok : sameI_vc := fun x hx y _ => same_gen elEqI x hx y
theorem sameI_t : Told Try.prog 11 sameI_con := sameI_told csOk_nil sameI_ok
end Go.Eng
