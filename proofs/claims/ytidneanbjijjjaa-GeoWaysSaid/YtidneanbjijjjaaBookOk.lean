/- Books of memory: it is so. -/
import Derived.Test.YtidneanbjijjjaaBookVc
set_option linter.unusedVariables false
set_option linter.unusedSimpArgs false
namespace Go.Eng
open Go Go.Proofs
theorem elEqW (a b : Win) : (decide (a.lo = b.lo) && (decide (a.hi = b.hi) && true)) = true ↔ a = b := by
  cases a; cases b; simp [and_assoc]
theorem sameW_ok : sameW_vc := fun x hx y _ => same_gen elEqW x hx y
theorem sameW_t : Told Try.prog 48 sameW_con := sameW_told csOk_nil sameW_ok
theorem roomyW_ok : roomyW_vc := by
  intro x hx m hb
  simp only [bad_false, int0, nilOf, decide_eq_true_eq, decide_eq_false_iff_not, Bool.not_eq_true', Bool.not_eq_false', Bool.not_true, Bool.not_false, Bool.false_eq_true, Bool.true_eq_false, eq_self, true_and, and_true, false_or, or_false, false_implies, true_implies, implies_true, Int.not_lt, Int.not_le, gt_iff_lt, ge_iff_le, ne_eq]
  refine roomy_gen (z := FK.zero .win) x m 16 (8 * ((2 : Nat) : Int)) rfl (by decide) (by decide) hb
theorem roomyW_t : Told Try.prog 18 roomyW_con := roomyW_told csOk_nil roomyW_ok
theorem intactW_ok : intactW_vc := fun x hx y hy m => intact_gen (e := m.lo = m.lo ∧ m.hi = m.hi) (by simp) elEqW x hx y hy m
theorem intactW_t : Told Try.prog 20 intactW_con := intactW_told (csOk_cons sameW_t csOk_nil) intactW_ok
theorem elEqI (a b : Int) : decide (a = b) = true ↔ a = b := by
  simp
theorem sameI_ok : sameI_vc := fun x hx y _ => same_gen elEqI x hx y
theorem sameI_t : Told Try.prog 34 sameI_con := sameI_told csOk_nil sameI_ok
theorem roomyI_ok : roomyI_vc := by
  intro x hx m hb
  simp only [bad_false, int0, nilOf, decide_eq_true_eq, decide_eq_false_iff_not, Bool.not_eq_true', Bool.not_eq_false', Bool.not_true, Bool.not_false, Bool.false_eq_true, Bool.true_eq_false, eq_self, true_and, and_true, false_or, or_false, false_implies, true_implies, implies_true, Int.not_lt, Int.not_le, gt_iff_lt, ge_iff_le, ne_eq]
  refine roomy_gen (z := FK.zero .int) x m 8 (8 * ((1 : Nat) : Int)) rfl (by decide) (by decide) hb
theorem roomyI_t : Told Try.prog 36 roomyI_con := roomyI_told csOk_nil roomyI_ok
theorem intactI_ok : intactI_vc := fun x hx y hy m => by
  have h := intact_gen (d := (0 : Int)) (e := m = m) rfl elEqI x hx y hy m
  refine ⟨fun h0 => ?_, h.2⟩
  obtain ⟨a, b, c, d⟩ := h.1 h0
  refine ⟨a, b, c, fun h1 => ?_⟩
  obtain ⟨inv, μ, ⟨_, i0⟩, k⟩ := d h1
  refine ⟨inv, μ, ⟨⟨⟨rfl, rfl⟩, rfl⟩, i0⟩, fun i hi => ⟨fun h2 => ?_, (k i hi).2⟩⟩
  obtain ⟨p, q, r, t⟩ := (k i hi).1 h2
  exact ⟨p, q, r, fun h3 => ⟨⟨⟨rfl, rfl⟩, rfl⟩, (t h3).2⟩⟩
theorem intactI_t : Told Try.prog 38 intactI_con := intactI_told (csOk_cons sameI_t csOk_nil) intactI_ok
end Go.Eng
