/- Books of memory: it is so. -/
import Derived.Test.YtadblcopmoiaaaaBookVc
set_option linter.unusedVariables false
set_option linter.unusedSimpArgs false
namespace Go.Eng
open Go Go.Proofs
theorem elEqO (a b : Order) : (decide (a.id = b.id) && (decide (a.size = b.size) && ((decide (a.pp = b.pp) && ((decide (a.pf = b.pf) && (decide (a.pt = b.pt) && true)) && (decide (a.ps = b.ps) && true))) && ((decide (a.dp = b.dp) && ((decide (a.df = b.df) && (decide (a.dt = b.dt) && true)) && (decide (a.ds = b.ds) && true))) && true)))) = true ↔ a = b := by
  cases a; cases b; simp [and_assoc]
theorem sameO_ok : sameO_vc := fun x hx y _ => same_gen elEqO x hx y
theorem sameO_t : Told Try.prog 36 sameO_con := sameO_told csOk_nil sameO_ok
theorem roomyO_ok : roomyO_vc := by
  intro x hx m hb
  simp only [bad_false, int0, nilOf, decide_eq_true_eq, decide_eq_false_iff_not, Bool.not_eq_true', Bool.not_eq_false', Bool.not_true, Bool.not_false, Bool.false_eq_true, Bool.true_eq_false, eq_self, true_and, and_true, false_or, or_false, false_implies, true_implies, implies_true, Int.not_lt, Int.not_le, gt_iff_lt, ge_iff_le, ne_eq]
  refine roomy_gen (z := FK.zero .order) x m 80 (8 * ((10 : Nat) : Int)) rfl (by decide) (by decide) hb
theorem roomyO_t : Told Try.prog 15 roomyO_con := roomyO_told csOk_nil roomyO_ok
theorem intactO_ok : intactO_vc := fun x hx y hy m => intact_gen (e := m.id = m.id ∧ m.size = m.size ∧ m.pp = m.pp ∧ m.pf = m.pf ∧ m.pt = m.pt ∧ m.ps = m.ps ∧ m.dp = m.dp ∧ m.df = m.df ∧ m.dt = m.dt ∧ m.ds = m.ds) (by simp) elEqO x hx y hy m
theorem intactO_t : Told Try.prog 20 intactO_con := intactO_told (csOk_cons sameO_t csOk_nil) intactO_ok
theorem elEqS (a b : Stop) : (decide (a.order = b.order) && ((a.drop == b.drop) && true)) = true ↔ a = b := by
  cases a; cases b; simp [and_assoc]
theorem sameS_ok : sameS_vc := fun x hx y _ => same_gen elEqS x hx y
theorem sameS_t : Told Try.prog 35 sameS_con := sameS_told csOk_nil sameS_ok
theorem roomyS_ok : roomyS_vc := by
  intro x hx m hb
  simp only [bad_false, int0, nilOf, decide_eq_true_eq, decide_eq_false_iff_not, Bool.not_eq_true', Bool.not_eq_false', Bool.not_true, Bool.not_false, Bool.false_eq_true, Bool.true_eq_false, eq_self, true_and, and_true, false_or, or_false, false_implies, true_implies, implies_true, Int.not_lt, Int.not_le, gt_iff_lt, ge_iff_le, ne_eq]
  refine roomy_gen (z := FK.zero .stop) x m 16 (8 * ((2 : Nat) : Int)) rfl (by decide) (by decide) hb
theorem roomyS_t : Told Try.prog 14 roomyS_con := roomyS_told csOk_nil roomyS_ok
theorem intactS_ok : intactS_vc := fun x hx y hy m => intact_gen (e := m.order = m.order ∧ m.drop = m.drop) (by simp) elEqS x hx y hy m
theorem intactS_t : Told Try.prog 19 intactS_con := intactS_told (csOk_cons sameS_t csOk_nil) intactS_ok
theorem elEqV (a b : Visit) : ((decide (a.order = b.order) && ((a.drop == b.drop) && true)) && (decide (a.arrive = b.arrive) && (decide (a.start = b.start) && (decide (a.leave = b.leave) && (decide (a.load = b.load) && true))))) = true ↔ a = b := by
  cases a; cases b; simp [and_assoc]
theorem sameV_ok : sameV_vc := fun x hx y _ => same_gen elEqV x hx y
theorem sameV_t : Told Try.prog 18 sameV_con := sameV_told csOk_nil sameV_ok
end Go.Eng
