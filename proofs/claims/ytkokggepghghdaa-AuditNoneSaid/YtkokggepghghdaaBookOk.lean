/- Books of memory: it is so. -/
import Derived.Test.YtkokggepghghdaaBookVc
set_option linter.unusedVariables false
set_option linter.unusedSimpArgs false
namespace Go.Eng
open Go Go.Proofs
theorem elEqS (a b : Stop) : (decide (a.order = b.order) && ((a.drop == b.drop) && true)) = true ↔ a = b := by
  cases a; cases b; simp [and_assoc]
theorem sameS_ok : sameS_vc := fun x hx y _ => same_gen elEqS x hx y
theorem sameS_t : Told Try.prog 48 sameS_con := sameS_told csOk_nil sameS_ok
theorem elEqV (a b : Visit) : ((decide (a.order = b.order) && ((a.drop == b.drop) && true)) && (decide (a.arrive = b.arrive) && (decide (a.start = b.start) && (decide (a.leave = b.leave) && (decide (a.load = b.load) && true))))) = true ↔ a = b := by
  cases a; cases b; simp [and_assoc]
theorem sameV_ok : sameV_vc := fun x hx y _ => same_gen elEqV x hx y
theorem sameV_t : Told Try.prog 38 sameV_con := sameV_told csOk_nil sameV_ok
theorem elEqT (a b : Trouble) : (decide (a.driver = b.driver) && (decide (a.order = b.order) && (decide (a.why = b.why) && true))) = true ↔ a = b := by
  cases a; cases b; simp [and_assoc]
theorem sameT_ok : sameT_vc := fun x hx y _ => same_gen elEqT x hx y
theorem sameT_t : Told Try.prog 17 sameT_con := sameT_told csOk_nil sameT_ok
end Go.Eng
