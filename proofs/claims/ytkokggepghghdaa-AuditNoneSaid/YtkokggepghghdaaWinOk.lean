/- What the functions of windows tell is so. -/
import Derived.Test.YtkokggepghghdaaWinVc
set_option linter.unusedVariables false
set_option linter.unusedSimpArgs false
namespace Go.Eng
open Go Go.Proofs
theorem right_ok : right_vc := by
  unfold right_vc; intros; simp only [right]; grind
theorem right_t : Told Try.prog 83 right_con := right_told csOk_nil right_ok
theorem rRight_ok : rRight_vc := by
  unfold rRight_vc; intros; simp only [right]; grind
theorem rRight_t : Told Try.prog 86 right_con := rRight_told csOk_nil rRight_ok
theorem begin_ok : begin_vc := by
  unfold begin_vc; intros; simp only [begin_]; grind
theorem begin_t : Told Try.prog 74 begin_con := begin_told (csOk_cons right_t csOk_nil) begin_ok
theorem rBegin_ok : rBegin_vc := by
  unfold rBegin_vc; intros; simp only [begin_]; grind
theorem rBegin_t : Told Try.prog 79 begin_con := rBegin_told (csOk_cons rRight_t csOk_nil) rBegin_ok
end Go.Eng
