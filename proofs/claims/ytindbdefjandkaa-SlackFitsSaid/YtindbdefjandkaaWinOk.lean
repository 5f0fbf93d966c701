/- What the functions of windows tell is so. -/
import Derived.Test.YtindbdefjandkaaWinVc
set_option linter.unusedVariables false
set_option linter.unusedSimpArgs false
namespace Go.Eng
open Go Go.Proofs
theorem right_ok : right_vc := by
  unfold right_vc; intros; simp only [right]; grind
theorem right_t : Told Try.prog 37 right_con := right_told csOk_nil right_ok
theorem rRight_ok : rRight_vc := by
  unfold rRight_vc; intros; simp only [right]; grind
theorem rRight_t : Told Try.prog 42 right_con := rRight_told csOk_nil rRight_ok
theorem has_ok : has_vc := by
  unfold has_vc; intros; simp only [has]; grind
theorem has_t : Told Try.prog 24 has_con := has_told (csOk_cons right_t csOk_nil) has_ok
theorem begin_ok : begin_vc := by
  unfold begin_vc; intros; simp only [begin_]; grind
theorem begin_t : Told Try.prog 46 begin_con := begin_told (csOk_cons right_t csOk_nil) begin_ok
theorem rBegin_ok : rBegin_vc := by
  unfold rBegin_vc; intros; simp only [begin_]; grind
theorem rBegin_t : Told Try.prog 49 begin_con := rBegin_told (csOk_cons rRight_t csOk_nil) rBegin_ok
theorem last_ok : last_vc := by
  unfold last_vc; intros; simp only [last_]; grind
theorem last_t : Told Try.prog 28 last_con := last_told (csOk_cons right_t csOk_nil) last_ok
theorem rLast_ok : rLast_vc := by
  unfold rLast_vc
  intro w s u
  have hlr : right w = true → w.lo ≤ w.hi := by simp only [right, Bool.and_eq_true, decide_eq_true_eq]; omega
  simp only [lastRef]; grind
theorem rLast_t : Told Try.prog 34 rLast_con := rLast_told (csOk_cons rRight_t csOk_nil) rLast_ok
end Go.Eng
