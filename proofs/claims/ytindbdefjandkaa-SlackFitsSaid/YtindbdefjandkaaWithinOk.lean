/- Numbers brought into bounds: it is so. -/
import Derived.Test.YtindbdefjandkaaWithinVc
set_option linter.unusedVariables false
set_option linter.unusedSimpArgs false
namespace Go.Eng
open Go Go.Proofs
theorem tmod_emod {n k : Int} (hk : 0 < k) : (n.tmod k < 0 → n % k = n.tmod k + k) ∧ (0 ≤ n.tmod k → n % k = n.tmod k) ∧ -k < n.tmod k ∧ n.tmod k < k := by
  have h1 : n.tmod k < k := Int.tmod_lt_of_pos n hk
  have h2 : -k < n.tmod k := by
    have := Int.lt_tmod_of_pos n hk
    exact this
  have h3 : n = n.tmod k + k * n.tdiv k := (Int.tmod_add_mul_tdiv n k).symm
  have h4 : n % k = n.tmod k % k := by
    have : (n.tmod k + k * n.tdiv k) % k = n.tmod k % k := Int.add_mul_emod_self_left _ _ _
    rw [← h3] at this; exact this
  refine ⟨fun h => ?_, fun h => ?_, h2, h1⟩
  · rw [h4, ← Int.add_emod_right, Int.emod_eq_of_lt (by omega) (by omega)]
  · rw [h4, Int.emod_eq_of_lt h h1]
theorem bwithin_bound {n lo hi : Int} (h : lo ≤ hi) : lo ≤ bwithin n lo hi ∧ bwithin n lo hi ≤ hi := by
  unfold bwithin
  have h1 := Int.emod_nonneg n (show hi - lo + 1 ≠ 0 by omega)
  have h2 := Int.emod_lt_of_pos n (show 0 < hi - lo + 1 by omega)
  omega
theorem bWithin_ok : bWithin_vc := by
  unfold bWithin_vc
  simp only [bad_false, int0, nilOf, decide_eq_true_eq, decide_eq_false_iff_not, Bool.not_eq_true', Bool.not_eq_false', Bool.not_true, Bool.not_false, Bool.false_eq_true, Bool.true_eq_false, eq_self, true_and, and_true, false_or, or_false, false_implies, true_implies, implies_true, Int.not_lt, Int.not_le, gt_iff_lt, ge_iff_le, ne_eq]
  rintro n lo hi ⟨h1, h2, h3⟩
  have e1 : wrap (hi - lo) = hi - lo := wrap_id (by omega) (by omega)
  have e2 : wrap (hi - lo + 1) = hi - lo + 1 := wrap_id (by omega) (by omega)
  obtain ⟨t1, t2, t3, t4⟩ := tmod_emod (n := n) (k := hi - lo + 1) (by omega)
  rw [e1, e2]
  refine ⟨by omega, fun h => ?_, fun h => ?_⟩
  · have f1 : wrap (n.tmod (hi - lo + 1) + hi) = n.tmod (hi - lo + 1) + hi := wrap_id (by omega) (by omega)
    have f2 : wrap (n.tmod (hi - lo + 1) + hi - lo) = n.tmod (hi - lo + 1) + hi - lo := wrap_id (by omega) (by omega)
    have f3 : wrap (n.tmod (hi - lo + 1) + hi - lo + 1) = n.tmod (hi - lo + 1) + hi - lo + 1 := wrap_id (by omega) (by omega)
    rw [f1, f2, f3, wrap_id (by omega) (by omega)]
    unfold bwithin
    rw [t1 h]; omega
  · rw [wrap_id (by omega) (by omega)]
    unfold bwithin
    rw [t2 h]
theorem bWithin_t : Told Try.prog 23 bWithin_con := bWithin_told csOk_nil bWithin_ok
end Go.Eng
