/- The document's own of windows; statements of windows. -/
import Derived.Test.YtidneanbjijjjaaSpanOk
import Derived.Test.YtidneanbjijjjaaSpanVd
import Derived.Test.YtidneanbjijjjaaSpanVe
set_option linter.unusedVariables false
set_option linter.unusedSimpArgs false
namespace Go.Eng
open Go Go.Proofs

theorem rRight_ok : rRight_vc := right_ok
theorem rHas_ok : rHas_vc := has_ok
theorem rBegin_ok : rBegin_vc := by
  intro w t
  simp only [begin_]
  refine ⟨fun h => ⟨fun h1 => ?_, fun h1 => ⟨fun h2 => ?_, fun h2 => ?_⟩⟩, fun h => ?_⟩ <;> simp_all
  · rw [if_neg (by omega)]; simp
  · omega
  · omega
theorem rLast_ok : rLast_vc := by
  intro w s u
  have hlr : right w = true → w.lo ≤ w.hi := by simp only [right, Bool.and_eq_true, decide_eq_true_eq]; omega
  simp only [lastRef]
  refine ⟨fun h => ⟨fun h1 => ⟨fun h2 => ?_, fun h2 => ⟨fun h3 => ⟨fun h4 => ?_, fun h4 => ?_⟩, fun h3 => ⟨fun h4 => ?_, fun h4 => ?_⟩⟩⟩, fun h1 => ?_⟩, fun h => ?_⟩ <;>
    simp only [Bool.not_eq_false', Bool.not_false, Bool.not_eq_true', decide_eq_true_eq, decide_eq_false_iff_not] at * <;> (try have := hlr h)
  · rw [if_neg (by simp; omega)]; simp
  · omega
  · rw [if_pos (by simp [h]; omega), if_pos (by omega)]; simp; omega
  · rw [if_pos (by simp [h]; omega), if_neg (by omega)]; simp
  · rw [if_pos (by simp [h]; omega), if_pos (by omega)]; simp; omega
  · rw [if_neg (by simp; omega)]; simp
  · rw [if_neg (by simp [h])]; simp
theorem inR_of {n : Int} (h : pI n) : -9223372036854775808 ≤ n ∧ n ≤ 9223372036854775807 := h
theorem last_eq {w : Win} {s u : Int} (hs : pI s) (hu : pI u) : last_ w s u = lastRef w s u := by
  have hs := inR_of hs
  have hu := inR_of hu
  have hlr : right w = true → 0 ≤ w.lo ∧ w.lo ≤ w.hi ∧ w.hi ≤ 1000000 := by simp only [right, Bool.and_eq_true, decide_eq_true_eq]; omega
  simp only [last_, lastRef]
  cases hr : right w with
  | false => simp
  | true =>
    have := hlr hr
    by_cases h1 : 0 ≤ s
    · have hw : 0 ≤ u → wrap (u - s) = u - s := fun h => wrap_id (by omega) (by omega)
      by_cases h2 : 0 ≤ u
      · rw [hw h2]
        by_cases h3 : w.lo ≤ u - s
        · have : s ≤ u := by omega
          have h4 : w.lo ≤ min w.hi (u - s) := by omega
          simp [h1, h2, h3, this, h4]
        · by_cases h4 : s ≤ u
          · have h5 : ¬ w.lo ≤ min w.hi (u - s) := by omega
            simp [h1, h2, h3, h4]
            omega
          · simp [h1, h2, h3, h4]
      · have : ¬ s ≤ u := by omega
        simp [h1, h2, this]
    · simp [h1]
theorem spanTells_ok : spanTells_vc := by
  intro w t s u hg
  obtain ⟨_, _, hs, hu⟩ := hg.is
  rw [last_eq hs hu]
  simp
theorem spanEarly_ok : spanEarly_vc := by
  intro w a l hg
  have hlr : right w = true → 0 ≤ w.lo ∧ w.lo ≤ w.hi ∧ w.hi ≤ 1000000 := by simp only [right, Bool.and_eq_true, decide_eq_true_eq]; omega
  simp only [begin_, has]
  by_cases hr : right w = true
  case neg =>
    have hr : right w = false := by simpa using hr
    simp [hr]
  case pos =>
    have := hlr hr
    by_cases h1 : a ≤ w.hi <;> by_cases h2 : l ≤ w.hi <;> simp [hr, h1, h2] <;> omega
theorem spanLate_ok : spanLate_vc := by
  intro w s u hg
  obtain ⟨_, hs, hu⟩ := hg.is
  have hs := inR_of hs
  have hu := inR_of hu
  have hlr : right w = true → 0 ≤ w.lo ∧ w.lo ≤ w.hi ∧ w.hi ≤ 1000000 := by simp only [right, Bool.and_eq_true, decide_eq_true_eq]; omega
  simp only [last_, has]
  by_cases hr : right w = true
  case neg =>
    have hr : right w = false := by simpa using hr
    simp [hr]
  case pos =>
    have := hlr hr
    by_cases h1 : 0 ≤ s
    · by_cases h2 : 0 ≤ u
      · have hw : wrap (u - s) = u - s := wrap_id (by omega) (by omega)
        by_cases h3 : w.lo ≤ u - s
        · have hw2 : wrap (min w.hi (u - s) + 1) = min w.hi (u - s) + 1 := wrap_id (by omega) (by omega)
          simp [hr, h1, h2, h3, hw, hw2] <;> omega
        · by_cases h4 : s ≤ 1000000
          · have hw2 : wrap (w.lo + s) = w.lo + s := wrap_id (by omega) (by omega)
            simp [hr, h1, h2, h3, hw, hw2] <;> omega
          · simp [hr, h1, h2, h3, hw] <;> omega
      · by_cases h4 : s ≤ 1000000
        · have hw2 : wrap (w.lo + s) = w.lo + s := wrap_id (by omega) (by omega)
          simp [hr, h1, h2, hw2] <;> omega
        · simp [hr, h1, h2] <;> omega
    · simp [hr, h1] <;> omega
theorem rRight_t : Told Try.prog 26 right_con := rRight_told csOk_nil rRight_ok
theorem rHas_t : Told Try.prog 28 has_con := rHas_told (csOk_cons rRight_t csOk_nil) rHas_ok
theorem rBegin_t : Told Try.prog 22 begin_con := rBegin_told (csOk_cons rRight_t csOk_nil) rBegin_ok
theorem rLast_t : Told Try.prog 24 rLast_con := rLast_told (csOk_cons rRight_t csOk_nil) rLast_ok
theorem spanTells_t : Told Try.prog 5 spanTells_con := spanTells_told (csOk_cons begin_t (csOk_cons rBegin_t (csOk_cons last_t (csOk_cons rLast_t (csOk_cons right_t (csOk_cons rRight_t (csOk_cons has_t (csOk_cons rHas_t (csOk_cons spanRuns_t csOk_nil))))))))) spanTells_ok
theorem spanEarly_t : Told Try.prog 7 spanEarly_con := spanEarly_told (csOk_cons begin_t (csOk_cons right_t (csOk_cons has_t (csOk_cons spanRuns_t csOk_nil)))) spanEarly_ok
theorem spanLate_t : Told Try.prog 8 spanLate_con := spanLate_told (csOk_cons last_t (csOk_cons right_t (csOk_cons has_t (csOk_cons spanRuns_t csOk_nil)))) spanLate_ok
end Go.Eng
