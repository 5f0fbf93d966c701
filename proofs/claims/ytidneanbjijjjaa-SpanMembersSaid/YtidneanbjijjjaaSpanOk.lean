/- What span's functions tell is so. -/
import Derived.Test.YtidneanbjijjjaaSpanVc
import Derived.Test.YtidneanbjijjjaaLists
set_option linter.unusedVariables false
set_option linter.unusedSimpArgs false
namespace Go.Eng
open Go Go.Proofs

theorem right_ok : right_vc := by
  intro w
  simp only [right]
  refine ⟨fun h => ⟨fun h1 => ?_, fun h1 => ?_⟩, fun h => ?_⟩ <;> simp_all <;> omega
theorem has_ok : has_vc := by
  intro w t
  simp only [has]
  refine ⟨fun h => ⟨fun h1 => ?_, fun h1 => ?_⟩, fun h => ?_⟩ <;> simp_all <;> omega
theorem begin_ok : begin_vc := by
  intro w t
  simp only [begin_]
  refine ⟨fun h => ⟨fun h1 => ?_, fun h1 => ?_⟩, fun h => ?_⟩ <;> simp_all
  rw [if_neg (by omega)]; simp
theorem last_ok : last_vc := by
  intro w s u
  simp only [last_]
  refine ⟨fun h => ⟨fun h1 => ⟨fun h2 => ⟨fun h3 => ?_, fun h3 => ?_⟩, fun h2 => ?_⟩, fun h1 => ?_⟩, fun h => ?_⟩ <;> simp_all
  · rw [if_neg (by omega)]; simp
  · rw [if_neg (by omega)]; simp
  · rw [if_neg (by omega)]; simp
theorem begins_ok : begins_vc := by
  intro w a t ok
  simp only [Prod.ext_iff]
  refine ⟨fun h => ?_, fun h => ?_⟩ <;> simp_all
  exact Bool.beq_eq_decide_eq _ _
theorem lasts_ok : lasts_vc := by
  intro w s u t ok
  simp only [Prod.ext_iff]
  refine ⟨fun h => ?_, fun h => ?_⟩ <;> simp_all
  exact Bool.beq_eq_decide_eq _ _
theorem meet_ok : meet_vc := by
  intro l hl
  have hl := hl.le
  refine ⟨fun i a b => 0 ≤ i ∧ i ≤ (l.length : Int) ∧ meet l = meets ⟨a, b⟩ (l.drop i.toNat), fun i _ _ => l.length - i.toNat, ⟨by simp, ?_⟩, ?_⟩
  · simp [meet]
  · rintro i a b ⟨h0, h1, h2⟩
    refine ⟨fun h => ?_, fun h => ?_⟩
    · simp only [decide_eq_true_eq] at h
      have hi : i.toNat < l.length := by omega
      refine ⟨⟨h0, h⟩, hi, fun hr => ?_, fun hr => ?_⟩
      · rw [getD_drop (d := ⟨0, 0⟩) hi, meets] at h2
        simp only [Bool.not_eq_true'] at hr
        rw [if_neg (by rw [show right _ = false from hr]; simp)] at h2
        simp [meetW, h2]
      · simp only [Bool.not_eq_false'] at hr
        rw [getD_drop (d := ⟨0, 0⟩) hi, meets, if_pos hr] at h2
        have hw : wrap (i + 1) = i + 1 := wrap_id (by omega) (by omega)
        rw [hw]
        have ht : (i + 1).toNat = i.toNat + 1 := by omega
        exact ⟨by simp, ⟨by omega, by omega, by rw [ht]; exact h2⟩, by show l.length - (i + 1).toNat < l.length - i.toNat; omega⟩
    · simp only [decide_eq_false_iff_not] at h
      have hi : l.drop i.toNat = [] := by apply List.drop_eq_nil_of_le; omega
      rw [hi, meets] at h2
      refine ⟨fun h3 => ?_, fun h3 => ?_⟩
      · simp only [decide_eq_true_eq] at h3
        rw [if_neg (by simp; omega)] at h2
        simp [meetW, h2]
      · simp only [decide_eq_false_iff_not] at h3
        rw [if_pos (by simp; omega)] at h2
        simp [meetW, h2]
theorem spanRuns_ok : spanRuns_vc := by
  have m0 : meet [] = some ⟨0, 1000000⟩ := by rfl
  have m1 : meet [⟨3, 9⟩, ⟨5, 12⟩] = some ⟨5, 9⟩ := by rfl
  have m2 : meet [⟨3, 4⟩, ⟨5, 6⟩] = none := by rfl
  have m3 : meet [⟨5, 3⟩] = none := by rfl
  have b1 : begin_ ⟨3, 9⟩ 1 = (3, true) := by decide
  have b2 : begin_ ⟨3, 9⟩ 5 = (5, true) := by decide
  have b3 : begin_ ⟨3, 9⟩ 10 = (0, false) := by decide
  have b4 : begin_ ⟨3, 9⟩ (-9223372036854775808) = (3, true) := by decide
  have l1 : last_ ⟨3, 9⟩ 4 20 = (9, true) := by decide
  have l2 : last_ ⟨3, 9⟩ 4 10 = (6, true) := by decide
  have l3 : last_ ⟨3, 9⟩ 4 6 = (0, false) := by decide
  have l4 : last_ ⟨3, 9⟩ (-1) 20 = (0, false) := by decide
  simp [spanRuns_vc, meetW, m0, m1, m2, m3, b1, b2, b3, b4, l1, l2, l3, l4]
theorem right_t : Told Try.prog 25 right_con := right_told csOk_nil right_ok
theorem has_t : Told Try.prog 27 has_con := has_told (csOk_cons right_t csOk_nil) has_ok
theorem begin_t : Told Try.prog 21 begin_con := begin_told (csOk_cons right_t csOk_nil) begin_ok
theorem last_t : Told Try.prog 23 last_con := last_told (csOk_cons right_t csOk_nil) last_ok
theorem meet_t : Told Try.prog 15 meet_con := meet_told (csOk_cons right_t csOk_nil) meet_ok
theorem begins_t : Told Try.prog 16 begins_con := begins_told (csOk_cons begin_t csOk_nil) begins_ok
theorem lasts_t : Told Try.prog 17 lasts_con := lasts_told (csOk_cons last_t csOk_nil) lasts_ok
theorem spanRuns_t : Told Try.prog 3 spanRuns_con := spanRuns_told (csOk_cons meet_t (csOk_cons begins_t (csOk_cons lasts_t csOk_nil))) spanRuns_ok
end Go.Eng
