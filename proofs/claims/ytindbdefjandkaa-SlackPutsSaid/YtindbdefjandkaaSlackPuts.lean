/- An order put in anywhere: the stops are the document's; what was handed in stays. -/
import Derived.Test.YtindbdefjandkaaSlackPutsVc
import Derived.Test.YtindbdefjandkaaSlackRuns
set_option linter.unusedVariables false
set_option linter.unusedSimpArgs false
namespace Go.Eng
open Go Go.Proofs
theorem part_room {α : Type} (l : List α) (z : α) : part (roomy l z) (Int.toNat 0) ((l.length : Int).toNat - Int.toNat 0) = l := by
  have : (l.length : Int).toNat - Int.toNat 0 = l.length := by omega
  rw [this]
  exact part_roomy l z
theorem slackPuts_ok : slackPuts_vc := by
  unfold slackPuts_vc
  simp only [bad_false, int0, nilOf, decide_eq_true_eq, decide_eq_false_iff_not, Bool.not_eq_true', Bool.not_eq_false', Bool.not_true, Bool.not_false, Bool.false_eq_true, Bool.true_eq_false, eq_self, true_and, and_true, false_or, or_false, false_implies, true_implies, implies_true, Int.not_lt, Int.not_le, gt_iff_lt, ge_iff_le, ne_eq]
  intro ss hss id i j hg
  have hss := hss.le
  have z1 : ss.length * 16 ≤ 140737488351232 := hg.is.1.2
  have b2 : (ss.length : Int) ≤ ss.length + 80 := by omega
  have b4 : Int.toNat 0 + ((ss.length : Int).toNat - Int.toNat 0) ≤ ss.length + 80 := by omega
  simp only [part_room, roomy_length, same_self]
  refine ⟨z1, ⟨by omega, by omega, by omega⟩, ⟨b4, z1⟩, fun h1 => ⟨fun h2 => ⟨fun h3 => ?_, fun h3 => ?_⟩, fun h2 => ?_⟩, fun h1 => ?_⟩
  · rw [putS_out (by omega)]; simp
  · have hp := putS_length (id := id) (ss := ss) ⟨h1, h2, h3⟩
    refine ⟨⟨z1, putOk_iff.2 ⟨h1, h2, h3⟩⟩, fun h => (by cases h), fun _ => ⟨fun k l => 0 ≤ k ∧ l.length = ss.length + 2, fun k l => l.length - k.toNat, ⟨by omega, hp⟩, fun k l hi => ⟨fun h => ?_, fun h hf => by cases hf⟩⟩⟩
    obtain ⟨i0, i1⟩ := hi
    rw [wrap_id (n := k + 1) (by omega) (by omega)]
    refine ⟨⟨i0, h⟩, by omega, ⟨by omega, by rw [List.length_set]; exact i1⟩, ?_⟩
    dsimp only
    rw [List.length_set]
    omega
  · rw [putS_out (by omega)]; simp
  · rw [putS_out (by omega)]; simp
theorem slackPuts_t : Told Try.prog 5 slackPuts_con := slackPuts_told (csOk_cons roomyS_t (csOk_cons sput_t (csOk_cons intactS_t (csOk_cons slackRuns_t (csOk_cons rSput_t (csOk_cons sameS_t csOk_nil)))))) slackPuts_ok
end Go.Eng
