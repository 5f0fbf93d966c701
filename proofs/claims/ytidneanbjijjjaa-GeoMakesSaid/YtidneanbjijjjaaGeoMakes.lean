/- Any map, asked for any two places; what was handed in stays, and may be turned later. -/
import Derived.Test.YtidneanbjijjjaaGeoMakesVc
import Derived.Test.YtidneanbjijjjaaGeoRuns
set_option linter.unusedVariables false
set_option linter.unusedSimpArgs false
namespace Go.Eng
open Go Go.Proofs
theorem part_room {α : Type} (l : List α) (z : α) : part (roomy l z) (Int.toNat 0) ((l.length : Int).toNat - Int.toNat 0) = l := by
  have : (l.length : Int).toNat - Int.toNat 0 = l.length := by omega
  rw [this]
  exact part_roomy l z
theorem geoMakes_ok : geoMakes_vc := by
  unfold geoMakes_vc
  simp only [bad_false, int0, nilOf, decide_eq_true_eq, decide_eq_false_iff_not, Bool.not_eq_true', Bool.not_eq_false', Bool.not_true, Bool.not_false, Bool.false_eq_true, Bool.true_eq_false, eq_self, true_and, and_true, false_or, or_false, false_implies, true_implies, implies_true, Int.not_lt, Int.not_le, gt_iff_lt, ge_iff_le, ne_eq]
  intro n ts hts a b hg
  have hts := hts.le
  have z1 : ts.length * 8 ≤ 140737488351232 := hg.is.2.1.2
  have b2 : (ts.length : Int) ≤ ts.length + 80 := by omega
  have b4 : Int.toNat 0 + ((ts.length : Int).toNat - Int.toNat 0) ≤ ts.length + 80 := by omega
  have key : ∃ (inv : Int → List Int → Prop) (μ : Int → List Int → Nat), inv 0 (roomy ts (-5)) ∧ ∀ (i : Int) (l : List Int), inv i l →
      (i < (l.length : Int) → (0 ≤ i ∧ i < (l.length : Int)) ∧ i.toNat < l.length ∧ inv (wrap (i + 1)) (l.set i.toNat (-9)) ∧ μ (wrap (i + 1)) (l.set i.toNat (-9)) < μ i l) := by
    refine ⟨fun i l => 0 ≤ i ∧ l.length = ts.length + 80, fun i l => l.length - i.toNat, ⟨by omega, roomy_length _ _⟩, fun i l hi h => ?_⟩
    obtain ⟨i0, i1⟩ := hi
    rw [wrap_id (n := i + 1) (by omega) (by omega)]
    refine ⟨⟨i0, h⟩, by omega, ⟨by omega, by rw [List.length_set]; exact i1⟩, ?_⟩
    dsimp only
    rw [List.length_set]
    omega
  simp only [part_room, roomy_length, same_self]
  obtain ⟨inv, μ, k0, k1⟩ := key
  refine ⟨z1, ⟨by omega, by omega, b2⟩, b4, fun h => ⟨fun _ => ⟨fun _ => ⟨fun _ => ⟨fun h => (by cases h), fun _ => ⟨inv, μ, k0, fun i l hi => ⟨k1 i l hi, fun _ => ?_⟩⟩⟩, fun h => (by cases h)⟩, fun h => absurd trivial h⟩, fun h' => absurd h' h⟩,
    fun h => ⟨fun h' => absurd h h', fun _ => ⟨⟨fun _ => ⟨fun h => (by cases h), fun _ => ⟨inv, μ, k0, fun i l hi => ⟨k1 i l hi, fun _ => ?_⟩⟩⟩, fun h => (by cases h)⟩, fun h => absurd trivial h⟩⟩⟩
  · have hm : ∀ (x : MapD), none = some x → MapOk x := mapOkO_none
    simp only [eq_true hm]
    simp [mtime, places, times, even]
  · have hm := mapOkO_some h
    have hk := mapOk_of h
    simp only [eq_true hm, eq_true hk]
    simp [places, times, same_self]
theorem geoMakes_t : Told Try.prog 12 geoMakes_con := geoMakes_told (csOk_cons roomyI_t (csOk_cons new_t (csOk_cons rNew_t (csOk_cons intactI_t (csOk_cons time_t (csOk_cons places_t (csOk_cons times_t (csOk_cons closed_t (csOk_cons even_t (csOk_cons geoRuns_t (csOk_cons rTime_t (csOk_cons alike_t csOk_nil)))))))))))) geoMakes_ok
end Go.Eng
