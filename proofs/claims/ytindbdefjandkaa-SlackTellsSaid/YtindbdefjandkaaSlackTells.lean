/- The latest times of any stops: the program's are the document's; they are new memory. -/
import Derived.Test.YtindbdefjandkaaSlackTellsVc
import Derived.Test.YtindbdefjandkaaSlackRuns
set_option linter.unusedVariables false
set_option linter.unusedSimpArgs false
namespace Go.Eng
open Go Go.Proofs
theorem part_room {α : Type} (l : List α) (z : α) : part (roomy l z) (Int.toNat 0) ((l.length : Int).toNat - Int.toNat 0) = l := by
  have : (l.length : Int).toNat - Int.toNat 0 = l.length := by omega
  rw [this]
  exact part_roomy l z
theorem latR_few {m : Option MapD} {d : Driver} {os : List Order} {ss : List Stop} : (latR m d os ss).length ≤ ss.length := by
  cases m with
  | none => exact Nat.zero_le _
  | some m =>
    unfold latR
    dsimp only
    split
    · rw [latest_length]; exact Nat.le_refl _
    · exact Nat.zero_le _
theorem slackTells_ok : slackTells_vc := by
  unfold slackTells_vc
  simp only [bad_false, int0, nilOf, decide_eq_true_eq, decide_eq_false_iff_not, Bool.not_eq_true', Bool.not_eq_false', Bool.not_true, Bool.not_false, Bool.false_eq_true, Bool.true_eq_false, eq_self, true_and, and_true, false_or, or_false, false_implies, true_implies, implies_true, Int.not_lt, Int.not_le, gt_iff_lt, ge_iff_le, ne_eq]
  intro w _ d ss hss hg
  have hss := hss.le
  have z1 : ss.length * 16 ≤ 140737488351232 := hg.is.2.2.2
  have key : ∀ m : Option MapD, ∃ (inv : Int → List Int → Prop) (μ : Int → List Int → Nat), inv 0 (latR m d w.orders ss) ∧ ∀ (i : Int) (l : List Int), inv i l →
      (i < (l.length : Int) → (0 ≤ i ∧ i < (l.length : Int)) ∧ i.toNat < l.length ∧ inv (wrap (i + 1)) (l.set i.toNat (wrap (-1 - i))) ∧ μ (wrap (i + 1)) (l.set i.toNat (wrap (-1 - i))) < μ i l) := by
    intro m
    have hfew := latR_few (m := m) (d := d) (os := w.orders) (ss := ss)
    refine ⟨fun i l => 0 ≤ i ∧ l.length = (latR m d w.orders ss).length, fun i l => l.length - i.toNat, ⟨by omega, rfl⟩, fun i l hi h => ?_⟩
    obtain ⟨i0, i1⟩ := hi
    rw [wrap_id (n := i + 1) (by omega) (by omega)]
    refine ⟨⟨i0, h⟩, by omega, ⟨by omega, by rw [List.length_set]; exact i1⟩, ?_⟩
    dsimp only
    rw [List.length_set]
    omega
  have b2 : (ss.length : Int) ≤ ss.length + 80 := by omega
  have b4 : Int.toNat 0 + ((ss.length : Int).toNat - Int.toNat 0) ≤ ss.length + 80 := by omega
  simp only [part_room, roomy_length, same_self]
  refine ⟨fun h => ?_, fun h => ?_⟩
  · obtain ⟨inv, μ, k0, k1⟩ := key none
    have hm : ∀ (x : MapD), none = some x → MapOk x := mapOkO_none
    simp only [eq_true hm]
    simp [z1, b2, b4]
    refine ⟨inv, k0, μ, fun i l hi h => ?_⟩
    exact k1 i l hi h
  · obtain ⟨inv, μ, k0, k1⟩ := key (some ⟨w.n, w.times⟩)
    have hm := mapOkO_some h
    simp only [eq_true hm]
    simp [z1, b2, b4]
    refine ⟨inv, k0, μ, fun i l hi h => ?_⟩
    exact k1 i l hi h
theorem slackTells_t : Told Try.prog 4 slackTells_con := slackTells_told (csOk_cons maps_t (csOk_cons roomyS_t (csOk_cons slat_t (csOk_cons rSlat_t (csOk_cons sameI_t (csOk_cons intactS_t (csOk_cons slackRuns_t csOk_nil))))))) slackTells_ok
end Go.Eng
