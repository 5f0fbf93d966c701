/- Faults: what stands ahead of a fault, and behind it. -/
import Derived.Test.YtadblcopmoiaaaaRouteFaultsVc
import Derived.Test.YtadblcopmoiaaaaRouteCut
import Derived.Test.YtadblcopmoiaaaaRouteRuns
set_option linter.unusedVariables false
set_option linter.unusedSimpArgs false
namespace Go.Eng
open Go Go.Proofs
theorem part_take {α : Type} (l : List α) (x : Int) : part l (Int.toNat 0) (x.toNat - Int.toNat 0) = l.take x.toNat := rfl
theorem routeFaults_ok : routeFaults_vc := by
  unfold routeFaults_vc
  simp only [bad_false, int0, nilOf, decide_eq_true_eq, decide_eq_false_iff_not, Bool.not_eq_true', Bool.not_eq_false', Bool.not_true, Bool.not_false, Bool.false_eq_true, Bool.true_eq_false, eq_self, true_and, and_true, false_or, or_false, false_implies, true_implies, implies_true, Int.not_lt, Int.not_le, gt_iff_lt, ge_iff_le, ne_eq]
  intro w _ d ss hss ms hms hg
  have none_bad : ∀ ss : List Stop, drive none d w.orders ss = .error ⟨0, 1⟩ := fun d => rfl
  refine ⟨fun h => ?_, fun h => ?_⟩
  · have hm : ∀ (x : MapD), none = some x → MapOk x := mapOkO_none
    simp only [eq_true hm, none_bad]
    simp [fauR, good]
  · have hm := mapOkO_some h
    simp only [eq_true hm, true_and, part_take]
    rcases drive_cut ⟨w.n, w.times⟩ d w.orders ss with h | h | h | ⟨j, e, h1, h2, h3, h4, h5, h6⟩
    · simp [h]
    · simp [h, good]
    · simp [h, good]
    · have e1 : wrap ((j : Int) + 1) = ((j + 1 : Nat) : Int) := by rw [wrap_id (by omega) (by omega)]; omega
      have e2 : wrap (wrap (80 - (j : Int)) - 1) = ((80 - j - 1 : Nat) : Int) := by rw [wrap_id (n := 80 - (j : Int)) (by omega) (by omega), wrap_id (by omega) (by omega)]; omega
      have g1 := h6 [] (Nat.zero_le _)
      rw [List.append_nil] at g1
      have g2 := h6 (ms.take (80 - j - 1)) (by rw [List.length_take]; omega)
      have g : good ⟨(j : Int), e⟩ = false := by simp [good, h4.1]
      have l1 : (ss.take (j + 1)).length = j + 1 := by rw [List.length_take]; omega
      simp only [h3, e1, e2, Int.toNat_natCast, g, g1, g2, List.nil_append, h4.2.1, h4.2.2, l1, Nat.le_eq]
      have hz : ∀ a b : Nat, a ≤ 80 → b ≤ 80 → (a + b) * (8 * 2) ≤ 140737488355328 := fun a b _ _ => by omega
      have l2 : (ms.take (80 - j - 1)).length ≤ 80 := by rw [List.length_take]; omega
      have g3 : (ms.length : Int) ≤ ((80 - j - 1 : Nat) : Int) → fauR (drive (some ⟨w.n, w.times⟩) d w.orders (ss.take (j + 1) ++ ms)) = ⟨j, e⟩ := fun h => h6 ms (by omega)
      have g4 : ms.length ≤ 80 - j - 1 → (fauR (drive (some ⟨w.n, w.times⟩) d w.orders (ss.take (j + 1) ++ ms))).spot = j ∧ (fauR (drive (some ⟨w.n, w.times⟩) d w.orders (ss.take (j + 1) ++ ms))).why = e := fun h => by rw [g3 (by omega)]; exact ⟨rfl, rfl⟩
      clear g3 hz
      generalize drive (some ⟨w.n, w.times⟩) d w.orders (ss.take (j + 1) ++ ms) = X at *
      generalize (ms.take (80 - j - 1)).length = L at *
      rcases h5 with h5 | h5
      · simp [h5]
        repeat' (first | apply And.intro | intro _)
        all_goals first | omega | exact (g4 (by omega)).1 | exact (g4 (by omega)).2
      · simp [h5, good]
        repeat' (first | apply And.intro | intro _)
        all_goals first | omega | exact (g4 (by omega)).1 | exact (g4 (by omega)).2
theorem routeFaults_t : Told Try.prog 9 routeFaults_con := routeFaults_told (csOk_cons maps_t (csOk_cons drive_t (csOk_cons goodF_t (csOk_cons routeRuns_t csOk_nil)))) routeFaults_ok
end Go.Eng
