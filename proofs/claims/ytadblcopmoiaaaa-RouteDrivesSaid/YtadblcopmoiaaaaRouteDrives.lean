/- Any driver through any stops: the program's answers are the document's. -/
import Derived.Test.YtadblcopmoiaaaaRouteDrivesVc
import Derived.Test.YtadblcopmoiaaaaRouteRuns
set_option linter.unusedVariables false
set_option linter.unusedSimpArgs false
namespace Go.Eng
open Go Go.Proofs
theorem visR_few {m : Option MapD} {d : Driver} {os : List Order} {ss : List Stop} : (visR (drive m d os ss)).length ≤ 80 := by
  cases hg : good (fauR (drive m d os ss)) with
  | true =>
    obtain ⟨x, vs, hx, hf, hr, hd⟩ := drive_good hg
    subst hx
    rw [hd]
    have := (driveGo_all hr).1
    have := (fitB_iff.1 hf).2.2
    show vs.length ≤ 80
    omega
  | false =>
    cases hr : drive m d os ss with
    | ok vs => rw [hr] at hg; cases hg
    | error f => exact Nat.zero_le _
theorem part_room {α : Type} (l : List α) (z : α) : part (roomy l z) (Int.toNat 0) ((l.length : Int).toNat - Int.toNat 0) = l := by
  have : (l.length : Int).toNat - Int.toNat 0 = l.length := by omega
  rw [this]
  exact part_roomy l z
theorem routeDrives_ok : routeDrives_vc := by
  unfold routeDrives_vc
  simp only [bad_false, int0, nilOf, decide_eq_true_eq, decide_eq_false_iff_not, Bool.not_eq_true', Bool.not_eq_false', Bool.not_true, Bool.not_false, Bool.false_eq_true, Bool.true_eq_false, eq_self, true_and, and_true, false_or, or_false, false_implies, true_implies, implies_true, Int.not_lt, Int.not_le, gt_iff_lt, ge_iff_le, ne_eq]
  intro w _ d ss _ hg
  have z1 : ss.length * 16 ≤ 140737488351232 := hg.is.2.2.2
  have z2 : w.orders.length * 80 ≤ 140737488351232 := hg.is.1.2 (.a (.f .order) w.orders) (by simp [SK.enc])
  have key : ∀ m : Option MapD, ∃ (inv : Int → List Visit → Prop) (μ : Int → List Visit → Nat), inv 0 (visR (drive m d w.orders ss)) ∧ ∀ (i : Int) (l : List Visit), inv i l →
      (i < (l.length : Int) → (0 ≤ i ∧ i < (l.length : Int)) ∧ i.toNat < l.length ∧ inv (wrap (i + 1)) (l.set i.toNat ⟨0, false, 0, 0, 0, -8⟩) ∧ μ (wrap (i + 1)) (l.set i.toNat ⟨0, false, 0, 0, 0, -8⟩) < μ i l) := by
    intro m
    have hfew := visR_few (m := m) (d := d) (os := w.orders) (ss := ss)
    refine ⟨fun i l => 0 ≤ i ∧ l.length = (visR (drive m d w.orders ss)).length, fun i l => l.length - i.toNat, ⟨by omega, rfl⟩, fun i l hi h => ?_⟩
    obtain ⟨i0, i1⟩ := hi
    rw [wrap_id (n := i + 1) (by omega) (by omega)]
    refine ⟨⟨i0, h⟩, by omega, ⟨by omega, by rw [List.length_set]; exact i1⟩, ?_⟩
    dsimp only
    rw [List.length_set]
    omega
  have b1 : (w.orders.length : Int) ≤ w.orders.length + 80 := by omega
  have b2 : (ss.length : Int) ≤ ss.length + 80 := by omega
  have b3 : Int.toNat 0 + ((w.orders.length : Int).toNat - Int.toNat 0) ≤ w.orders.length + 80 := by omega
  have b4 : Int.toNat 0 + ((ss.length : Int).toNat - Int.toNat 0) ≤ ss.length + 80 := by omega
  simp only [part_room, roomy_length, same_self]
  refine ⟨fun h => ?_, fun h => ?_⟩
  · obtain ⟨inv, μ, k0, k1⟩ := key none
    have hm : ∀ (x : MapD), none = some x → MapOk x := mapOkO_none
    simp only [eq_true hm]
    simp [z1, z2, b1, b2, b3, b4]
    refine ⟨inv, k0, μ, fun i l hi h => ?_⟩
    exact k1 i l hi h
  · obtain ⟨inv, μ, k0, k1⟩ := key (some ⟨w.n, w.times⟩)
    have hm := mapOkO_some h
    simp only [eq_true hm]
    simp [z1, z2, b1, b2, b3, b4]
    refine ⟨inv, k0, μ, fun i l hi h => ?_⟩
    exact k1 i l hi h
theorem routeDrives_t : Told Try.prog 4 routeDrives_con := routeDrives_told (csOk_cons maps_t (csOk_cons roomyS_t (csOk_cons roomyO_t (csOk_cons drive_t (csOk_cons rDrive_t (csOk_cons cost_t (csOk_cons rCost_t (csOk_cons sameV_t (csOk_cons intactS_t (csOk_cons intactO_t (csOk_cons routeRuns_t csOk_nil))))))))))) routeDrives_ok
end Go.Eng
