/- A driver that begins later is at each stop no earlier. -/
import Derived.Test.YtadblcopmoiaaaaRouteLaterVc
import Derived.Test.YtadblcopmoiaaaaRouteMono
import Derived.Test.YtadblcopmoiaaaaRouteRuns
set_option linter.unusedVariables false
set_option linter.unusedSimpArgs false
namespace Go.Eng
open Go Go.Proofs
theorem routeLater_ok : routeLater_vc := by
  unfold routeLater_vc
  simp only [bad_false, int0, nilOf, decide_eq_true_eq, decide_eq_false_iff_not, Bool.not_eq_true', Bool.not_eq_false', Bool.not_true, Bool.not_false, Bool.false_eq_true, Bool.true_eq_false, eq_self, true_and, and_true, false_or, or_false, false_implies, true_implies, implies_true, Int.not_lt, Int.not_le, gt_iff_lt, ge_iff_le, ne_eq]
  intro w _ d ss hss r hg
  have loop : ∀ (l x : List Visit), l.length ≤ 80 → Later l x → ∃ (inv : Int → Prop) (μ : Int → Nat), inv 0 ∧ ∀ i : Int, inv i → i < l.length → ((0 ≤ i ∧ i < l.length) ∧ (0 ≤ i ∧ i < (x.length : Int)) ∧ i.toNat < l.length ∧ i.toNat < x.length ∧ (l.getD i.toNat (FK.zero .visit)).start ≤ (x.getD i.toNat (FK.zero .visit)).start ∧ (x.getD i.toNat (FK.zero .visit)).load = (l.getD i.toNat (FK.zero .visit)).load ∧ inv (wrap (i + 1)) ∧ μ (wrap (i + 1)) < μ i) := by
    intro l x h80 hl
    have he := hl.len
    refine ⟨fun i => 0 ≤ i, fun i => l.length - i.toNat, by omega, fun i hi h => ?_⟩
    obtain ⟨a1, a2⟩ := hl.at i.toNat (FK.zero .visit)
    rw [wrap_id (n := i + 1) (by omega) (by omega)]
    refine ⟨⟨hi, h⟩, ⟨hi, by omega⟩, by omega, by omega, a1, a2.symm, by omega, by dsimp only; omega⟩
  have few : ∀ m : Option MapD, ∀ d : Driver, (visR (drive m d w.orders ss)).length ≤ 80 := fun m d => by
    cases hg : good (fauR (drive m d w.orders ss)) with
    | true =>
      obtain ⟨x, vs, hx, hf, hr, hd⟩ := drive_good hg
      subst hx
      rw [hd]
      have := (driveGo_all hr).1
      have := (fitB_iff.1 hf).2.2
      show vs.length ≤ 80
      omega
    | false => rw [drive_bad hg]; exact Nat.zero_le _
  have none_bad : ∀ d : Driver, drive none d w.orders ss = .error ⟨0, 1⟩ := fun d => rfl
  refine ⟨fun h => ?_, fun h => ?_⟩
  · have hm : ∀ (x : MapD), none = some x → MapOk x := mapOkO_none
    simp only [eq_true hm, none_bad]
    simp [fauR, visR]
  · have hm := mapOkO_some h
    simp only [eq_true hm, true_and]
    have key := @drive_later ⟨w.n, w.times⟩ d r w.orders ss
    have bad1 := @drive_bad (some ⟨w.n, w.times⟩) d w.orders ss
    have bad2 := @drive_bad (some ⟨w.n, w.times⟩) ⟨d.id, d.room, d.home, r, d.hi, d.retired⟩ w.orders ss
    have f1 := few (some ⟨w.n, w.times⟩) d
    have why1 : (fauR (drive (some ⟨w.n, w.times⟩) d w.orders ss)).why = 1 → visR (drive (some ⟨w.n, w.times⟩) d w.orders ss) = [] := fun h => by
      apply bad1
      unfold good
      rw [h]
      rfl
    generalize drive (some ⟨w.n, w.times⟩) d w.orders ss = D at *
    generalize drive (some ⟨w.n, w.times⟩) ⟨d.id, d.room, d.home, r, d.hi, d.retired⟩ w.orders ss = X at *
    have lp1 := loop _ _ f1 (Later.refl (visR D))
    obtain ⟨inv, μ, q0, q1⟩ := lp1
    refine ⟨fun h => ?_, fun h => ⟨fun h1 => ⟨fun h2 => ⟨fun h3 => ?_, fun h3 => ?_⟩, fun h2 => ⟨fun h3 => ?_, fun h3 => ?_⟩⟩, fun h1 => ⟨fun h3 => ?_, fun h3 => ?_⟩⟩⟩
    · simp [why1 h]
    · simp [bad2 h3]
    · obtain ⟨g, hl⟩ := key (by omega) h h3
      obtain ⟨inv', μ', p0, p1⟩ := loop _ _ f1 hl
      simp only [g, true_implies, hl.len.symm, not_true_eq_false, false_implies, true_and, reduceCtorEq, and_true, Bool.true_eq_false]
      refine ⟨inv', μ', p0, fun i hi h => ?_⟩
      obtain ⟨c1, c2, c3, c4, c5, c6, c7, c8⟩ := p1 i hi h
      generalize (visR D).getD i.toNat (FK.zero .visit) = u at *
      generalize (visR X).getD i.toNat (FK.zero .visit) = v at *
      simp [c1, c2, c3, c4, c5, c6, c7, c8]
    · simp [bad1 h3]
    · simp only [h3, true_implies, not_true_eq_false, false_implies, true_and, reduceCtorEq, and_true, Bool.true_eq_false]
      refine ⟨inv, μ, q0, fun i hi h => ?_⟩
      obtain ⟨c1, c2, c3, c4, c5, c6, c7, c8⟩ := q1 i hi h
      simp [c1, c2, c3, c4, c5, c6, c7, c8]
    · simp [bad1 h3]
    · simp only [h3, true_implies, not_true_eq_false, false_implies, true_and, reduceCtorEq, and_true, Bool.true_eq_false]
      refine ⟨inv, μ, q0, fun i hi h => ?_⟩
      obtain ⟨c1, c2, c3, c4, c5, c6, c7, c8⟩ := q1 i hi h
      simp [c1, c2, c3, c4, c5, c6, c7, c8]
theorem routeLater_t : Told Try.prog 7 routeLater_con := routeLater_told (csOk_cons maps_t (csOk_cons drive_t (csOk_cons routeRuns_t (csOk_cons goodF_t csOk_nil)))) routeLater_ok
end Go.Eng
