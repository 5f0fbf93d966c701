/- Whoever makes the stops at times that are let begins none earlier. -/
import Derived.Test.YtadblcopmoiaaaaRouteEarlyVc
import Derived.Test.YtadblcopmoiaaaaRouteSoon
import Derived.Test.YtadblcopmoiaaaaRouteSite
set_option linter.unusedVariables false
set_option linter.unusedSimpArgs false
namespace Go.Eng
open Go Go.Proofs
theorem routeEarly_ok : routeEarly_vc := by
  unfold routeEarly_vc
  simp only [bad_false, int0, nilOf, decide_eq_true_eq, decide_eq_false_iff_not, Bool.not_eq_true', Bool.not_eq_false', Bool.not_true, Bool.not_false, Bool.false_eq_true, Bool.true_eq_false, eq_self, true_and, and_true, false_or, or_false, false_implies, true_implies, implies_true, Int.not_lt, Int.not_le, gt_iff_lt, ge_iff_le, ne_eq]
  intro w how d ss hss ws hws hg
  refine ⟨fun h => ?_, fun h => ?_⟩
  · have hm : ∀ (x : MapD), none = some x → MapOk x := mapOkO_none
    have hd : drive none d w.orders ss = .error ⟨0, 1⟩ := rfl
    simp only [eq_true hm, hd]
    simp [fauR, visR]
  · have hm := mapOkO_some h
    have hmap := newE_ok.1 h
    simp only [eq_true hm, true_and]
    have hbad : good (fauR (drive (some ⟨w.n, w.times⟩) d w.orders ss)) = false → visR (drive (some ⟨w.n, w.times⟩) d w.orders ss) = [] := fun h => by
      cases hr : drive (some ⟨w.n, w.times⟩) d w.orders ss with
      | ok vs => rw [hr] at h; cases h
      | error f => rfl
    have hfit : (fauR (drive (some ⟨w.n, w.times⟩) d w.orders ss)).why = 0 ∨ (fauR (drive (some ⟨w.n, w.times⟩) d w.orders ss)).why = 15 → fitB (some ⟨w.n, w.times⟩) d w.orders ss = true := fun h => by
      cases hf : fitB (some ⟨w.n, w.times⟩) d w.orders ss with
      | true => rfl
      | false =>
        rw [drive_unfit hf] at h
        rcases h with h | h <;> cases h
    generalize hM : (⟨w.n, w.times⟩ : MapD) = m at *
    have hDr : ∀ hf : fitB (some m) d w.orders ss = true, drive (some m) d w.orders ss = driveT m d w.orders ss := fun hf => drive_fit hf
    generalize hD : drive (some m) d w.orders ss = D at *
    generalize w.orders = os at *
    refine ⟨fun h0 => ⟨fun h15 => ?_, fun h15 => ?_⟩, fun h0 => ?_⟩
    · simp [hbad (by simp [good, h0])]
    all_goals
      have hwhy : (fauR D).why = 0 ∨ (fauR D).why = 15 := by first | exact .inl h0 | exact .inr h15
      have hf := hfit hwhy
      obtain ⟨f1, f2, f3⟩ := fitB_iff.1 hf
      have dok := driverE_ok f1
      have hwin := dok.win
      have hgo0 : driveGo m d os [] ss ⟨d.lo, d.home, 0⟩ = D := (hDr hf).symm
      refine ⟨fun at' left k => 0 ≤ k ∧ k ≤ ss.length ∧ (0 ≤ at' ∧ at' < m.n) ∧ (0 ≤ left ∧ left ≤ 1000000) ∧ Behind m d os ss D at' left k.toNat, fun _ _ k => ss.length - k.toNat, ?_, fun at' left k hi => ⟨fun hk => ?_, fun hk => ?_⟩⟩
      · refine ⟨by omega, by omega, dok.home, by omega, ⟨d.lo, d.home, 0⟩, rfl, Int.le_refl _, ?_⟩
        show driveGo m d os [] ss ⟨d.lo, d.home, 0⟩ = _
        rw [hgo0]
        cases D <;> rfl
      · obtain ⟨k0, k1, a0, l0, hb⟩ := hi
        obtain ⟨e1, e2, e3⟩ := next_ix (d := FK.zero .stop) hss.le k0 hk
        have kn : k.toNat < ss.length := by omega
        refine ⟨⟨k0, hk⟩, kn, fun hf0 hw0 => ?_, fun hfind => ?_⟩
        · cases D with
          | error f => exact absurd hw0 (driveGo_why hgo0)
          | ok vs =>
            have := (driveGo_all hgo0).2 _ (show ss.getD k.toNat (FK.zero .stop) ∈ ss by rw [getD_of kn]; exact List.getElem_mem _)
            rw [this] at hf0
            cases hf0
        · have step := fun b => behind_step (b := b) f2 kn hfind hb hwhy
          obtain ⟨ho, _, _⟩ := fo_ok f2 hfind
          rw [e1]
          generalize ss.getD k.toNat (FK.zero .stop) = s at *
          have hst : SiteOk m (stopSite os s) := siteOf_ok ho s.drop
          have hsw := siteWin f2 hfind
          have hmt : mtime (some m) at' (stopSite os s).pl = (tm m at' (stopSite os s).pl, true) := mtime_in a0.1 a0.2 hst.pl.1 hst.pl.2
          have htm := tm_bound hmap at' (stopSite os s).pl
          have hsv := hst.sv
          have hpl := hst.pl
          rw [hmt]
          dsimp only
          generalize tm m at' (stopSite os s).pl = T at *
          rw [wrap_id (n := left + T) (by omega) (by omega)]
          refine ⟨fun b => left + T ≤ b ∧ (stopSite os s).lo ≤ b ∧ b ≤ 2000000, ⟨fun _ => ⟨by omega, by omega, by omega⟩, fun _ => ⟨by omega, by omega, by omega⟩⟩, fun b1 hb1 => ⟨fun b => left + T ≤ b ∧ (stopSite os s).lo ≤ b ∧ b ≤ 3000000, ⟨fun hl => ⟨⟨k0, hl⟩, by omega, fun hp => ⟨⟨k0, hl⟩, by omega, fun hq => ⟨⟨k0, hl⟩, by omega, ?_⟩, fun hq => ⟨hb1.1, hb1.2.1, by omega⟩⟩, fun hp => ⟨hb1.1, hb1.2.1, by omega⟩⟩, fun hl => ⟨hb1.1, hb1.2.1, by omega⟩⟩, fun b hb2 hhi hlv => ?_⟩⟩
          · generalize ws.getD k.toNat 0 = x at *
            obtain ⟨q1, q2, q3⟩ := hb1
            rw [wrap_id (n := b1 + x) (by omega) (by omega)]
            exact ⟨by omega, by omega, by omega⟩
          · obtain ⟨q1, q2, q3⟩ := hb2
            rw [wrap_id (n := b + (stopSite os s).sv) (by omega) (by omega)] at hlv ⊢
            obtain ⟨s1, s2, s3⟩ := step b q1 q2 hhi hlv
            have hnext : (0 ≤ k + 1 ∧ k + 1 ≤ (ss.length : Int) ∧ (0 ≤ (stopSite os s).pl ∧ (stopSite os s).pl < m.n) ∧ (0 ≤ b + (stopSite os s).sv ∧ b + (stopSite os s).sv ≤ 1000000) ∧ Behind m d os ss D (stopSite os s).pl (b + (stopSite os s).sv) (k + 1).toNat) := ⟨by omega, by omega, hpl, by omega, by rw [e2]; exact s1⟩
            have hμ : ss.length - (k + 1).toNat < ss.length - k.toNat := by omega
            repeat' (first | exact hnext | exact hμ | apply And.intro | intro _)
            all_goals first | omega | (have := s3 (by assumption); omega) | (have := s2 (by assumption); omega)
      · obtain ⟨k0, k1, a0, l0, hb⟩ := hi
        have := behind_end (by omega) hb hwhy
        intro hn
        exact absurd this hn
theorem routeEarly_t : Told Try.prog 6 routeEarly_con := routeEarly_told (csOk_cons maps_t (csOk_cons drive_t (csOk_cons routeRuns_t (csOk_cons lsite_t (csOk_cons time_t csOk_nil))))) routeEarly_ok
end Go.Eng
