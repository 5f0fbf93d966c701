/- The visits that are told are the stops, each as the map and the times let. -/
import Derived.Test.YtadblcopmoiaaaaRouteVisitsVc
import Derived.Test.YtadblcopmoiaaaaRouteApart
import Derived.Test.YtadblcopmoiaaaaRouteCut
import Derived.Test.YtadblcopmoiaaaaRouteSite
set_option linter.unusedVariables false
set_option linter.unusedSimpArgs false
namespace Go.Eng
open Go Go.Proofs
theorem tryStop_made {m : MapD} {d : Driver} {os : List Order} {ahead : List Stop} {s : Stop} {p : Pos} {v : Visit} (h : tryStop m d os ahead s p = .ok v) :
    wrongE os ahead s = 0 ∧ loadOf os s p.load ≤ d.room ∧ ∃ b, served m p.pos p.now (stopSite os s) d.hi = some b ∧ v = ⟨s.order, s.drop, p.now + tm m p.pos (stopSite os s).pl, b.1, b.2, loadOf os s p.load⟩ := by
  unfold tryStop at h
  split at h
  · cases h
  · rename_i hw
    split at h
    · cases h
    · rename_i hr
      split at h
      · cases h
      · rename_i b hb
        injection h with h
        exact ⟨by simpa using hw, by omega, b, hb, h.symm⟩
theorem driveGo_cons {m : MapD} {d : Driver} {os : List Order} {ahead l : List Stop} {s : Stop} {p : Pos} {xs : List Visit} (h : driveGo m d os ahead (s :: l) p = .ok xs) : ∃ v ys, xs = v :: ys ∧ tryStop m d os ahead s p = .ok v ∧ driveGo m d os (ahead ++ [s]) l (after os s v) = .ok ys := by
  unfold driveGo at h
  split at h
  · cases h
  · rename_i v hv
    split at h
    · cases h
    · rename_i ys hys
      injection h with h
      exact ⟨v, ys, h.symm, hv, hys⟩
theorem drop_cons {α : Type} {xs ys : List α} {k : Nat} {v z : α} (h : xs.drop k = v :: ys) : xs.getD k z = v ∧ xs.drop (k + 1) = ys := by
  constructor
  · rw [List.getD_eq_getElem?_getD]
    have : (xs.drop k)[0]? = xs[k]? := by rw [List.getElem?_drop, Nat.add_zero]
    rw [← this, h]
    rfl
  · rw [← List.drop_drop, h]
    rfl
theorem take_step {ss : List Stop} {k : Nat} (h : k < ss.length) (z : Stop) : ss.take (k + 1) = ss.take k ++ [ss.getD k z] := by
  rw [List.take_succ_eq_append_getElem h, getD_of h]
theorem routeVisits_ok : routeVisits_vc := by
  unfold routeVisits_vc
  simp only [bad_false, int0, nilOf, decide_eq_true_eq, decide_eq_false_iff_not, Bool.not_eq_true', Bool.not_eq_false', Bool.not_true, Bool.not_false, Bool.false_eq_true, Bool.true_eq_false, eq_self, true_and, and_true, false_or, or_false, false_implies, true_implies, implies_true, Int.not_lt, Int.not_le, gt_iff_lt, ge_iff_le, ne_eq]
  intro w how d ss hss hg
  have hsl := hss.le
  refine ⟨fun h => ?_, fun h => ?_⟩
  · have hm : ∀ (x : MapD), none = some x → MapOk x := mapOkO_none
    have hd : drive none d w.orders ss = .error ⟨0, 1⟩ := rfl
    simp only [eq_true hm, hd]
    simp [fauR, visR, good]
  · have hm := mapOkO_some h
    have hmap := newE_ok.1 h
    simp only [eq_true hm, true_and]
    have hcut := drive_cut ⟨w.n, w.times⟩ d w.orders ss
    have hbad : good (fauR (drive (some ⟨w.n, w.times⟩) d w.orders ss)) = false → visR (drive (some ⟨w.n, w.times⟩) d w.orders ss) = [] := fun h => by
      cases hr : drive (some ⟨w.n, w.times⟩) d w.orders ss with
      | ok vs => rw [hr] at h; cases h
      | error f => rfl
    have hcost := @cost_good ⟨w.n, w.times⟩ d w.orders ss
    have hgood := @drive_good (some ⟨w.n, w.times⟩) d w.orders ss
    generalize hM : (⟨w.n, w.times⟩ : MapD) = m at *
    generalize hD : drive (some m) d w.orders ss = D at *
    generalize w.orders = os at *
    refine ⟨fun hb => ?_, fun hb => ?_⟩
    · rw [hbad hb]
      rcases hcut with h | h | h | ⟨j, e, h1, h2, h3, _⟩
      · rw [hb] at h; cases h
      · simp [h]
      · simp [h]
      · simp [h3]
        omega
    · obtain ⟨x, vs, hx, hf, hr, hok⟩ := hgood hb
      injection hx with hx
      subst hx
      obtain ⟨f1, f2, f3⟩ := fitB_iff.1 hf
      have dok := driverE_ok f1
      have hvl := (driveGo_all hr).1
      have hvis : visR D = vs := by rw [hok]; rfl
      have hsz : ∀ o ∈ os, 0 ≤ o.size := fun o ho => by have := (known_ok_of f2 o ho).size; omega
      rw [hvis, hcost hb]
      simp only [hvl, not_true_eq_false, false_implies, true_and, true_implies]
      refine ⟨fun at' left load cost k => 0 ≤ k ∧ k ≤ ss.length ∧ (0 ≤ at' ∧ at' < m.n) ∧ (0 ≤ left ∧ left ≤ 1000000) ∧ (0 ≤ cost ∧ cost ≤ k * 1000000) ∧ way m d os ss = cost + wayGo m os at' (ss.drop k.toNat) ∧ load ≤ d.room ∧ load = carried (ss.take k.toNat) os ∧ Paired (ss.take k.toNat) ∧ driveGo m d os (ss.take k.toNat) (ss.drop k.toNat) ⟨left, at', load⟩ = .ok (vs.drop k.toNat),
        fun _ _ _ _ k => ss.length - k.toNat, ?_, fun at' left load cost k hi => ⟨fun hk => ?_, fun hk => ?_⟩⟩
      · have := dok.room
        have := dok.win
        refine ⟨by omega, by omega, dok.home, by omega, by omega, ?_, by omega, (carried_nil os).symm, fun id h => (by cases h), hr⟩
        unfold way
        rw [Int.zero_add]
        rfl
      · obtain ⟨k0, k1, a0, l0, c0, hway, hroom, hload, hpair, hgo⟩ := hi
        obtain ⟨e1, e2, e3⟩ := next_ix (d := FK.zero .stop) hsl k0 hk
        have kn : k.toNat < ss.length := by omega
        have et := take_step kn (FK.zero .stop)
        rw [e3] at hgo hway
        obtain ⟨v, ys, hv1, hv2, hv3⟩ := driveGo_cons hgo
        obtain ⟨g1, g2⟩ := drop_cons (z := FK.zero .visit) hv1
        obtain ⟨t1, t2, b, t3, t4⟩ := tryStop_made hv2
        obtain ⟨q1, q2, q3, q4, q5⟩ := served_spec t3
        obtain ⟨p1, p2⟩ := load_step f2 t1 hpair hload
        rw [← et] at p1 p2 hv3
        rw [← g2] at hv3
        rw [e1, g1]
        generalize hs : ss.getD k.toNat (FK.zero .stop) = s at *
        have hfind := wrongE_some t1
        obtain ⟨ho, _, _⟩ := fo_ok f2 hfind
        have hst : SiteOk m (stopSite os s) := siteOf_ok ho s.drop
        have hmt : mtime (some m) at' (stopSite os s).pl = (tm m at' (stopSite os s).pl, true) := mtime_in a0.1 a0.2 hst.pl.1 hst.pl.2
        have htm := tm_bound hmap at' (stopSite os s).pl
        have hsize := ho.size
        have hroom' := dok.room
        have hwin := dok.win
        have hcp := carried_pos (ahead := ss.take k.toNat) hsz
        have hcp' := carried_pos (ahead := ss.take (k.toNat + 1)) hsz
        have hsv := hst.sv
        have hway' : way m d os ss = cost + (tm m at' (stopSite os s).pl + wayGo m os (stopSite os s).pl (ss.drop (k.toNat + 1))) := hway
        subst t4
        obtain ⟨b1, b2⟩ := b
        dsimp only at t2 q2 q3 q4 q5 ⊢
        have hgo' : driveGo m d os (ss.take (k.toNat + 1)) (ss.drop (k.toNat + 1)) ⟨b2, (stopSite os s).pl, loadOf os s load⟩ = .ok (vs.drop (k.toNat + 1)) := hv3
        rw [← e2] at p1 p2 hway' hgo' hcp'
        have hpl := hst.pl
        clear hv3 hv2 hv1 hgo g1 g2 hgood hcost hcut hbad hway et e3
        have w1 : wrap (left + tm m at' (stopSite os s).pl) = left + tm m at' (stopSite os s).pl := wrap_id (by omega) (by omega)
        have w2 : wrap (b1 + (stopSite os s).sv) = b2 := by rw [wrap_id (by omega) (by omega)]; omega
        have w3 : wrap (cost + tm m at' (stopSite os s).pl) = cost + tm m at' (stopSite os s).pl := wrap_id (by omega) (by omega)
        have f1 : (decide (s.order = s.order) && (s.drop == s.drop && true)) = true := by simp
        simp only [f1, hfind, hmt, w1, w2, w3, true_and, and_true, true_implies, reduceCtorEq, false_implies, not_true_eq_false, Bool.true_eq_false]
        generalize tm m at' (stopSite os s).pl = T at *
        cases hdrop : s.drop with
        | false =>
          have hL : loadOf os s load = load + (fo os s.order).size := by simp [loadOf, hdrop]
          rw [hL] at t2 p2 hgo' ⊢
          have w4 : wrap (load + (fo os s.order).size) = load + (fo os s.order).size := wrap_id (by omega) (by omega)
          simp only [w4, true_and, and_true, true_implies, reduceCtorEq, false_implies, not_true_eq_false, Bool.true_eq_false, Bool.false_eq_true]
          repeat' (first | exact p1 | apply And.intro | intro _)
          all_goals first | omega | assumption | (rename_i hx; simp at hx)
        | true =>
          have hL : loadOf os s load = load - (fo os s.order).size := by simp [loadOf, hdrop]
          rw [hL] at t2 p2 hgo' ⊢
          have w4 : wrap (load - (fo os s.order).size) = load - (fo os s.order).size := wrap_id (by omega) (by omega)
          simp only [w4, true_and, and_true, true_implies, reduceCtorEq, false_implies, not_true_eq_false, Bool.true_eq_false, Bool.false_eq_true]
          repeat' (first | exact p1 | apply And.intro | intro _)
          all_goals first | omega | assumption | (rename_i hx; simp at hx)
      · obtain ⟨k0, k1, a0, l0, c0, hway, hroom, hload, hpair, hgo⟩ := hi
        rw [end_ix hk] at hgo hway
        have hcp := carried_pos (ahead := ss.take k.toNat) hsz
        have hl0 : ¬ 0 < load := fun hh => by
          unfold driveGo at hgo
          rw [if_pos hh] at hgo
          cases hgo
        have hl : load = 0 := by omega
        have hc : way m d os ss = cost := by rw [hway, wayGo, Int.add_zero]
        simp [hl, hc]
theorem routeVisits_t : Told Try.prog 5 routeVisits_con := routeVisits_told (csOk_cons maps_t (csOk_cons drive_t (csOk_cons goodF_t (csOk_cons routeRuns_t (csOk_cons lsite_t (csOk_cons time_t (csOk_cons cost_t csOk_nil))))))) routeVisits_ok
end Go.Eng
