/- Where a stop is, by the orders. -/
import Derived.Test.YtadblcopmoiaaaaRouteRuns
set_option linter.unusedVariables false
set_option linter.unusedSimpArgs false
namespace Go.Eng
open Go Go.Proofs
theorem lsite_ok : lsite_vc := by
  unfold lsite_vc
  simp only [bad_false, int0, nilOf, decide_eq_true_eq, decide_eq_false_iff_not, Bool.not_eq_true', Bool.not_eq_false', Bool.not_true, Bool.not_false, Bool.false_eq_true, Bool.true_eq_false, eq_self, true_and, and_true, false_or, or_false, false_implies, true_implies, implies_true, Int.not_lt, Int.not_le, gt_iff_lt, ge_iff_le, ne_eq]
  intro os hos s
  refine ⟨fun i => 0 ≤ i ∧ i ≤ os.length ∧ findO os s.order = findO (os.drop i.toNat) s.order, fun i => os.length - i.toNat, ⟨by omega, by omega, rfl⟩, fun i hi => ⟨fun h => ?_, fun h => ?_⟩⟩
  · obtain ⟨i0, i1, hR⟩ := hi
    obtain ⟨e1, e2, e3⟩ := next_ix (d := FK.zero .order) hos.le i0 h
    rw [e3] at hR
    have hin : i.toNat < os.length := by omega
    rw [e1]
    generalize os.getD i.toNat (FK.zero .order) = o at *
    have hc : findO (o :: os.drop (i.toNat + 1)) s.order = if o.id = s.order then some o else findO (os.drop (i.toNat + 1)) s.order := rfl
    by_cases he : o.id = s.order
    · rw [hc, if_pos he] at hR
      have hfo : fo os s.order = o := by unfold fo; rw [hR]; rfl
      have hst : stopSite os s = siteOf o s.drop := by unfold stopSite; rw [hfo]
      cases hd : s.drop <;> simp [he, h, i0, hin, hfo, hst, hR, siteOf, hd, Order.pick, Order.drop]
    · rw [hc, if_neg he] at hR
      have k : (0 ≤ i + 1 ∧ i + 1 ≤ (os.length : Int) ∧ findO os s.order = findO (os.drop (i + 1).toNat) s.order) := ⟨by omega, by omega, by rw [e2]; exact hR⟩
      have kμ : os.length - (i + 1).toNat < os.length - i.toNat := by omega
      cases hd : s.drop <;> simp only [he, h, i0, hin, hd, false_implies, true_implies, true_and, and_true, not_false_eq_true, Bool.false_eq_true, reduceCtorEq] <;> first | exact ⟨k, kμ⟩ | grind
  · have hR := hi.2.2
    rw [end_ix h] at hR
    have hn : findO os s.order = none := hR
    have hfo : fo os s.order = FK.zero .order := by unfold fo; rw [hn]; rfl
    have hst : stopSite os s = siteOf (FK.zero .order) s.drop := by unfold stopSite; rw [hfo]
    rw [hfo, hst, hn]
    refine ⟨⟨rfl, rfl, rfl, rfl, rfl, rfl, rfl, rfl, rfl, rfl⟩, ?_, rfl⟩
    cases s.drop <;> exact ⟨rfl, rfl, rfl, rfl⟩
theorem lsite_t : Told Try.prog 22 lsite_con := lsite_told csOk_nil lsite_ok
end Go.Eng
