/- Chapter 4's runs. -/
import Derived.Test.YtidneanbjijjjaaGeoRunsVc
set_option linter.unusedVariables false
set_option linter.unusedSimpArgs false
namespace Go.Eng
open Go Go.Proofs
theorem mapOk_of {n : Int} {l : List Int} (h : newE n l = 0) : MapOk ⟨n, l⟩ := newE_ok.1 h
theorem mapOkO_of {m : MapD} (h : MapOk m) : ∀ (x : MapD), some m = some x → MapOk x := fun x hx => by injection hx with hx; subst hx; exact h
theorem closed_even {m : MapD} (h : MapOk m) : even (some ⟨m.n, fw m.n.toNat m.l⟩) = true := even_iff.2 (fw_clos h.times h.diag').even
theorem geoRuns_ok : geoRuns_vc := by
  have m1 : ∀ (x : MapD), some ⟨2, [0, 5, 7, 0]⟩ = some x → MapOk x := mapOkO_some (by decide)
  have k2 : MapOk ⟨3, [0, 9, 2, 9, 0, 9, 9, 3, 0]⟩ := mapOk_of (by decide)
  have m2 : ∀ (x : MapD), some ⟨3, [0, 9, 2, 9, 0, 9, 9, 3, 0]⟩ = some x → MapOk x := mapOkO_of k2
  have m3 : ∀ (x : MapD), some ⟨3, fw (Int.toNat 3) [0, 9, 2, 9, 0, 9, 9, 3, 0]⟩ = some x → MapOk x := mapOkO_of (closed_ok' k2)
  unfold geoRuns_vc
  simp only [bad_false, int0, nilOf, decide_eq_true_eq, decide_eq_false_iff_not, Bool.not_eq_true', Bool.not_eq_false', Bool.not_true, Bool.not_false, Bool.false_eq_true, Bool.true_eq_false, eq_self, true_and, and_true, false_or, or_false, false_implies, true_implies, implies_true, Int.not_lt, Int.not_le, gt_iff_lt, ge_iff_le, ne_eq, eq_true m1, eq_true m2, eq_true m3]
  have t1 : mtime (some ⟨2, [0, 5, 7, 0]⟩) 0 1 = (5, true) := by kernel_rfl
  have t2 : mtime (some ⟨2, [0, 5, 7, 0]⟩) 1 0 = (7, true) := by kernel_rfl
  have t3 : mtime (some ⟨2, [0, 5, 7, 0]⟩) 2 0 = (0, false) := by kernel_rfl
  have t4 : mtime (some ⟨3, fw (Int.toNat 3) [0, 9, 2, 9, 0, 9, 9, 3, 0]⟩) 0 1 = (5, true) := by kernel_rfl
  have n1 : newE 0 [] = 1 := by kernel_rfl
  have n2 : newE 2 [0] = 2 := by kernel_rfl
  have n3 : newE 1 [1] = 4 := by kernel_rfl
  have n4 : newE 1 [-1] = 7 := by kernel_rfl
  have n5 : newE 13 [] = 1 := by kernel_rfl
  have e1 : even (some ⟨3, [0, 9, 2, 9, 0, 9, 9, 3, 0]⟩) = false := by
    refine even_not (a := 0) (b := 2) (d := 1) (by decide) (by decide) (by decide) ?_
    unfold tri
    decide
  have e2 : even (some ⟨3, fw (Int.toNat 3) [0, 9, 2, 9, 0, 9, 9, 3, 0]⟩) = true := closed_even k2
  simp only [t1, t2, t3, t4, n1, n2, n3, n4, n5, e1, e2]
  simp
theorem geoRuns_t : Told Try.prog 9 yes_con := geoRuns_told (csOk_cons newC_t (csOk_cons time_t (csOk_cons closed_t (csOk_cons even_t csOk_nil)))) geoRuns_ok
end Go.Eng
