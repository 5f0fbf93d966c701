/- Chapter 11's runs. -/
import Derived.Test.YtkokggepghghdaaAuditRunsVc
set_option linter.unusedVariables false
set_option linter.unusedSimpArgs false
namespace Go.Eng
open Go Go.Proofs
theorem auditA_in {m : MapD} {ds : List Driver} {os : List Order} {p : List Route} (h : wellP (some m) ds os p = true) : auditA (some m) ds os p = p.flatMap (routeA m ds os) ++ missA p os := by simp [auditA, h]
theorem auditRuns_ok : auditRuns_vc := by
  have hm : ∀ (x : MapD), some ⟨2, [0, 5, 7, 0]⟩ = some x → MapOk x := mapOkO_some (by decide)
  have rA : ∀ b c, b ≠ c → ∀ v : Int, (v = 0 ∨ v = 1) → rightP [⟨4, v, [⟨1, b⟩, ⟨1, c⟩]⟩] = true := fun b c hbc v hv => rightP_iff.2 ⟨by simp, by simp [okR, okR1, okS]; refine ⟨by omega, by cases b <;> cases c <;> simp at hbc ⊢⟩⟩
  have r0 : rightP [] = true := rightP_iff.2 ⟨by decide, trivial⟩
  have kO : knownO (some ⟨2, [0, 5, 7, 0]⟩) [⟨1, 3, 0, 2, 9, 1, 1, 0, 20, 2⟩] = true := by kernel_rfl
  have kN : knownO (some ⟨2, [0, 5, 7, 0]⟩) [] = true := by kernel_rfl
  have dO : okD (some ⟨2, [0, 5, 7, 0]⟩) [⟨4, 3, 1, 1, 30, false⟩] 0 = true := by kernel_rfl
  have dl : ∀ k, k < [(⟨4, 3, 1, 1, 30, false⟩ : Driver)].length → okD (some ⟨2, [0, 5, 7, 0]⟩) [⟨4, 3, 1, 1, 30, false⟩] k = true := fun k hk => by
    have : k = 0 := by simpa using hk
    rw [this]; exact dO
  have a1 : auditA (some ⟨2, [0, 5, 7, 0]⟩) [⟨4, 3, 1, 1, 30, false⟩] [⟨1, 3, 0, 2, 9, 1, 1, 0, 20, 2⟩] [⟨4, 0, [⟨1, false⟩, ⟨1, true⟩]⟩] = [] := by
    rw [auditA_in (wellP_iff.2 ⟨rfl, by decide, kO, rA _ _ (by decide) 0 (.inl rfl), dl⟩)]; kernel_rfl
  have a2 : auditA (some ⟨2, [0, 5, 7, 0]⟩) [⟨4, 3, 1, 1, 30, false⟩] [⟨1, 3, 0, 2, 9, 1, 1, 0, 20, 2⟩] [⟨4, 0, [⟨1, true⟩, ⟨1, false⟩]⟩] = [⟨4, 1, 17⟩, ⟨4, 1, 15⟩, ⟨4, 1, 18⟩] := by
    rw [auditA_in (wellP_iff.2 ⟨rfl, by decide, kO, rA _ _ (by decide) 0 (.inl rfl), dl⟩)]; kernel_rfl
  have a3 : auditA (some ⟨2, [0, 5, 7, 0]⟩) [⟨4, 3, 1, 1, 30, false⟩] [⟨1, 3, 0, 2, 9, 1, 1, 0, 20, 2⟩] [] = [⟨0, 1, 19⟩] := by
    rw [auditA_in (wellP_iff.2 ⟨rfl, by decide, kO, r0, dl⟩)]; kernel_rfl
  have a4 : auditA (some ⟨2, [0, 5, 7, 0]⟩) [] [⟨1, 3, 0, 2, 9, 1, 1, 0, 20, 2⟩] [⟨4, 0, [⟨1, false⟩, ⟨1, true⟩]⟩] = [⟨4, 0, 8⟩] := by
    rw [auditA_in (wellP_iff.2 ⟨rfl, by decide, kO, rA _ _ (by decide) 0 (.inl rfl), fun k hk => by simp at hk⟩)]; kernel_rfl
  have a5 : auditA (some ⟨2, [0, 5, 7, 0]⟩) [⟨4, 3, 1, 1, 30, false⟩] [] [⟨4, 0, [⟨1, false⟩, ⟨1, true⟩]⟩] = [⟨4, 1, 8⟩, ⟨4, 1, 8⟩] := by
    rw [auditA_in (wellP_iff.2 ⟨rfl, by decide, kN, rA _ _ (by decide) 0 (.inl rfl), dl⟩)]; kernel_rfl
  have k1 : keptP [⟨4, 0, [⟨1, false⟩, ⟨1, true⟩]⟩] [⟨4, 0, [⟨1, false⟩, ⟨1, true⟩]⟩] = true := keptP_iff.2 ⟨rightP_iff.1 (rA _ _ (by decide) 0 (.inl rfl)), rightP_iff.1 (rA _ _ (by decide) 0 (.inl rfl)), by simp [routed], by simp [keptR, routed]⟩
  have k2 : keptP [⟨4, 1, [⟨1, false⟩, ⟨1, true⟩]⟩] [⟨4, 0, [⟨1, false⟩, ⟨1, true⟩]⟩] = false := (kept_no fun h => by have := h.2.2.2; simp [keptR, routed] at this).symm
  have k3 : keptP [⟨4, 0, [⟨1, false⟩, ⟨1, true⟩]⟩] [⟨4, 1, [⟨1, false⟩, ⟨1, true⟩]⟩] = false := (kept_no fun h => by have := h.2.2.2; simp [keptR, routed] at this).symm
  unfold auditRuns_vc
  simp only [bad_false, int0, nilOf, decide_eq_true_eq, decide_eq_false_iff_not, Bool.not_eq_true', Bool.not_eq_false', Bool.not_true, Bool.not_false, Bool.false_eq_true, Bool.true_eq_false, eq_self, true_and, and_true, false_or, or_false, false_implies, true_implies, implies_true, Int.not_lt, Int.not_le, gt_iff_lt, ge_iff_le, ne_eq, eq_true hm]
  simp [a1, a2, a3, a4, a5, k1, k2, k3, same_self]
theorem auditRuns_t : Told Try.prog 3 yes_con := auditRuns_told (csOk_cons newC_t (csOk_cons audit_t (csOk_cons sameT_t (csOk_cons akept_t csOk_nil)))) auditRuns_ok
end Go.Eng
