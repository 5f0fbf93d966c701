/- What is told of a plan: the statement. -/
import Derived.Test.YtkokggepghghdaaAuditTellsVc
import Derived.Test.YtkokggepghghdaaAuditRuns
set_option linter.unusedVariables false
set_option linter.unusedSimpArgs false
namespace Go.Eng
open Go Go.Proofs
theorem auditA_few {m : Option MapD} {ds : List Driver} {os : List Order} {p : List Route} : (auditA m ds os p).length ≤ 100000 := by
  cases m with
  | none => exact Nat.le_of_lt (by simp [auditA])
  | some m =>
    by_cases h : wellP (some m) ds os p = true
    · rw [auditA_in h, List.length_append]
      obtain ⟨_, _, hk, hr, _⟩ := wellP_iff.1 h
      have hR := rightP_iff.1 hr
      have h1 : (missA p os).length ≤ os.length := by
        unfold missA
        generalize os = l
        induction l with
        | nil => simp
        | cons o l ih =>
          rw [List.flatMap_cons, List.length_append, List.length_cons]
          have : (if (findP o.id p).isNone = true then [(⟨0, o.id, 19⟩ : Trouble)] else []).length ≤ 1 := by split <;> simp
          omega
      have h2 : ∀ l : List Route, (∀ r ∈ l, r.stops.length ≤ 80) → (l.flatMap (routeA m ds os)).length ≤ 240 * l.length + l.length := by
        intro l
        induction l with
        | nil => simp
        | cons r l ih =>
          intro hl
          have := ih fun r hr => hl r (by simp [hr])
          have hr := hl r (by simp)
          rw [List.flatMap_cons, List.length_append, List.length_cons]
          have : (routeA m ds os r).length ≤ 241 := by
            unfold routeA
            split
            · simp
            · have := alongA_length (m := m) (d := by assumption) (os := os) (ss := r.stops); omega
          omega
      have := h2 p fun r hr => (okR_mem hR.2 r hr).2.2.1
      have := (known_at hk).1
      have := hR.1
      omega
    · simp [auditA, h]
theorem auditTells_ok : auditTells_vc := by
  unfold auditTells_vc
  simp only [bad_false, int0, nilOf, decide_eq_true_eq, decide_eq_false_iff_not, Bool.not_eq_true', Bool.not_eq_false', Bool.not_true, Bool.not_false, Bool.false_eq_true, Bool.true_eq_false, eq_self, true_and, and_true, false_or, or_false, false_implies, true_implies, implies_true, Int.not_lt, Int.not_le, gt_iff_lt, ge_iff_le, ne_eq]
  intro w hw hg
  have hz : w.plan.length * 40 ≤ 140737488351232 ∧ ∀ (r : Route), List.Mem r w.plan → r.stops.length * 16 ≤ 140737488351232 := by
    have := hg.is.2
    simp only [AV.szd, SK.enc, List.forall_mem_cons] at this
    exact this.2.2.2.2.1
  have key : ∀ A : List Trouble, A.length ≤ 100000 → ∃ (inv : Int → List Trouble → Prop) (μ : Int → List Trouble → Nat), inv 0 A ∧ ∀ (i : Int) (l : List Trouble), inv i l →
      (i < (l.length : Int) → (0 ≤ i ∧ i < (l.length : Int)) ∧ i.toNat < l.length ∧ inv (wrap (i + 1)) (l.set i.toNat ⟨-1, wrap (-i), 0⟩) ∧ μ (wrap (i + 1)) (l.set i.toNat ⟨-1, wrap (-i), 0⟩) < μ i l) := by
    intro A hA
    refine ⟨fun i l => 0 ≤ i ∧ l.length = A.length, fun i l => l.length - i.toNat, ⟨by omega, rfl⟩, fun i l hi h => ?_⟩
    obtain ⟨i0, i1⟩ := hi
    rw [wrap_id (n := i + 1) (by omega) (by omega)]
    refine ⟨⟨i0, h⟩, by omega, ⟨by omega, by rw [List.length_set]; exact i1⟩, ?_⟩
    dsimp only
    rw [List.length_set]
    omega
  have sp : sameP w.plan w.plan = true := sameP_iff.2 rfl
  simp only [same_self, sp]
  refine ⟨fun h => ?_, fun h => ?_⟩
  · obtain ⟨inv, μ, k0, k1⟩ := key _ (auditA_few (m := none) (ds := w.drivers) (os := w.orders) (p := w.plan))
    have hm : ∀ (x : MapD), none = some x → MapOk x := mapOkO_none
    refine ⟨hz, hm, hm, hm, fun _ => ⟨fun h => (by cases h), fun _ => ⟨inv, μ, k0, fun i l hi => ⟨k1 i l hi, fun _ => ⟨fun _ h => (by cases h), fun h => (by cases h)⟩⟩⟩⟩, fun h => (by cases h)⟩
  · obtain ⟨inv, μ, k0, k1⟩ := key _ (auditA_few (m := some ⟨w.n, w.times⟩) (ds := w.drivers) (os := w.orders) (p := w.plan))
    have hm := mapOkO_some h
    refine ⟨hz, hm, hm, hm, fun _ => ⟨fun h => (by cases h), fun _ => ⟨inv, μ, k0, fun i l hi => ⟨k1 i l hi, fun _ => ⟨fun _ h => (by cases h), fun h => (by cases h)⟩⟩⟩⟩, fun h => (by cases h)⟩
theorem auditTells_t : Told Try.prog 4 auditTells_con := auditTells_told (csOk_cons maps_t (csOk_cons kcopy_t (csOk_cons audit_t (csOk_cons rAudit_t (csOk_cons sameT_t (csOk_cons kroutes_t (csOk_cons auditRuns_t csOk_nil))))))) auditTells_ok
end Go.Eng
