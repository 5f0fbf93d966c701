/- Nothing is wrong just if there is a certificate and each order stands in the plan: the statement. -/
import Derived.Test.YtkokggepghghdaaAuditNoneVc
import Derived.Test.YtkokggepghghdaaWalkDrive
import Derived.Test.YtkokggepghghdaaCertOk
set_option linter.unusedVariables false
set_option linter.unusedSimpArgs false
namespace Go.Eng
open Go Go.Proofs
theorem makeGo_good {m : MapD} {ds : List Driver} {os : List Order} : ∀ (p : List Route) (i : Nat), good (cfauR (makeGo m ds os i p)) = true ↔ ∀ r ∈ p, ∃ d, findD r.driver ds = some d ∧ good (fauR (drive (some m) d os r.stops)) = true
  | [], i => by simp [makeGo, cfauR, good]
  | r :: l, i => by
    rw [makeGo]
    simp only [List.forall_mem_cons]
    cases hd : findD r.driver ds with
    | none => simp [cfauR, good]
    | some d =>
      dsimp only
      cases hr : drive (some m) d os r.stops with
      | error f =>
        have : good (cfauR (.error ⟨(i : Int), f.why⟩)) = good (fauR (.error f)) := rfl
        dsimp only
        rw [this]
        constructor
        · intro h
          have : f.why = 0 := of_decide_eq_true h
          unfold drive at hr
          dsimp only at hr
          split at hr
          · exact absurd this (driveGo_why hr)
          · injection hr with hr; subst hr; simp at this
        · rintro ⟨⟨d', e, h⟩, _⟩
          injection e with e; subst e
          rw [hr] at h; exact h
      | ok v =>
        dsimp only
        have ih := makeGo_good (m := m) (ds := ds) (os := os) l (i + 1)
        have h1 : ∃ d', some d = some d' ∧ good (fauR (drive (some m) d' os r.stops)) = true := ⟨d, rfl, by rw [hr]; rfl⟩
        rw [eq_true h1, true_and, ← ih]
        cases makeGo m ds os (i + 1) l <;> exact Iff.rfl
theorem flat_nil {α β : Type} {f : α → List β} {l : List α} : l.flatMap f = [] ↔ ∀ x ∈ l, f x = [] := by simp
theorem none_law {m : MapD} {ds : List Driver} {os : List Order} {p : List Route} (hm : MapOk m) : auditA (some m) ds os p = [] ↔ good (cfauR (makeP (some m) ds os p)) = true ∧ ∀ o ∈ os, (findP o.id p).isSome = true := by
  by_cases hw : wellP (some m) ds os p = true
  · have hM : makeP (some m) ds os p = makeGo m ds os 0 p := by simp [makeP, hw]
    have hR := rightP_iff.1 (wellP_iff.1 hw).2.2.2.1
    rw [hM, auditA_in hw, makeGo_good, List.append_eq_nil_iff, flat_nil]
    refine and_congr (forall_congr' fun r => forall_congr' fun hr => ?_) ?_
    · unfold routeA
      cases hd : findD r.driver ds with
      | none => simp
      | some d =>
        have := along_drive (well_timed hm hw hr (findD_mem hd).1) (right_one hR hr).2 (well_driver hw (findD_mem hd).1)
        dsimp only
        rw [this]
        exact ⟨fun h => ⟨d, rfl, h⟩, fun ⟨d', e, h⟩ => by injection e with e; subst e; exact h⟩
    · unfold missA
      rw [flat_nil]
      refine forall_congr' fun o => forall_congr' fun ho => ?_
      cases findP o.id p <;> simp
  · have hM : makeP (some m) ds os p = .error ⟨0, 1⟩ := by simp [makeP, hw]
    have hA : auditA (some m) ds os p = [⟨0, 0, 1⟩] := by simp [auditA, hw]
    rw [hM, hA]
    simp [cfauR, good]
theorem none_law0 {ds : List Driver} {os : List Order} {p : List Route} : auditA none ds os p = [] ↔ good (cfauR (makeP none ds os p)) = true ∧ ∀ o ∈ os, (findP o.id p).isSome = true := by
  simp [auditA, makeP, cfauR, good]
theorem auditNone_ok : auditNone_vc := by
  unfold auditNone_vc
  simp only [bad_false, int0, nilOf, decide_eq_true_eq, decide_eq_false_iff_not, Bool.not_eq_true', Bool.not_eq_false', Bool.not_true, Bool.not_false, Bool.false_eq_true, Bool.true_eq_false, eq_self, true_and, and_true, false_or, or_false, false_implies, true_implies, implies_true, Int.not_lt, Int.not_le, gt_iff_lt, ge_iff_le, ne_eq]
  intro w hwl hg
  have ho := hwl.2.2.1.le
  have key : ∀ m : Option MapD, (auditA m w.drivers w.orders w.plan = [] ↔ good (cfauR (makeP m w.drivers w.orders w.plan)) = true ∧ ∀ o ∈ w.orders, (findP o.id w.plan).isSome = true) → (∀ x, m = some x → MapOk x) →
      (∀ x, m = some x → MapOk x) ∧ ∃ (inv : Bool → Int → Prop) (μ : Bool → Int → Nat), inv true 0 ∧ ∀ (x_5 : Bool) (x_6 : Int), inv x_5 x_6 → (x_6 < (w.orders.length : Int) → (0 ≤ x_6 ∧ x_6 < (w.orders.length : Int)) ∧ x_6.toNat < w.orders.length ∧ (x_5 = true → inv (findP (w.orders.getD x_6.toNat (FK.zero .order)).id w.plan).isSome (wrap (x_6 + 1)) ∧ μ (findP (w.orders.getD x_6.toNat (FK.zero .order)).id w.plan).isSome (wrap (x_6 + 1)) < μ x_5 x_6) ∧ (x_5 = false → inv false (wrap (x_6 + 1)) ∧ μ false (wrap (x_6 + 1)) < μ x_5 x_6)) ∧
        ((w.orders.length : Int) ≤ x_6 → (∀ x, m = some x → MapOk x) ∧ (good (cfauR (makeP m w.drivers w.orders w.plan)) = true → (decide (((auditA m w.drivers w.orders w.plan).length : Int) = 0) == x_5) = false → False) ∧ (good (cfauR (makeP m w.drivers w.orders w.plan)) = false → (decide (((auditA m w.drivers w.orders w.plan).length : Int) = 0) == false) = false → False)) := by
    intro m hlaw hm
    have hdec : decide (((auditA m w.drivers w.orders w.plan).length : Int) = 0) = decide (auditA m w.drivers w.orders w.plan = []) := by
      cases auditA m w.drivers w.orders w.plan <;> simp
      omega
    refine ⟨hm, fun b i => 0 ≤ i ∧ i ≤ w.orders.length ∧ (b = true ↔ ∀ o ∈ w.orders.take i.toNat, (findP o.id w.plan).isSome = true), fun _ i => w.orders.length - i.toNat, ⟨by omega, by omega, by simp⟩, fun b i hi => ⟨fun h => ?_, fun h => ?_⟩⟩
    · obtain ⟨h0, h1, hI⟩ := hi
      obtain ⟨e1, e2, e3, e4⟩ := ix (FK.zero .order) ho h0 h
      rw [e1]; dsimp only; rw [e2]
      have hT := take_more (l := w.orders) (FK.zero .order) e3
      generalize w.orders.getD i.toNat (FK.zero .order) = o at *
      refine ⟨⟨h0, h⟩, e3, fun q => ⟨⟨by omega, by omega, ?_⟩, by omega⟩, fun q => ⟨⟨by omega, by omega, ?_⟩, by omega⟩⟩
      · rw [hT]
        simp only [List.mem_append, List.mem_singleton]
        constructor
        · rintro hq x (hx | rfl)
          · exact hI.1 q x hx
          · exact hq
        · intro hq; exact hq o (.inr rfl)
      · rw [hT]
        constructor
        · intro hq; cases hq
        · intro hq
          rw [← q]
          exact hI.2 fun x hx => hq x (by simp [hx])
    · obtain ⟨h0, h1, hI⟩ := hi
      rw [List.take_of_length_le (by omega)] at hI
      rw [hdec]
      refine ⟨hm, fun g q => ?_, fun g q => ?_⟩
      · have : decide (auditA m w.drivers w.orders w.plan = []) = b := by
          rw [Bool.eq_iff_iff, decide_eq_true_eq, hlaw, hI]
          simp [g]
        rw [this] at q; simp at q
      · have : decide (auditA m w.drivers w.orders w.plan = []) = false := by
          rw [decide_eq_false_iff_not, hlaw]
          simp [g]
        rw [this] at q; cases q
  exact ⟨fun h => key none none_law0 mapOkO_none, fun h => key _ (none_law (mapOkO_some h _ rfl)) (mapOkO_some h)⟩
theorem auditNone_t : Told Try.prog 8 auditNone_con := auditNone_told (csOk_cons maps_t (csOk_cons cmake_t (csOk_cons pfind_t (csOk_cons audit_t (csOk_cons goodF_t (csOk_cons auditRuns_t csOk_nil)))))) auditNone_ok
end Go.Eng
