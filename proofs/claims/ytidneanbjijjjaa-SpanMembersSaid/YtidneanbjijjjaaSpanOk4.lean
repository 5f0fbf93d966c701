/- SpanMembers: a time is in the Meet of right windows just if it is in all of them. -/
import Derived.Test.YtidneanbjijjjaaSpanOk3
set_option linter.unusedVariables false
set_option linter.unusedSimpArgs false
namespace Go.Eng
open Go Go.Proofs

theorem meets_some {t : Int} : ∀ {l : List Win} {m w : Win}, meets m l = some w → l.all right = true ∧ w.lo ≤ w.hi ∧ m.lo ≤ w.lo ∧ w.hi ≤ m.hi ∧ ((w.lo ≤ t ∧ t ≤ w.hi) ↔ (m.lo ≤ t ∧ t ≤ m.hi ∧ l.all (fun x => has x t) = true))
  | [], m, w, h => by
    simp only [meets] at h
    split at h
    · injection h with h
      subst h
      rename_i hle
      exact ⟨rfl, hle, Int.le_refl _, Int.le_refl _, by simp⟩
    · cases h
  | x :: l, m, w, h => by
    simp only [meets] at h
    split at h
    · rename_i hr
      obtain ⟨h1, h2, h3, h4, h5⟩ := meets_some (t := t) h
      dsimp only at h3 h4 h5
      refine ⟨by simp only [List.all_cons, hr, h1, Bool.and_self], h2, by omega, by omega, ?_⟩
      rw [h5]
      simp only [List.all_cons, Bool.and_eq_true, has, hr, decide_eq_true_eq, true_and]
      constructor
      · rintro ⟨a, b, c⟩
        exact ⟨by omega, by omega, by omega, c⟩
      · rintro ⟨a, b, c, d⟩
        exact ⟨by omega, by omega, d⟩
    · cases h
theorem meets_none {t : Int} : ∀ {l : List Win} {m : Win}, meets m l = none → l.all right = true → ¬ (m.lo ≤ t ∧ t ≤ m.hi ∧ l.all (fun x => has x t) = true)
  | [], m, h, _ => by
    simp only [meets] at h
    split at h
    · cases h
    · rename_i hle
      rintro ⟨a, b, _⟩
      omega
  | x :: l, m, h, hr => by
    simp only [List.all_cons, Bool.and_eq_true] at hr
    simp only [meets, hr.1, if_true] at h
    have := meets_none (t := t) h hr.2
    rintro ⟨a, b, c⟩
    simp only [List.all_cons, Bool.and_eq_true, has, decide_eq_true_eq] at c
    dsimp only at this
    exact this ⟨by omega, by omega, by simpa only [has] using c.2⟩
theorem all_next {l : List Win} {f : Win → Bool} {i : Int} (h0 : 0 ≤ i) (h : i < l.length) : (l.take (i + 1).toNat).all f = ((l.take i.toNat).all f && f (l.getD i.toNat (Win.mk 0 0))) := by
  have hi : i.toNat < l.length := by omega
  have e : (i + 1).toNat = i.toNat + 1 := by omega
  rw [e, List.take_add_one, List.getElem?_eq_getElem hi, List.all_append]
  simp [hi]
theorem spanMembers_ok : spanMembers_vc := by
  intro l hl t hg
  have hl := hl.le
  -- the end of the loop
  have fin : ∀ (a r : Bool), r = l.all right → a = ((decide (0 ≤ t) && decide (t ≤ 1000000)) && l.all (fun x => has x t)) →
      ((!(meet l).isSome) = true →
          ((decide ((meetW l).lo = (0 : Int)) && (decide ((meetW l).hi = (0 : Int)) && true)) = true → ((!r) = false → ((!a) = true → true = true) ∧ ((!a) = !true → false = true)) ∧ ((!r) = !false → true = true)) ∧
            ((decide ((meetW l).lo = (0 : Int)) && (decide ((meetW l).hi = (0 : Int)) && true)) = !true → false = true)) ∧
        ((!(meet l).isSome) = false →
          (r = true → (right (meetW l) = true → ((has (meetW l) t == a) = true → true = true) ∧ ((has (meetW l) t == a) = !true → false = true)) ∧ (right (meetW l) = !true → false = true)) ∧
            (r = !true → false = true)) := by
    rintro a r rfl rfl
    cases hm : meet l with
    | none =>
      have hW : meetW l = ⟨0, 0⟩ := by simp [meetW, hm]
      rw [hW]
      refine ⟨fun _ => ⟨fun _ => ⟨fun hr => ⟨fun _ => rfl, fun ha => ?_⟩, fun _ => rfl⟩, fun h => by simp at h⟩, fun h => by simp at h⟩
      exfalso
      have hr' : l.all right = true := by simpa only [Bool.not_eq_false'] using hr
      have := meets_none (t := t) hm hr'
      simp only [Bool.not_true, Bool.not_eq_false', Bool.and_eq_true, decide_eq_true_eq] at ha
      exact this ⟨ha.1.1, ha.1.2, ha.2⟩
    | some w =>
      have hW : meetW l = w := by simp [meetW, hm]
      obtain ⟨h1, h2, h3, h4, h5⟩ := meets_some (t := t) hm
      have h3 : 0 ≤ w.lo := h3
      have h4 : w.hi ≤ 1000000 := h4
      have hrw : right w = true := by simp only [right, Bool.and_eq_true, decide_eq_true_eq]; omega
      rw [hW, hrw, h1]
      have he : has w t = ((decide (0 ≤ t) && decide (t ≤ 1000000)) && l.all (fun x => has x t)) := by
        rw [Bool.eq_iff_iff]
        simp only [has, hrw, Bool.and_eq_true, decide_eq_true_eq, true_and]
        simp only [has] at h5
        rw [h5]
        constructor
        · rintro ⟨a, b, c⟩; exact ⟨⟨a, b⟩, c⟩
        · rintro ⟨⟨a, b⟩, c⟩; exact ⟨a, b, c⟩
      rw [he]
      simp
  -- the loop
  have both : ∀ a0 : Bool, a0 = (decide (0 ≤ t) && decide (t ≤ 1000000)) → ∀ (inv : Bool → Bool → Int → Prop), inv = (fun a r i => 0 ≤ i ∧ i ≤ (l.length : Int) ∧ r = (l.take i.toNat).all right ∧ a = (a0 && (l.take i.toNat).all (fun x => has x t))) →
      ∀ (a r : Bool) (i : Int), inv a r i → i < l.length → wrap (i + 1) = i + 1 ∧ inv (if a then has (l.getD i.toNat (Win.mk 0 0)) t else false) (if r then right (l.getD i.toNat (Win.mk 0 0)) else false) (i + 1) := by
    rintro a0 _ inv rfl a r i ⟨h0, h1, h2, h3⟩ h
    refine ⟨wrap_id (by omega) (by omega), by omega, by omega, ?_, ?_⟩
    · rw [all_next h0 h, ← h2]; cases r <;> simp
    · rw [all_next h0 h, ← Bool.and_assoc, ← h3]; cases a <;> simp
  have gen : ∀ a0 : Bool, a0 = (decide (0 ≤ t) && decide (t ≤ 1000000)) → ∃ (inv : Bool → Bool → Int → Prop), ∃ (μ : Bool → Bool → Int → Nat), inv a0 true 0 ∧ ∀ (a r : Bool) (i : Int), inv a r i →
      (i < l.length → (0 ≤ i ∧ i.toNat < l.length) ∧ wrap (i + 1) = i + 1 ∧ inv (if a then has (l.getD i.toNat (Win.mk 0 0)) t else false) (if r then right (l.getD i.toNat (Win.mk 0 0)) else false) (i + 1) ∧ ∀ a' r', μ a' r' (i + 1) < μ a r i) ∧
      (¬ i < l.length → r = l.all right ∧ a = (a0 && l.all (fun x => has x t))) := by
    intro a0 ha0
    refine ⟨fun a r i => 0 ≤ i ∧ i ≤ (l.length : Int) ∧ r = (l.take i.toNat).all right ∧ a = (a0 && (l.take i.toNat).all (fun x => has x t)), fun _ _ i => l.length - i.toNat, by simp, fun a r i hi => ⟨fun h => ?_, fun h => ?_⟩⟩
    · obtain ⟨e1, e2⟩ := both a0 ha0 _ rfl a r i hi h
      refine ⟨⟨hi.1, by have := hi.1; omega⟩, e1, e2, fun _ _ => ?_⟩
      have := hi.1
      show l.length - (i + 1).toNat < l.length - i.toNat
      omega
    · obtain ⟨h0, h1, h2, h3⟩ := hi
      have : i.toNat = l.length := by omega
      rw [this, List.take_length] at h2 h3
      exact ⟨h2, h3⟩
  refine ⟨fun h => ?_, fun h => ?_⟩
  · have h : 0 ≤ t := of_decide_eq_true h
    have ha0 : decide (t ≤ 1000000) = (decide (0 ≤ t) && decide (t ≤ 1000000)) := by simp [h]
    obtain ⟨inv, μ, hi, hstep⟩ := gen _ ha0
    refine ⟨inv, μ, ⟨⟨⟨rfl, rfl, rfl, rfl⟩, rfl⟩, hi⟩, fun a r i hinv => ⟨fun hlt => ?_, fun hge => ?_⟩⟩
    · have hlt : i < l.length := of_decide_eq_true hlt
      obtain ⟨⟨g0, g1⟩, gw, gi, gm⟩ := (hstep a r i hinv).1 hlt
      rw [gw]
      refine ⟨fun hr => ⟨⟨g0, hlt⟩, g1, fun ha => ⟨⟨g0, hlt⟩, g1, ⟨⟨rfl, rfl, rfl, rfl⟩, rfl⟩, ?_, gm _ _⟩, fun ha => ⟨⟨⟨rfl, rfl, rfl, rfl⟩, rfl⟩, ?_, gm _ _⟩⟩, fun hr => ⟨fun ha => ⟨⟨g0, hlt⟩, g1, ⟨⟨rfl, rfl, rfl, rfl⟩, rfl⟩, ?_, gm _ _⟩, fun ha => ⟨⟨⟨rfl, rfl, rfl, rfl⟩, rfl⟩, ?_, gm _ _⟩⟩⟩ <;>
        (subst hr; subst ha; simpa using gi)
    · have hge : ¬ i < l.length := of_decide_eq_false hge
      obtain ⟨e1, e2⟩ := (hstep a r i hinv).2 hge
      exact fin a r e1 (by rw [e2, ← ha0])
  · have h : ¬ 0 ≤ t := of_decide_eq_false h
    have ha0 : false = (decide (0 ≤ t) && decide (t ≤ 1000000)) := by simp [h]
    obtain ⟨inv, μ, hi, hstep⟩ := gen _ ha0
    refine ⟨inv, μ, ⟨⟨⟨rfl, rfl, rfl, rfl⟩, rfl⟩, hi⟩, fun a r i hinv => ⟨fun hlt => ?_, fun hge => ?_⟩⟩
    · have hlt : i < l.length := of_decide_eq_true hlt
      obtain ⟨⟨g0, g1⟩, gw, gi, gm⟩ := (hstep a r i hinv).1 hlt
      rw [gw]
      refine ⟨fun hr => ⟨⟨g0, hlt⟩, g1, fun ha => ⟨⟨g0, hlt⟩, g1, ⟨⟨rfl, rfl, rfl, rfl⟩, rfl⟩, ?_, gm _ _⟩, fun ha => ⟨⟨⟨rfl, rfl, rfl, rfl⟩, rfl⟩, ?_, gm _ _⟩⟩, fun hr => ⟨fun ha => ⟨⟨g0, hlt⟩, g1, ⟨⟨rfl, rfl, rfl, rfl⟩, rfl⟩, ?_, gm _ _⟩, fun ha => ⟨⟨⟨rfl, rfl, rfl, rfl⟩, rfl⟩, ?_, gm _ _⟩⟩⟩ <;>
        (subst hr; subst ha; simpa using gi)
    · have hge : ¬ i < l.length := of_decide_eq_false hge
      obtain ⟨e1, e2⟩ := (hstep a r i hinv).2 hge
      exact fin a r e1 (by rw [e2, ← ha0])
theorem spanMembers_t : Told Try.prog 6 spanMembers_con := spanMembers_told (csOk_cons right_t (csOk_cons has_t (csOk_cons meet_t (csOk_cons spanRuns_t csOk_nil)))) spanMembers_ok
end Go.Eng
