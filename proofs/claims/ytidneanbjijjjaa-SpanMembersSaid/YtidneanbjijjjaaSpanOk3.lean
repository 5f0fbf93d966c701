/- Lists of windows: kept, compared; the statements of Meet. -/
import Derived.Test.YtidneanbjijjjaaSpanOk2
set_option linter.unusedVariables false
set_option linter.unusedSimpArgs false
namespace Go.Eng
open Go Go.Proofs

theorem winEq (a b : Win) : (decide (a.lo = b.lo) && (decide (a.hi = b.hi) && true)) = true ↔ a = b := by
  cases a; cases b; simp
theorem sameW_ok : sameW_vc := fun x hx y _ => same_gen winEq x hx y
theorem intactW_ok : intactW_vc := fun x hx y hy m => intact_gen (e := m.lo = m.lo ∧ m.hi = m.hi) ⟨rfl, rfl⟩ winEq x hx y hy m
theorem roomyW_ok : roomyW_vc := by
  intro x hx m hb
  have hw : wrap ((x.length : Int) + 80) = x.length + 80 := wrap_id (by omega) (by omega)
  have ht : ((x.length : Int) + 80).toNat = x.length + 80 := by omega
  rw [hw, ht, fill_first]
  refine ⟨⟨by omega, by omega, by omega⟩, trivial, fun i l => ∃ k, k ≤ 80 ∧ i = ((x.length + k : Nat) : Int) ∧ l = x ++ (List.replicate k m ++ List.replicate (80 - k) (Win.mk 0 0)), fun i _ => x.length + 80 - i.toNat, ⟨by simp, 0, by omega, by simp, by simp⟩, ?_⟩
  rintro i l ⟨k, hk, rfl, rfl⟩
  have hlen : (x ++ (List.replicate k m ++ List.replicate (80 - k) (Win.mk 0 0))).length = x.length + 80 := by simp; omega
  rw [hlen]
  refine ⟨fun h => ?_, fun h => ?_⟩
  · have hk' : k < 80 := by simp at h; omega
    have hw2 : wrap (((x.length + k : Nat) : Int) + 1) = ((x.length + (k + 1) : Nat) : Int) := by rw [wrap_id (by omega) (by omega)]; omega
    rw [hw2]
    have ht2 : ((x.length + k : Nat) : Int).toNat = x.length + k := by omega
    rw [ht2, fill_set x k 80 m _ hk']
    refine ⟨⟨by omega, by omega⟩, by omega, by simp, ⟨k + 1, by omega, rfl, rfl⟩, ?_⟩
    show x.length + 80 - ((x.length + (k + 1) : Nat) : Int).toNat < x.length + 80 - ((x.length + k : Nat) : Int).toNat
    omega
  · have : k = 80 := by simp at h; omega
    subst this
    simp [roomy]
theorem meet_step {l : List Win} {i a b : Int} (h0 : 0 ≤ i) (h : i < l.length) (h2 : meet l = meets ⟨a, b⟩ (l.drop i.toNat)) (hr : right (l.getD i.toNat (Win.mk 0 0)) = true) {a' b' : Int} (ha : a' = max a (l.getD i.toNat (Win.mk 0 0)).lo) (hb : b' = min b (l.getD i.toNat (Win.mk 0 0)).hi) :
    meet l = meets ⟨a', b'⟩ (l.drop (i + 1).toNat) := by
  have hi : i.toNat < l.length := by omega
  rw [getD_drop (d := Win.mk 0 0) hi, meets, if_pos hr] at h2
  have ht : (i + 1).toNat = i.toNat + 1 := by omega
  rw [ht, ha, hb]; exact h2
theorem rMeet_ok : rMeet_vc := by
  intro l hl
  have hl := hl.le
  refine ⟨fun i a b => 0 ≤ i ∧ i ≤ (l.length : Int) ∧ meet l = meets ⟨a, b⟩ (l.drop i.toNat), fun i _ _ => l.length - i.toNat, ⟨by simp, ?_⟩, ?_⟩
  · simp [meet]
  · rintro i a b ⟨h0, h1, h2⟩
    refine ⟨fun h => ?_, fun h => ?_⟩
    · have h : i < l.length := of_decide_eq_true h
      have hi : i.toNat < l.length := by omega
      have hb : 0 ≤ i ∧ i < (l.length : Int) := ⟨h0, h⟩
      have hw : wrap (i + 1) = i + 1 := wrap_id (by omega) (by omega)
      have hμ : l.length - (i + 1).toNat < l.length - i.toNat := by omega
      rw [hw]
      refine ⟨hb, hi, fun hr => ?_, fun hr => ?_⟩
      · rw [getD_drop (d := Win.mk 0 0) hi, meets] at h2
        simp only [Bool.not_eq_true'] at hr
        rw [if_neg (by rw [hr]; simp)] at h2
        simp [meetW, h2]
      · simp only [Bool.not_eq_false'] at hr
        refine ⟨hb, hi, fun h3 => ⟨hb, hi, hb, hi, fun h4 => ⟨hb, hi, ⟨rfl, ⟨⟨rfl, rfl⟩, rfl, rfl⟩, rfl⟩, ⟨by omega, by omega, ?_⟩, hμ⟩, fun h4 => ⟨⟨rfl, ⟨⟨rfl, rfl⟩, rfl, rfl⟩, rfl⟩, ⟨by omega, by omega, ?_⟩, hμ⟩⟩, fun h3 => ⟨hb, hi, fun h4 => ⟨hb, hi, ⟨rfl, ⟨⟨rfl, rfl⟩, rfl, rfl⟩, rfl⟩, ⟨by omega, by omega, ?_⟩, hμ⟩, fun h4 => ⟨⟨rfl, ⟨⟨rfl, rfl⟩, rfl, rfl⟩, rfl⟩, ⟨by omega, by omega, ?_⟩, hμ⟩⟩⟩ <;>
          (simp only [decide_eq_true_eq, decide_eq_false_iff_not] at h3 h4; exact meet_step h0 h h2 hr (by omega) (by omega))
    · have h : ¬ i < l.length := of_decide_eq_false h
      have hi : l.drop i.toNat = [] := by apply List.drop_eq_nil_of_le; omega
      rw [hi, meets] at h2
      refine ⟨fun h3 => ?_, fun h3 => ?_⟩
      · simp only [decide_eq_true_eq] at h3
        rw [if_neg (by simp; omega)] at h2
        simp [meetW, h2]
      · simp only [decide_eq_false_iff_not] at h3
        rw [if_pos (by simp; omega)] at h2
        simp [meetW, h2]
theorem spanMeets_ok : spanMeets_vc := by
  intro l hl hg
  have hb := hg.is.2
  have hp : part (roomy l (Win.mk (-3) (-4))) (Int.toNat 0) ((l.length : Int).toNat - Int.toNat 0) = l := by
    have : (l.length : Int).toNat - Int.toNat 0 = l.length := by omega
    rw [this]
    exact part_roomy l _
  rw [hp, roomy_length]
  refine ⟨hb, by omega, by omega, ?_⟩
  rw [same_self]
  simp
theorem rMeet_t : Told Try.prog 19 meet_con := rMeet_told (csOk_cons rRight_t csOk_nil) rMeet_ok
theorem sameW_t : Told Try.prog 48 sameW_con := sameW_told csOk_nil sameW_ok
theorem roomyW_t : Told Try.prog 18 roomyW_con := roomyW_told csOk_nil roomyW_ok
theorem intactW_t : Told Try.prog 20 intactW_con := intactW_told (csOk_cons sameW_t csOk_nil) intactW_ok
theorem spanMeets_t : Told Try.prog 4 spanMeets_con := spanMeets_told (csOk_cons roomyW_t (csOk_cons meet_t (csOk_cons rMeet_t (csOk_cons intactW_t (csOk_cons spanRuns_t csOk_nil))))) spanMeets_ok
end Go.Eng
