/- At all places of a route: an order fits just if the route with it has no fault. -/
import Derived.Test.YtindbdefjandkaaSlackAllVc
import Derived.Test.YtindbdefjandkaaSlackRuns
set_option linter.unusedVariables false
set_option linter.unusedSimpArgs false
namespace Go.Eng
open Go Go.Proofs
theorem findO_any : ∀ (os : List Order) (id : Int), (findO os id).isSome = os.any fun o => decide (o.id = id)
  | [], _ => rfl
  | o :: l, id => by
    unfold findO
    by_cases h : o.id = id
    · simp [h]
    · rw [if_neg h, findO_any l id]; simp [h]
theorem any_next {α : Type} {l : List α} {p : α → Bool} {k : Nat} (h : k < l.length) (z : α) : (l.take (k + 1)).any p = ((l.take k).any p || p (l.getD k z)) := by
  rw [List.take_succ_eq_append_getElem h, List.any_append, getD_of h]
  simp
theorem slackAll_gen (m : Option MapD) (d : Driver) (os : List Order) (ss : List Stop) (o : Order) (n : Int) (hn : (ss.length : Int) = n) (hlen : n ≤ 12) (A C : Prop) (hA : A) (hC : C) (hm : MapOkO m) (hos : LenOk os.length) (hz : os.length * 80 ≤ 140737488351232) :
    ∃ (inv : Bool → Int → Prop), ∃ (μ : Bool → Int → Nat), inv false 0 ∧ ∀ (kn : Bool) (i : Int), inv kn i →
      (i < (os.length : Int) → (kn = false → (0 ≤ i ∧ i < (os.length : Int)) ∧ i.toNat < os.length ∧ inv (decide ((os.getD i.toNat (FK.zero .order)).id = o.id)) (wrap (i + 1)) ∧ μ (decide ((os.getD i.toNat (FK.zero .order)).id = o.id)) (wrap (i + 1)) < μ kn i) ∧
        (kn = true → inv true (wrap (i + 1)) ∧ μ true (wrap (i + 1)) < μ kn i)) ∧
      ((os.length : Int) ≤ i → (0 + os.length) * (8 * 10) ≤ 140737488355328 ∧ (([] ++ os).length + [o].length) * (8 * 10) ≤ 140737488355328 ∧ ∃ (inv : Int → Prop), ∃ (μ : Int → Nat), inv 0 ∧ ∀ (a : Int), inv a →
        (a ≤ n → ∃ (inv1 : Int → Prop), ∃ (μ1 : Int → Nat), inv1 a ∧ ∀ (j : Int), inv1 j → (j ≤ n → A ∧ MapOkO m ∧ C ∧
            (good (fauR (drive m d os ss)) = true → (kn = false → ((fits m d os ss o a j == good (fauR (drive m d ([] ++ os ++ [o]) (putS ss o.id a j)))) = false → False) ∧ ((fits m d os ss o a j == good (fauR (drive m d ([] ++ os ++ [o]) (putS ss o.id a j)))) = true → inv1 (wrap (j + 1)) ∧ μ1 (wrap (j + 1)) < μ1 j)) ∧
              (kn = true → ((fits m d os ss o a j == false) = false → False) ∧ ((fits m d os ss o a j == false) = true → inv1 (wrap (j + 1)) ∧ μ1 (wrap (j + 1)) < μ1 j))) ∧
            (good (fauR (drive m d os ss)) = false → ((fits m d os ss o a j == false) = false → False) ∧ ((fits m d os ss o a j == false) = true → inv1 (wrap (j + 1)) ∧ μ1 (wrap (j + 1)) < μ1 j))) ∧
          (n < j → inv (wrap (a + 1)) ∧ μ (wrap (a + 1)) < μ a)) ∧
        (n < a → C ∧ (fits m d os ss o n (wrap (n + 1)) = true → False))) := by
  have hl := hos.le
  refine ⟨fun kn i => 0 ≤ i ∧ i ≤ os.length ∧ kn = (os.take i.toNat).any fun p => decide (p.id = o.id), fun _ i => os.length - i.toNat, ⟨by omega, by omega, by simp⟩, fun kn i hi => ⟨fun h => ⟨fun hk => ?_, fun hk => ?_⟩, fun h => ?_⟩⟩
  · obtain ⟨i0, i1, i2⟩ := hi
    have st := any_next (p := fun p : Order => decide (p.id = o.id)) (show i.toNat < os.length by omega) (FK.zero .order)
    rw [← i2, hk, Bool.false_or] at st
    rw [wrap_id (n := i + 1) (by omega) (by omega)]
    refine ⟨⟨i0, h⟩, by omega, ⟨by omega, by omega, ?_⟩, by dsimp only; omega⟩
    rw [show (i + 1).toNat = i.toNat + 1 by omega, st]
  · obtain ⟨i0, i1, i2⟩ := hi
    have st := any_next (p := fun p : Order => decide (p.id = o.id)) (show i.toNat < os.length by omega) (FK.zero .order)
    rw [← i2, hk, Bool.true_or] at st
    rw [wrap_id (n := i + 1) (by omega) (by omega)]
    refine ⟨⟨by omega, by omega, ?_⟩, by dsimp only; omega⟩
    rw [show (i + 1).toNat = i.toNat + 1 by omega, st]
  · obtain ⟨i0, i1, i2⟩ := hi
    rw [List.take_of_length_le (by omega), ← findO_any] at i2
    refine ⟨by omega, by simp; omega, fun a => 0 ≤ a ∧ a ≤ n + 1, fun a => (n + 2 - a).toNat, ⟨by omega, by omega⟩, fun a ha => ⟨fun h1 => ?_, fun h1 => ⟨hC, fun hf => ?_⟩⟩⟩
    · obtain ⟨a0, a1⟩ := ha
      refine ⟨fun j => a ≤ j ∧ j ≤ n + 1, fun j => (n + 2 - j).toNat, ⟨by omega, by omega⟩, fun j hj => ⟨fun h2 => ⟨hA, hm, hC, ?_⟩, fun h2 => ?_⟩⟩
      · obtain ⟨j0, j1⟩ := hj
        have hf := fits_in (m := m) (d := d) (os := os) (ss := ss) (o := o) (i := a) (j := j) ⟨a0, j0, by omega⟩
        rw [wrap_id (n := j + 1) (by omega) (by omega), hf, ← i2]
        have fin : (a ≤ j + 1 ∧ j + 1 ≤ n + 1) ∧ (n + 2 - (j + 1)).toNat < (n + 2 - j).toNat := ⟨⟨by omega, by omega⟩, by omega⟩
        refine ⟨fun hg => ⟨fun hk => ⟨fun hb => ?_, fun _ => fin⟩, fun hk => ⟨fun hb => ?_, fun _ => fin⟩⟩, fun hg => ⟨fun hb => ?_, fun _ => fin⟩⟩
        · rw [hg, hk] at hb; simp at hb
        · rw [hg, hk] at hb; simp at hb
        · rw [hg] at hb; simp at hb
      · rw [wrap_id (n := a + 1) (by omega) (by omega)]
        dsimp only
        omega
    · rw [wrap_id (n := n + 1) (by omega) (by omega), fits_out (by omega)] at hf
      cases hf
theorem slackAll_ok : slackAll_vc := by
  unfold slackAll_vc
  simp only [bad_false, int0, nilOf, decide_eq_true_eq, decide_eq_false_iff_not, Bool.not_eq_true', Bool.not_eq_false', Bool.not_true, Bool.not_false, Bool.false_eq_true, Bool.true_eq_false, eq_self, true_and, and_true, false_or, or_false, false_implies, true_implies, implies_true, Int.not_lt, Int.not_le, gt_iff_lt, ge_iff_le, ne_eq]
  intro w how d ss hss o hg
  have hol := how.2.2.1
  have hsl := hss.le
  have z1 : ss.length * 16 ≤ 140737488351232 := hg.is.2.2.1.2
  have z2 : w.orders.length * 80 ≤ 140737488351232 := hg.is.1.2 (.a (.f .order) w.orders) (by simp [SK.enc])
  have hp : (12 : Int) < ss.length → (part ss (Int.toNat 0) (Int.toNat 12 - Int.toNat 0)).length = 12 := fun h => by
    unfold part
    rw [List.length_take, List.length_drop]
    omega
  refine ⟨fun h => ⟨fun h1 => ?_, fun h1 => ?_⟩, fun h => ⟨fun h1 => ?_, fun h1 => ?_⟩⟩
  · have hm : MapOkO none := mapOkO_none
    have hcut : Int.toNat 0 + (Int.toNat 12 - Int.toNat 0) ≤ ss.length := by omega
    have hz : (part ss (Int.toNat 0) (Int.toNat 12 - Int.toNat 0)).length * 16 ≤ 140737488351232 := by rw [hp h1]; decide
    exact ⟨⟨by omega, by omega, by omega⟩, ⟨hcut, hm⟩, slackAll_gen none d w.orders (part ss (Int.toNat 0) (Int.toNat 12 - Int.toNat 0)) o (↑(Int.toNat 12 - Int.toNat 0)) (by rw [hp h1]; rfl) (by decide) _ _ ⟨hcut, hz⟩ ⟨hcut, hm, z2, hz⟩ hm hol z2⟩
  · have hm : MapOkO none := mapOkO_none
    exact ⟨hm, slackAll_gen none d w.orders ss o ss.length rfl h1 _ _ z1 ⟨hm, z2, z1⟩ hm hol z2⟩
  · have hm : MapOkO (some ⟨w.n, w.times⟩) := mapOkO_some h
    have hcut : Int.toNat 0 + (Int.toNat 12 - Int.toNat 0) ≤ ss.length := by omega
    have hz : (part ss (Int.toNat 0) (Int.toNat 12 - Int.toNat 0)).length * 16 ≤ 140737488351232 := by rw [hp h1]; decide
    exact ⟨⟨by omega, by omega, by omega⟩, ⟨hcut, hm⟩, slackAll_gen (some ⟨w.n, w.times⟩) d w.orders (part ss (Int.toNat 0) (Int.toNat 12 - Int.toNat 0)) o (↑(Int.toNat 12 - Int.toNat 0)) (by rw [hp h1]; rfl) (by decide) _ _ ⟨hcut, hz⟩ ⟨hcut, hm, z2, hz⟩ hm hol z2⟩
  · have hm : MapOkO (some ⟨w.n, w.times⟩) := mapOkO_some h
    exact ⟨hm, slackAll_gen (some ⟨w.n, w.times⟩) d w.orders ss o ss.length rfl h1 _ _ z1 ⟨hm, z2, z1⟩ hm hol z2⟩
theorem slackAll_t : Told Try.prog 7 slackAll_con := slackAll_told (csOk_cons maps_t (csOk_cons drive_t (csOk_cons sput_t (csOk_cons sfits_t (csOk_cons goodF_t (csOk_cons slackRuns_t csOk_nil)))))) slackAll_ok
end Go.Eng
