/- How late stops may be begun; an order put between stops: it is so. -/
import Derived.Test.YtkokggepghghdaaSlackVc
set_option linter.unusedVariables false
set_option linter.unusedSimpArgs false
namespace Go.Eng
open Go Go.Proofs

theorem drive_none_bad {d : Driver} {os : List Order} {ss : List Stop} : good (fauR (drive none d os ss)) = false := rfl
theorem putOk_iff {ss : List Stop} {i j : Int} : putOk ss i j = true ↔ 0 ≤ i ∧ i ≤ j ∧ j ≤ ss.length := by
  simp [putOk, and_assoc]
theorem putS_in {ss : List Stop} {id i j : Int} (h : 0 ≤ i ∧ i ≤ j ∧ j ≤ ss.length) : putS ss id i j = ss.take i.toNat ++ [⟨id, false⟩] ++ (ss.drop i.toNat).take (j.toNat - i.toNat) ++ [⟨id, true⟩] ++ ss.drop j.toNat := by
  unfold putS; rw [if_pos (putOk_iff.2 h)]
theorem putS_out {ss : List Stop} {id i j : Int} (h : ¬ (0 ≤ i ∧ i ≤ j ∧ j ≤ ss.length)) : putS ss id i j = [] := by
  unfold putS; rw [if_neg]; rw [putOk_iff]; exact h
theorem putS_length {ss : List Stop} {id i j : Int} (h : 0 ≤ i ∧ i ≤ j ∧ j ≤ ss.length) : (putS ss id i j).length = ss.length + 2 := by
  rw [putS_in h]
  simp only [List.length_append, List.length_take, List.length_drop, List.length_cons, List.length_nil]
  omega
theorem sput_ok : sput_vc := by
  unfold sput_vc
  simp only [bad_false, int0, nilOf, decide_eq_true_eq, decide_eq_false_iff_not, Bool.not_eq_true', Bool.not_eq_false', Bool.not_true, Bool.not_false, Bool.false_eq_true, Bool.true_eq_false, eq_self, true_and, and_true, false_or, or_false, false_implies, true_implies, implies_true, Int.not_lt, Int.not_le, gt_iff_lt, ge_iff_le, ne_eq]
  intro ss hl id i j hb
  have hl := hl.le
  refine ⟨fun h1 => ⟨fun h2 => ⟨fun h3 => putS_out (by omega), fun h3 => ?_⟩, fun h2 => putS_out (by omega)⟩, fun h1 => putS_out (by omega)⟩
  rw [putS_in ⟨h1, h2, h3⟩, wrap_id (by omega) (by omega)]
  simp only [part, List.length_append, List.length_take, List.length_drop, List.length_cons, List.length_nil, List.length_replicate, Int.toNat_zero, Nat.le_eq, List.replicate_zero, List.nil_append, List.drop_zero, Nat.sub_zero, Int.toNat_natCast]
  refine ⟨by omega, by omega, by omega, by omega, by omega, by omega, by omega, by omega, by omega, ?_⟩
  congr 1
  exact List.take_of_length_le (by rw [List.length_drop]; omega)
theorem sput_t : Told Try.prog 52 sput_con := sput_told csOk_nil sput_ok
/-- What is still to come. -/
def remS (ss : List Stop) (id : Int) (i j k : Nat) : List Stop :=
  if k ≤ i then (ss.drop k).take (i - k) ++ ([⟨id, false⟩] ++ ((ss.drop i).take (j - i) ++ ([⟨id, true⟩] ++ ss.drop j)))
  else if k ≤ j then (ss.drop k).take (j - k) ++ ([⟨id, true⟩] ++ ss.drop j) else ss.drop k
theorem remS_step {ss : List Stop} {id : Int} {i j k : Nat} (hij : i ≤ j) (hj : j ≤ ss.length) :
    remS ss id i j k = (if k = i then [⟨id, false⟩] else []) ++ ((if k = j then [⟨id, true⟩] else []) ++ ((if k < ss.length then [ss.getD k (FK.zero .stop)] else []) ++ remS ss id i j (k + 1))) := by
  have hd : k < ss.length → ss.drop k = ss.getD k (FK.zero .stop) :: ss.drop (k + 1) := fun h => getD_drop h
  have hd' : ¬ k < ss.length → ss.drop k = [] ∧ ss.drop (k + 1) = [] := fun h => ⟨List.drop_eq_nil_of_le (by omega), List.drop_eq_nil_of_le (by omega)⟩
  unfold remS
  have T : ∀ {p : Prop}, p → (p ↔ True) := fun h => iff_true_intro h
  have F : ∀ {p : Prop}, ¬ p → (p ↔ False) := fun h => iff_false_intro h
  by_cases h1 : k < i
  · rw [hd (by omega), show i - k = (i - (k + 1)) + 1 by omega, List.take_succ_cons]
    simp only [T (show k ≤ i by omega), F (show ¬ k = i by omega), F (show ¬ k = j by omega), T (show k + 1 ≤ i by omega), T (show k < ss.length by omega), if_true, if_false, List.nil_append, List.cons_append]
  · by_cases h2 : k = i
    · subst h2
      by_cases h3 : k = j
      · subst h3
        simp only [Nat.le_refl, F (show ¬ k + 1 ≤ k by omega), if_true, if_false, Nat.sub_self, List.take_zero, List.nil_append]
        by_cases h4 : k < ss.length
        · simp only [h4, if_true, hd h4, List.cons_append, List.nil_append]
        · simp only [h4, if_false, (hd' h4).1, (hd' h4).2]; rfl
      · simp only [Nat.le_refl, h3, F (show ¬ k + 1 ≤ k by omega), T (show k + 1 ≤ j by omega), T (show k < ss.length by omega), if_true, if_false, Nat.sub_self, List.take_zero, List.nil_append]
        rw [hd (by omega), show j - k = (j - (k + 1)) + 1 by omega, List.take_succ_cons]
        simp only [List.cons_append, List.nil_append]
    · by_cases h3 : k < j
      · simp only [F (show ¬ k ≤ i by omega), h2, F (show ¬ k = j by omega), F (show ¬ k + 1 ≤ i by omega), T (show k ≤ j by omega), T (show k + 1 ≤ j by omega), T (show k < ss.length by omega), if_true, if_false, List.nil_append]
        rw [hd (by omega), show j - k = (j - (k + 1)) + 1 by omega, List.take_succ_cons]
        simp only [List.cons_append, List.nil_append]
      · by_cases h4 : k = j
        · subst h4
          simp only [F (show ¬ k ≤ i by omega), h2, F (show ¬ k + 1 ≤ i by omega), Nat.le_refl, F (show ¬ k + 1 ≤ k by omega), if_true, if_false, Nat.sub_self, List.take_zero, List.nil_append]
          by_cases h5 : k < ss.length
          · simp only [h5, if_true, hd h5, List.cons_append, List.nil_append]
          · simp only [h5, if_false, (hd' h5).1, (hd' h5).2]; rfl
        · simp only [F (show ¬ k ≤ i by omega), h2, h4, F (show ¬ k + 1 ≤ i by omega), F (show ¬ k ≤ j by omega), F (show ¬ k + 1 ≤ j by omega), if_false, List.nil_append]
          by_cases h5 : k < ss.length
          · simp only [h5, if_true, hd h5, List.cons_append, List.nil_append]
          · simp only [h5, if_false, (hd' h5).1, (hd' h5).2]; rfl
theorem remS_zero {ss : List Stop} {id i j : Int} (h : 0 ≤ i ∧ i ≤ j ∧ j ≤ ss.length) : remS ss id i.toNat j.toNat 0 = putS ss id i j := by
  rw [putS_in h]
  unfold remS
  rw [if_pos (by omega)]
  simp
theorem remS_end {ss : List Stop} {id : Int} {i j k : Nat} (hij : i ≤ j) (hj : j ≤ ss.length) (h : ss.length < k) : remS ss id i j k = [] := by
  unfold remS
  rw [if_neg (by omega), if_neg (by omega)]
  exact List.drop_eq_nil_of_le (by omega)
theorem findO_isNone {os : List Order} {id : Int} : (findO os id).isNone = !(findO os id).isSome := by cases findO os id <;> rfl

/-! ### Latest times -/
theorem last_bound (w : Win) (s u : Int) : 0 ≤ (last_ w s u).1 ∧ (last_ w s u).1 ≤ 1000000 := by
  unfold last_
  split
  · rename_i h
    simp only [Bool.and_eq_true, decide_eq_true_eq] at h
    obtain ⟨⟨⟨h1, h2⟩, h3⟩, h4⟩ := h
    have := right_iff.1 h1
    dsimp only
    omega
  · exact ⟨by decide, by decide⟩
theorem last_ref {w : Win} {s u : Int} (h0 : 0 ≤ s) (h1 : s ≤ 1000000) (hu : -10000000 ≤ u) (hu' : u ≤ 10000000) : lastRef w s u = last_ w s u := by
  unfold lastRef last_
  rw [wrap_id (by omega) (by omega)]
  cases hr : right w with
  | false => simp
  | true =>
    have := right_iff.1 hr
    by_cases h : w.lo ≤ u - s
    · rw [if_pos (by simp; omega), if_pos (by omega), if_pos (by simp; omega)]
    · rw [if_neg (c := (true && decide (0 ≤ s) && decide (0 ≤ u) && decide (w.lo ≤ u - s)) = true) (by simp; omega)]
      split
      · rw [if_neg (by omega)]
      · rfl
theorem latest_bound {m : MapD} {d : Driver} {os : List Order} : ∀ (l : List Stop), ∀ t ∈ latest m d os l, 0 ≤ t ∧ t ≤ 1000000
  | [], t, h => by cases h
  | s :: l, t, h => by
    unfold latest at h
    rcases List.mem_cons.1 h with rfl | h
    · exact last_bound _ _ _
    · exact latest_bound l t h
theorem latest_length {m : MapD} {d : Driver} {os : List Order} : ∀ (l : List Stop), (latest m d os l).length = l.length
  | [] => rfl
  | s :: l => by simp [latest, latest_length l]
theorem rep_set {α : Type} (k : Nat) (z v : α) (L : List α) : (List.replicate (k + 1) z ++ L).set k v = List.replicate k z ++ v :: L := by
  rw [List.replicate_succ', List.append_assoc, List.set_append_right _ _ (by simp)]
  simp
theorem rep_get {α : Type} (k : Nat) (z v d : α) (L : List α) : (List.replicate k z ++ v :: L).getD k d = v := by
  simp [List.getD_eq_getElem?_getD]
def behindOf (os : List Order) : List Stop → Int
  | [] => -1
  | s :: _ => (stopSite os s).pl
end Go.Eng
