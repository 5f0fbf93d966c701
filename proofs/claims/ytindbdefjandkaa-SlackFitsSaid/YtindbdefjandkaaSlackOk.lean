/- How late stops may be begun; an order put between stops: it is so. -/
import Derived.Test.YtindbdefjandkaaSlackVc
set_option linter.unusedVariables false
set_option linter.unusedSimpArgs false
namespace Go.Eng
open Go Go.Proofs

theorem drive_none_bad {d : Driver} {os : List Order} {ss : List Stop} : good (fauR (drive none d os ss)) = false := rfl
theorem putOk_iff {ss : List Stop} {i j : Int} : putOk ss i j = true ↔ 0 ≤ i ∧ i ≤ j ∧ j ≤ ss.length := by
  simp [putOk, and_assoc]
theorem putS_in {ss : List Stop} {id i j : Int} (h : 0 ≤ i ∧ i ≤ j ∧ j ≤ ss.length) : putS ss id i j = ss.take i.toNat ++ [⟨id, false⟩] ++ (ss.drop i.toNat).take (j.toNat - i.toNat) ++ [⟨id, true⟩] ++ ss.drop j.toNat := by
  unfold putS; rw [if_pos (putOk_iff.2 h)]
theorem putS_out {ss : List Stop} {id i j : Int} (h : ¬ (0 ≤ i ∧ i ≤ j ∧ j ≤ ss.length)) : putS ss id i j = [] := by
  unfold putS; rw [if_neg]; rw [putOk_iff]; exact h
theorem putS_length {ss : List Stop} {id i j : Int} (h : 0 ≤ i ∧ i ≤ j ∧ j ≤ ss.length) : (putS ss id i j).length = ss.length + 2 := by
  rw [putS_in h]
  simp only [List.length_append, List.length_take, List.length_drop, List.length_cons, List.length_nil]
  omega
theorem sput_ok : sput_vc := by
  unfold sput_vc
  simp only [bad_false, int0, nilOf, decide_eq_true_eq, decide_eq_false_iff_not, Bool.not_eq_true', Bool.not_eq_false', Bool.not_true, Bool.not_false, Bool.false_eq_true, Bool.true_eq_false, eq_self, true_and, and_true, false_or, or_false, false_implies, true_implies, implies_true, Int.not_lt, Int.not_le, gt_iff_lt, ge_iff_le, ne_eq]
  intro ss hl id i j hb
  have hl := hl.le
  refine ⟨fun h1 => ⟨fun h2 => ⟨fun h3 => putS_out (by omega), fun h3 => ?_⟩, fun h2 => putS_out (by omega)⟩, fun h1 => putS_out (by omega)⟩
  rw [putS_in ⟨h1, h2, h3⟩, wrap_id (by omega) (by omega)]
  simp only [part, List.length_append, List.length_take, List.length_drop, List.length_cons, List.length_nil, List.length_replicate, Int.toNat_zero, Nat.le_eq, List.replicate_zero, List.nil_append, List.drop_zero, Nat.sub_zero, Int.toNat_natCast]
  refine ⟨by omega, by omega, by omega, by omega, by omega, by omega, by omega, by omega, by omega, ?_⟩
  congr 1
  exact List.take_of_length_le (by rw [List.length_drop]; omega)
theorem sput_t : Told Try.prog 12 sput_con := sput_told csOk_nil sput_ok
/-- What is still to come. -/
def remS (ss : List Stop) (id : Int) (i j k : Nat) : List Stop :=
  if k ≤ i then (ss.drop k).take (i - k) ++ ([⟨id, false⟩] ++ ((ss.drop i).take (j - i) ++ ([⟨id, true⟩] ++ ss.drop j)))
  else if k ≤ j then (ss.drop k).take (j - k) ++ ([⟨id, true⟩] ++ ss.drop j) else ss.drop k
theorem remS_step {ss : List Stop} {id : Int} {i j k : Nat} (hij : i ≤ j) (hj : j ≤ ss.length) :
    remS ss id i j k = (if k = i then [⟨id, false⟩] else []) ++ ((if k = j then [⟨id, true⟩] else []) ++ ((if k < ss.length then [ss.getD k (FK.zero .stop)] else []) ++ remS ss id i j (k + 1))) := by
  have hd : k < ss.length → ss.drop k = ss.getD k (FK.zero .stop) :: ss.drop (k + 1) := fun h => getD_drop h
  have hd' : ¬ k < ss.length → ss.drop k = [] ∧ ss.drop (k + 1) = [] := fun h => ⟨List.drop_eq_nil_of_le (by omega), List.drop_eq_nil_of_le (by omega)⟩
  unfold remS
  have T : ∀ {p : Prop}, p → (p ↔ True) := fun h => iff_true_intro h
  have F : ∀ {p : Prop}, ¬ p → (p ↔ False) := fun h => iff_false_intro h
  by_cases h1 : k < i
  · rw [hd (by omega), show i - k = (i - (k + 1)) + 1 by omega, List.take_succ_cons]
    simp only [T (show k ≤ i by omega), F (show ¬ k = i by omega), F (show ¬ k = j by omega), T (show k + 1 ≤ i by omega), T (show k < ss.length by omega), if_true, if_false, List.nil_append, List.cons_append]
  · by_cases h2 : k = i
    · subst h2
      by_cases h3 : k = j
      · subst h3
        simp only [Nat.le_refl, F (show ¬ k + 1 ≤ k by omega), if_true, if_false, Nat.sub_self, List.take_zero, List.nil_append]
        by_cases h4 : k < ss.length
        · simp only [h4, if_true, hd h4, List.cons_append, List.nil_append]
        · simp only [h4, if_false, (hd' h4).1, (hd' h4).2]; rfl
      · simp only [Nat.le_refl, h3, F (show ¬ k + 1 ≤ k by omega), T (show k + 1 ≤ j by omega), T (show k < ss.length by omega), if_true, if_false, Nat.sub_self, List.take_zero, List.nil_append]
        rw [hd (by omega), show j - k = (j - (k + 1)) + 1 by omega, List.take_succ_cons]
        simp only [List.cons_append, List.nil_append]
    · by_cases h3 : k < j
      · simp only [F (show ¬ k ≤ i by omega), h2, F (show ¬ k = j by omega), F (show ¬ k + 1 ≤ i by omega), T (show k ≤ j by omega), T (show k + 1 ≤ j by omega), T (show k < ss.length by omega), if_true, if_false, List.nil_append]
        rw [hd (by omega), show j - k = (j - (k + 1)) + 1 by omega, List.take_succ_cons]
        simp only [List.cons_append, List.nil_append]
      · by_cases h4 : k = j
        · subst h4
          simp only [F (show ¬ k ≤ i by omega), h2, F (show ¬ k + 1 ≤ i by omega), Nat.le_refl, F (show ¬ k + 1 ≤ k by omega), if_true, if_false, Nat.sub_self, List.take_zero, List.nil_append]
          by_cases h5 : k < ss.length
          · simp only [h5, if_true, hd h5, List.cons_append, List.nil_append]
          · simp only [h5, if_false, (hd' h5).1, (hd' h5).2]; rfl
        · simp only [F (show ¬ k ≤ i by omega), h2, h4, F (show ¬ k + 1 ≤ i by omega), F (show ¬ k ≤ j by omega), F (show ¬ k + 1 ≤ j by omega), if_false, List.nil_append]
          by_cases h5 : k < ss.length
          · simp only [h5, if_true, hd h5, List.cons_append, List.nil_append]
          · simp only [h5, if_false, (hd' h5).1, (hd' h5).2]; rfl
theorem remS_zero {ss : List Stop} {id i j : Int} (h : 0 ≤ i ∧ i ≤ j ∧ j ≤ ss.length) : remS ss id i.toNat j.toNat 0 = putS ss id i j := by
  rw [putS_in h]
  unfold remS
  rw [if_pos (by omega)]
  simp
theorem remS_end {ss : List Stop} {id : Int} {i j k : Nat} (hij : i ≤ j) (hj : j ≤ ss.length) (h : ss.length < k) : remS ss id i j k = [] := by
  unfold remS
  rw [if_neg (by omega), if_neg (by omega)]
  exact List.drop_eq_nil_of_le (by omega)
theorem rSput_ok : rSput_vc := by
  unfold rSput_vc
  simp only [bad_false, int0, nilOf, decide_eq_true_eq, decide_eq_false_iff_not, Bool.not_eq_true', Bool.not_eq_false', Bool.not_true, Bool.not_false, Bool.false_eq_true, Bool.true_eq_false, eq_self, true_and, and_true, false_or, or_false, false_implies, true_implies, implies_true, Int.not_lt, Int.not_le, gt_iff_lt, ge_iff_le, ne_eq]
  intro ss hl id i j hb
  have hl := hl.le
  obtain ⟨hb, hp⟩ := hb
  have hp := putOk_iff.1 hp
  have hlen := putS_length (id := id) hp
  refine ⟨fun l k => 0 ≤ k ∧ k ≤ ss.length + 1 ∧ l ++ remS ss id i.toNat j.toNat k.toNat = putS ss id i j, fun l k => ss.length + 2 - k.toNat, ⟨by omega, by omega, ?_⟩, fun l k hi => ⟨fun h => ?_, fun h => ?_⟩⟩
  · rw [List.nil_append]; exact remS_zero hp
  · obtain ⟨k0, k1, hI⟩ := hi
    rw [remS_step (by omega) (by omega)] at hI
    have hll : l.length ≤ ss.length + 2 := by rw [← hlen, ← hI]; simp
    rw [wrap_id (by omega) (by omega)]
    dsimp only
    rw [show (k + 1).toNat = k.toNat + 1 by omega]
    have hlt : k < ss.length ↔ k.toNat < ss.length := by omega
    have hki : k = i ↔ k.toNat = i.toNat := by omega
    have hkj : k = j ↔ k.toNat = j.toNat := by omega
    have fin : ∀ l' : List Stop, l' ++ remS ss id i.toNat j.toNat (k.toNat + 1) = putS ss id i j → (0 ≤ k + 1 ∧ k + 1 ≤ ss.length + 1 ∧ l' ++ remS ss id i.toNat j.toNat (k.toNat + 1) = putS ss id i j) ∧ ss.length + 2 - (k.toNat + 1) < ss.length + 2 - k.toNat := fun l' h' => ⟨⟨by omega, by omega, h'⟩, by omega⟩
    have leng : ∀ l' : List Stop, l' ++ remS ss id i.toNat j.toNat (k.toNat + 1) = putS ss id i j → l'.length ≤ ss.length + 2 := fun l' h' => by rw [← hlen, ← h']; simp
    refine ⟨fun h1 => ?_, fun h1 => ?_⟩
    · rw [if_pos (hki.1 h1)] at hI
      refine ⟨?_, fun h2 => ?_, fun h2 => ?_⟩
      · have : (l ++ [Stop.mk id false]).length ≤ ss.length + 2 := by rw [← hlen, ← hI]; simp <;> omega
        simp at this ⊢; omega
      · rw [if_pos (hkj.1 h2)] at hI
        refine ⟨?_, fun h3 => ?_, fun h3 => ?_⟩
        · have : (l ++ [Stop.mk id false] ++ [Stop.mk id true]).length ≤ ss.length + 2 := by rw [← hlen, ← hI]; simp <;> omega
          simp at this ⊢; omega
        · rw [if_pos (hlt.1 h3)] at hI
          have e : l ++ [Stop.mk id false] ++ [Stop.mk id true] ++ [ss.getD k.toNat (FK.zero .stop)] ++ remS ss id i.toNat j.toNat (k.toNat + 1) = putS ss id i j := by rw [← hI]; simp
          refine ⟨⟨k0, h3⟩, by omega, ?_, fin _ e⟩
          have := leng _ e
          simp at this ⊢; omega
        · rw [if_neg (by omega)] at hI
          exact fin _ (by rw [← hI]; simp)
      · rw [if_neg (by omega)] at hI
        refine ⟨fun h3 => ?_, fun h3 => ?_⟩
        · rw [if_pos (hlt.1 h3)] at hI
          have e : l ++ [Stop.mk id false] ++ [ss.getD k.toNat (FK.zero .stop)] ++ remS ss id i.toNat j.toNat (k.toNat + 1) = putS ss id i j := by rw [← hI]; simp
          refine ⟨⟨k0, h3⟩, by omega, ?_, fin _ e⟩
          have := leng _ e
          simp at this ⊢; omega
        · rw [if_neg (by omega)] at hI
          exact fin _ (by rw [← hI]; simp)
    · rw [if_neg (by omega)] at hI
      refine ⟨fun h2 => ?_, fun h2 => ?_⟩
      · rw [if_pos (hkj.1 h2)] at hI
        refine ⟨?_, fun h3 => ?_, fun h3 => ?_⟩
        · have : (l ++ [Stop.mk id true]).length ≤ ss.length + 2 := by rw [← hlen, ← hI]; simp <;> omega
          simp at this ⊢; omega
        · rw [if_pos (hlt.1 h3)] at hI
          have e : l ++ [Stop.mk id true] ++ [ss.getD k.toNat (FK.zero .stop)] ++ remS ss id i.toNat j.toNat (k.toNat + 1) = putS ss id i j := by rw [← hI]; simp
          refine ⟨⟨k0, h3⟩, by omega, ?_, fin _ e⟩
          have := leng _ e
          simp at this ⊢; omega
        · rw [if_neg (by omega)] at hI
          exact fin _ (by rw [← hI]; simp)
      · rw [if_neg (by omega)] at hI
        refine ⟨fun h3 => ?_, fun h3 => ?_⟩
        · rw [if_pos (hlt.1 h3)] at hI
          have e : l ++ [ss.getD k.toNat (FK.zero .stop)] ++ remS ss id i.toNat j.toNat (k.toNat + 1) = putS ss id i j := by rw [← hI]; simp
          refine ⟨⟨k0, h3⟩, by omega, ?_, fin _ e⟩
          have := leng _ e
          simp at this ⊢; omega
        · rw [if_neg (by omega)] at hI
          exact fin _ (by rw [← hI]; simp)
  · obtain ⟨k0, k1, hI⟩ := hi
    rw [remS_end (by omega) (by omega) (by omega), List.append_nil] at hI
    exact hI
theorem rSput_t : Told Try.prog 19 rSput_con := rSput_told csOk_nil rSput_ok
theorem findO_isNone {os : List Order} {id : Int} : (findO os id).isNone = !(findO os id).isSome := by cases findO os id <;> rfl
theorem fits_out {m : Option MapD} {d : Driver} {os : List Order} {ss : List Stop} {o : Order} {i j : Int} (h : ¬ (0 ≤ i ∧ i ≤ j ∧ j ≤ ss.length)) : fits m d os ss o i j = false := by
  have : putOk ss i j = false := by
    cases hh : putOk ss i j with
    | false => rfl
    | true => exact absurd (putOk_iff.1 hh) h
  simp [fits, this]
theorem fits_in {m : Option MapD} {d : Driver} {os : List Order} {ss : List Stop} {o : Order} {i j : Int} (h : 0 ≤ i ∧ i ≤ j ∧ j ≤ ss.length) : fits m d os ss o i j = (good (fauR (drive m d os ss)) && !(findO os o.id).isSome && good (fauR (drive m d (os ++ [o]) (putS ss o.id i j)))) := by
  unfold fits
  rw [putOk_iff.2 h, findO_isNone, Bool.true_and]
theorem sfits_gen (m : Option MapD) (d : Driver) (os : List Order) (ss : List Stop) (o : Order) (i j : Int) (hl : LenOk os.length) (hm : MapOkO m) (hb : os.length * 80 ≤ 140737488351232) (hb' : ss.length * 16 ≤ 140737488351232) :
    (0 ≤ i → (i ≤ j → ((ss.length : Int) < j → false = fits m d os ss o i j) ∧ (j ≤ ss.length → MapOkO m ∧ (good (fauR (drive m d os ss)) = true → ((findO os o.id).isSome = true → false = fits m d os ss o i j) ∧
      ((findO os o.id).isSome = false → ((0 : Int) ≤ 0 ∧ 0 ≤ wrap (↑os.length + 1) ∧ wrap (↑os.length + 1) * (8 * ((10 : Nat) : Int)) ≤ 281474976710656) ∧ ((List.replicate (Int.toNat 0) (FK.zero .order)).length + os.length) * (8 * 10) ≤ 140737488355328 ∧
        ((List.replicate (Int.toNat 0) (FK.zero .order) ++ os).length + [o].length) * (8 * 10) ≤ 140737488355328 ∧ ss.length * 16 ≤ 140737488351232 ∧ MapOkO m ∧ good (fauR (drive m d (List.replicate (Int.toNat 0) (FK.zero .order) ++ os ++ [o]) (putS ss o.id i j))) = fits m d os ss o i j)) ∧
      (good (fauR (drive m d os ss)) = false → false = fits m d os ss o i j))) ∧ (j < i → false = fits m d os ss o i j)) ∧ (i < 0 → false = fits m d os ss o i j) := by
  have hl := hl.le
  refine ⟨fun h1 => ⟨fun h2 => ⟨fun h3 => (fits_out (by omega)).symm, fun h3 => ⟨hm, fun h4 => ⟨fun h5 => ?_, fun h5 => ?_⟩, fun h4 => ?_⟩⟩, fun h2 => (fits_out (by omega)).symm⟩, fun h1 => (fits_out (by omega)).symm⟩
  · rw [fits_in ⟨h1, h2, h3⟩, h5]; simp
  · rw [fits_in ⟨h1, h2, h3⟩, h5, h4, wrap_id (by omega) (by omega)]
    refine ⟨by omega, by simp; omega, by simp; omega, by omega, hm, ?_⟩
    simp
  · rw [fits_in ⟨h1, h2, h3⟩, h4]; simp
theorem sfits_ok : sfits_vc := by
  unfold sfits_vc
  simp only [bad_false, int0, nilOf, decide_eq_true_eq, decide_eq_false_iff_not, Bool.not_eq_true', Bool.not_eq_false', Bool.not_true, Bool.not_false, Bool.false_eq_true, Bool.true_eq_false, eq_self, true_and, and_true, false_or, or_false, false_implies, true_implies, implies_true, Int.not_lt, Int.not_le, gt_iff_lt, ge_iff_le, ne_eq]
  exact ⟨fun d os hl ss _ o i j ⟨hm, hb, hb'⟩ => sfits_gen none d os ss o i j hl hm hb hb', fun m _ d os hl ss _ o i j ⟨hm, hb, hb'⟩ => sfits_gen (some m) d os ss o i j hl hm hb hb'⟩
theorem sfits_t : Told Try.prog 14 sfits_con := sfits_told (csOk_cons drive_t (csOk_cons find_t (csOk_cons goodF_t (csOk_cons sput_t csOk_nil)))) sfits_ok
theorem ixO_isSome {os : List Order} {id : Int} : (0 ≤ ixO os id 0 → (findO os id).isSome = true) ∧ (ixO os id 0 < 0 → (findO os id).isSome = false) :=
  ⟨fun h => (ixO_pos h).1, fun h => by rw [ixO_neg h]; rfl⟩
theorem rSfits_ok : rSfits_vc := by
  unfold rSfits_vc
  simp only [bad_false, int0, nilOf, decide_eq_true_eq, decide_eq_false_iff_not, Bool.not_eq_true', Bool.not_eq_false', Bool.not_true, Bool.not_false, Bool.false_eq_true, Bool.true_eq_false, eq_self, true_and, and_true, false_or, or_false, false_implies, true_implies, implies_true, Int.not_lt, Int.not_le, gt_iff_lt, ge_iff_le, ne_eq]
  have key : ∀ (m : Option MapD) (d : Driver) (os : List Order) (ss : List Stop) (o : Order) (i j : Int), LenOk os.length → MapOkO m → os.length * 80 ≤ 140737488351232 → ss.length * 16 ≤ 140737488351232 →
      (0 ≤ i → (i ≤ j → (j ≤ ss.length → (0 ≤ ixO os o.id 0 → false = fits m d os ss o i j) ∧ (ixO os o.id 0 < 0 → MapOkO m ∧ (0 + os.length) * (8 * 10) ≤ 140737488355328 ∧ (([] ++ os).length + [o].length) * (8 * 10) ≤ 140737488355328 ∧ (ss.length * 16 ≤ 140737488351232 ∧ putOk ss i j = true) ∧ MapOkO m ∧
        ((fauR (drive m d os ss)).why = 0 → decide ((fauR (drive m d ([] ++ os ++ [o]) (putS ss o.id i j))).why = 0) = fits m d os ss o i j) ∧ (¬(fauR (drive m d os ss)).why = 0 → false = fits m d os ss o i j))) ∧
        ((ss.length : Int) < j → false = fits m d os ss o i j)) ∧ (j < i → false = fits m d os ss o i j)) ∧ (i < 0 → false = fits m d os ss o i j) := by
    intro m d os ss o i j hl hm hb hb'
    have hl := hl.le
    refine ⟨fun h1 => ⟨fun h2 => ⟨fun h3 => ⟨fun h4 => ?_, fun h4 => ?_⟩, fun h3 => (fits_out (by omega)).symm⟩, fun h2 => (fits_out (by omega)).symm⟩, fun h1 => (fits_out (by omega)).symm⟩
    · rw [fits_in ⟨h1, h2, h3⟩, ixO_isSome.1 h4]; simp
    · rw [fits_in ⟨h1, h2, h3⟩, ixO_isSome.2 h4]
      refine ⟨hm, by omega, by simp; omega, ⟨hb', putOk_iff.2 ⟨h1, h2, h3⟩⟩, hm, fun h5 => ?_, fun h5 => ?_⟩
      · simp [good, h5]
      · simp [good, h5]
  exact ⟨fun d os hl ss _ o i j ⟨hm, hb, hb'⟩ => key none d os ss o i j hl hm hb hb', fun m _ d os hl ss _ o i j ⟨hm, hb, hb'⟩ => key (some m) d os ss o i j hl hm hb hb'⟩
theorem rSfits_t : Told Try.prog 20 rSfits_con := rSfits_told (csOk_cons rFind_t (csOk_cons rDrive_t (csOk_cons rSput_t csOk_nil))) rSfits_ok

/-! ### Latest times -/
theorem last_bound (w : Win) (s u : Int) : 0 ≤ (last_ w s u).1 ∧ (last_ w s u).1 ≤ 1000000 := by
  unfold last_
  split
  · rename_i h
    simp only [Bool.and_eq_true, decide_eq_true_eq] at h
    obtain ⟨⟨⟨h1, h2⟩, h3⟩, h4⟩ := h
    have := right_iff.1 h1
    dsimp only
    omega
  · exact ⟨by decide, by decide⟩
theorem last_ref {w : Win} {s u : Int} (h0 : 0 ≤ s) (h1 : s ≤ 1000000) (hu : -10000000 ≤ u) (hu' : u ≤ 10000000) : lastRef w s u = last_ w s u := by
  unfold lastRef last_
  rw [wrap_id (by omega) (by omega)]
  cases hr : right w with
  | false => simp
  | true =>
    have := right_iff.1 hr
    by_cases h : w.lo ≤ u - s
    · rw [if_pos (by simp; omega), if_pos (by omega), if_pos (by simp; omega)]
    · rw [if_neg (c := (true && decide (0 ≤ s) && decide (0 ≤ u) && decide (w.lo ≤ u - s)) = true) (by simp; omega)]
      split
      · rw [if_neg (by omega)]
      · rfl
theorem latest_bound {m : MapD} {d : Driver} {os : List Order} : ∀ (l : List Stop), ∀ t ∈ latest m d os l, 0 ≤ t ∧ t ≤ 1000000
  | [], t, h => by cases h
  | s :: l, t, h => by
    unfold latest at h
    rcases List.mem_cons.1 h with rfl | h
    · exact last_bound _ _ _
    · exact latest_bound l t h
theorem latest_length {m : MapD} {d : Driver} {os : List Order} : ∀ (l : List Stop), (latest m d os l).length = l.length
  | [] => rfl
  | s :: l => by simp [latest, latest_length l]
theorem rep_set {α : Type} (k : Nat) (z v : α) (L : List α) : (List.replicate (k + 1) z ++ L).set k v = List.replicate k z ++ v :: L := by
  rw [List.replicate_succ', List.append_assoc, List.set_append_right _ _ (by simp)]
  simp
theorem rep_get {α : Type} (k : Nat) (z v d : α) (L : List α) : (List.replicate k z ++ v :: L).getD k d = v := by
  simp [List.getD_eq_getElem?_getD]
def behindOf (os : List Order) : List Stop → Int
  | [] => -1
  | s :: _ => (stopSite os s).pl
theorem slat_ok : slat_vc := by
  unfold slat_vc
  simp only [bad_false, int0, nilOf, decide_eq_true_eq, decide_eq_false_iff_not, Bool.not_eq_true', Bool.not_eq_false', Bool.not_true, Bool.not_false, Bool.false_eq_true, Bool.true_eq_false, eq_self, true_and, and_true, false_or, or_false, false_implies, true_implies, implies_true, Int.not_lt, Int.not_le, gt_iff_lt, ge_iff_le, ne_eq]
  refine ⟨fun d os _ ss _ hm => ⟨hm, fun _ => ⟨rfl, rfl⟩, fun h => by cases h⟩, fun m _ d os _ ss hss hm => ⟨hm, fun h => ⟨h.symm, ?_⟩, fun hg => ?_⟩⟩
  · unfold latR; dsimp only; rw [h]; rfl
  · obtain ⟨hM, hh, hk, hfew, hall⟩ := way_pre (hm m rfl) hg
    obtain ⟨x, vs, hx, hf, _, _⟩ := drive_good hg
    injection hx with hx
    subst hx
    have hd := driverE_ok (fitB_iff.1 hf).1
    have hdw := hd.win
    refine ⟨by omega, fun u b k out => -1 ≤ k ∧ k < ss.length ∧ out = List.replicate (k + 1).toNat 0 ++ latest m d os (ss.drop (k + 1).toNat) ∧ b = behindOf os (ss.drop (k + 1).toNat) ∧ (ss.drop (k + 1).toNat = [] → u = d.hi),
      fun u b k out => (k + 1).toNat, ?_, fun u b k out hi => ⟨fun h => ?_, fun h => ?_⟩⟩
    · rw [wrap_id (by omega) (by omega)]
      have e : ((ss.length : Int) - 1 + 1).toNat = ss.length := by omega
      have e2 : (ss.length : Int).toNat = ss.length := by omega
      dsimp only
      rw [e, e2, List.drop_of_length_le (Nat.le_refl _)]
      exact ⟨by omega, by omega, by simp [latest], rfl, fun _ => rfl⟩
    · obtain ⟨k0, k1, hout, hb, hu⟩ := hi
      have ek : (k + 1).toNat = k.toNat + 1 := by omega
      have ek' : (k - 1 + 1).toNat = k.toNat := by omega
      have hkl : k.toNat < ss.length := by omega
      have hdr : ss.drop k.toNat = ss.getD k.toNat (FK.zero .stop) :: ss.drop (k.toNat + 1) := getD_drop hkl
      have hlen : out.length = ss.length := by rw [hout, List.length_append, latest_length, List.length_replicate, List.length_drop]; omega
      rw [ek] at hout hb hu
      have fin : ∀ u' : Int, u' = untilOf m d os (ss.getD k.toNat (FK.zero .stop)) (ss.drop (k.toNat + 1)) (latest m d os (ss.drop (k.toNat + 1))) →
          out.set k.toNat (last_ (stopSite os (ss.getD k.toNat (FK.zero .stop))).win (stopSite os (ss.getD k.toNat (FK.zero .stop))).sv u').1 = List.replicate (k - 1 + 1).toNat 0 ++ latest m d os (ss.drop (k - 1 + 1).toNat) := by
        rintro u' rfl
        rw [ek', hdr, hout, rep_set]
        rfl
      have hbe : (stopSite os (ss.getD k.toNat (FK.zero .stop))).pl = behindOf os (ss.drop (k - 1 + 1).toNat) := by rw [ek', hdr]; rfl
      have hne : ss.drop (k - 1 + 1).toNat = [] → False := by rw [ek', hdr]; intro h; cases h
      have hmem : ss.getD k.toNat (FK.zero .stop) ∈ ss := by rw [getD_of hkl]; exact List.getElem_mem _
      obtain ⟨ho, _, _⟩ := fo_ok hk (hall _ hmem)
      have hst : SiteOk m (stopSite os (ss.getD k.toNat (FK.zero .stop))) := siteOf_ok ho _
      rw [wrap_id (n := k - 1) (by omega) (by omega)]
      rw [wrap_id (n := k + 1) (by omega) (by omega), ek]
      refine ⟨⟨h, k1⟩, hkl, ⟨h, k1⟩, hkl, fun hb0 => ?_, fun hb0 => ?_⟩
      · cases hrest : ss.drop (k.toNat + 1) with
        | nil => rw [hb, hrest] at hb0; exact absurd hb0 (by show ¬ (0 : Int) ≤ -1; decide)
        | cons n l =>
          have hlen2 := congrArg List.length hrest
          rw [List.length_drop, List.length_cons] at hlen2
          have hnm : n ∈ ss := List.mem_of_mem_drop (by rw [hrest]; exact List.mem_cons_self)
          obtain ⟨ho', _, _⟩ := fo_ok hk (hall _ hnm)
          have hst' : SiteOk m (stopSite os n) := siteOf_ok ho' _
          rw [hrest] at hb hout fin
          have hL : latest m d os (n :: l) = (last_ (stopSite os n).win (stopSite os n).sv (untilOf m d os n l (latest m d os l))).1 :: latest m d os l := rfl
          have hg1 : out.getD (k.toNat + 1) 0 = (last_ (stopSite os n).win (stopSite os n).sv (untilOf m d os n l (latest m d os l))).1 := by rw [hout, hL, rep_get]
          have hbd := last_bound (stopSite os n).win (stopSite os n).sv (untilOf m d os n l (latest m d os l))
          have htm := tm_bound hM (stopSite os (ss.getD k.toNat (FK.zero .stop))).pl (stopSite os n).pl
          have hb' : b = (stopSite os n).pl := hb
          have hU : min d.hi (wrap (out.getD (k.toNat + 1) 0 - (mtime (some m) (siteOf (fo os (ss.getD k.toNat (FK.zero .stop)).order) (ss.getD k.toNat (FK.zero .stop)).drop).pl b).1)) = untilOf m d os (ss.getD k.toNat (FK.zero .stop)) (n :: l) (latest m d os (n :: l)) := by
            rw [show siteOf (fo os (ss.getD k.toNat (FK.zero .stop)).order) (ss.getD k.toNat (FK.zero .stop)).drop = stopSite os (ss.getD k.toNat (FK.zero .stop)) from rfl, hb', mtime_in hst.pl.1 hst.pl.2 hst'.pl.1 hst'.pl.2]
            rw [hg1, wrap_id (by omega) (by omega), hL]
            rfl
          rw [hU]
          refine ⟨hm, ⟨by omega, by omega⟩, by omega, ⟨h, by omega⟩, by omega, ⟨by omega, by omega, ?_, hbe, fun h => (hne h).elim⟩, by dsimp only; omega⟩
          exact fin _ rfl
      · cases hrest : ss.drop (k.toNat + 1) with
        | cons n l =>
          have hnm : n ∈ ss := List.mem_of_mem_drop (by rw [hrest]; exact List.mem_cons_self)
          obtain ⟨ho', _, _⟩ := fo_ok hk (hall _ hnm)
          have hst' : SiteOk m (stopSite os n) := siteOf_ok ho' _
          have := hst'.pl.1
          rw [hb, hrest] at hb0
          exact absurd hb0 (by show ¬ (stopSite os n).pl < 0; omega)
        | nil =>
          refine ⟨⟨h, by omega⟩, by omega, ⟨by omega, by omega, ?_, hbe, fun h => (hne h).elim⟩, by dsimp only; omega⟩
          refine fin _ ?_
          rw [hrest, hu hrest]
          rfl
    · obtain ⟨k0, k1, hout, hb, hu⟩ := hi
      refine ⟨hg.symm, ?_⟩
      have : (k + 1).toNat = 0 := by omega
      rw [hout, this]
      unfold latR
      dsimp only
      rw [hg]
      rfl
theorem slat_t : Told Try.prog 10 slat_con := slat_told (csOk_cons drive_t (csOk_cons goodF_t (csOk_cons find_t (csOk_cons site_t (csOk_cons time_t (csOk_cons last_t csOk_nil)))))) slat_ok
theorem rSlat_ok : rSlat_vc := by
  unfold rSlat_vc
  simp only [bad_false, int0, nilOf, decide_eq_true_eq, decide_eq_false_iff_not, Bool.not_eq_true', Bool.not_eq_false', Bool.not_true, Bool.not_false, Bool.false_eq_true, Bool.true_eq_false, eq_self, true_and, and_true, false_or, or_false, false_implies, true_implies, implies_true, Int.not_lt, Int.not_le, gt_iff_lt, ge_iff_le, ne_eq]
  refine ⟨fun d os _ ss _ hm => ⟨hm, fun _ => ⟨rfl, rfl⟩, fun h => absurd h (by show ¬ (1 : Int) = 0; decide)⟩, fun m _ d os hos ss hss hm => ⟨hm, fun h => ?_, fun hg => ?_⟩⟩
  · have hb : good (fauR (drive (some m) d os ss)) = false := decide_eq_false h
    refine ⟨hb.symm, ?_⟩
    unfold latR; dsimp only; rw [hb]; rfl
  · have hg : good (fauR (drive (some m) d os ss)) = true := decide_eq_true hg
    obtain ⟨hM, hh, hk, hfew, hall⟩ := way_pre (hm m rfl) hg
    obtain ⟨x, vs, hx, hf, _, _⟩ := drive_good hg
    injection hx with hx
    subst hx
    have hd := driverE_ok (fitB_iff.1 hf).1
    have hdw := hd.win
    have hix : ∀ s ∈ ss, 0 ≤ ixO os s.order 0 := fun s hs => by
      obtain ⟨o, ho⟩ := Option.isSome_iff_exists.1 (hall s hs)
      exact (ixO_some ho).1
    refine ⟨by omega, fun k out => -1 ≤ k ∧ k < ss.length ∧ out = List.replicate (k + 1).toNat 0 ++ latest m d os (ss.drop (k + 1).toNat),
      fun k out => (k + 1).toNat, ?_, fun k out hi => ⟨fun h => ?_, fun h => ?_⟩⟩
    · rw [wrap_id (by omega) (by omega)]
      have e : ((ss.length : Int) - 1 + 1).toNat = ss.length := by omega
      have e2 : (ss.length : Int).toNat = ss.length := by omega
      dsimp only
      rw [e, e2, List.drop_of_length_le (Nat.le_refl _)]
      exact ⟨by omega, by omega, by simp [latest]⟩
    · obtain ⟨k0, k1, hout⟩ := hi
      have ek : (k + 1).toNat = k.toNat + 1 := by omega
      have ek' : (k - 1 + 1).toNat = k.toNat := by omega
      have hkl : k.toNat < ss.length := by omega
      have hdr : ss.drop k.toNat = ss.getD k.toNat (FK.zero .stop) :: ss.drop (k.toNat + 1) := getD_drop hkl
      have hlen : out.length = ss.length := by rw [hout, List.length_append, latest_length, List.length_replicate, List.length_drop]; omega
      have hmem : ss.getD k.toNat (FK.zero .stop) ∈ ss := by rw [getD_of hkl]; exact List.getElem_mem _
      rw [ek] at hout
      obtain ⟨ho, _, _⟩ := fo_ok hk (hall _ hmem)
      have hst : SiteOk m (stopSite os (ss.getD k.toNat (FK.zero .stop))) := siteOf_ok ho _
      have x0 := hix _ hmem
      obtain ⟨_, x2, x3⟩ := ixO_pos x0
      have hsv := hst.sv
      have fin : ∀ u' : Int, u' = untilOf m d os (ss.getD k.toNat (FK.zero .stop)) (ss.drop (k.toNat + 1)) (latest m d os (ss.drop (k.toNat + 1))) → -10000000 ≤ u' → u' ≤ 10000000 →
          out.set k.toNat (lastRef (stopSite os (ss.getD k.toNat (FK.zero .stop))).win (stopSite os (ss.getD k.toNat (FK.zero .stop))).sv u').1 = List.replicate (k - 1 + 1).toNat 0 ++ latest m d os (ss.drop (k - 1 + 1).toNat) := by
        rintro u' rfl b1 b2
        rw [last_ref hsv.1 hsv.2 b1 b2, ek', hdr, hout, rep_set]
        rfl
      rw [wrap_id (n := k - 1) (by omega) (by omega)]
      rw [wrap_id (n := k + 1) (by omega) (by omega), ek, x3]
      refine ⟨⟨h, k1⟩, hkl, ⟨x0, x2⟩, by omega, ⟨h, k1⟩, hkl, fun hb0 => ?_, fun hb0 => ?_⟩
      · have hkl' : k.toNat + 1 < ss.length := by omega
        have hdr' : ss.drop (k.toNat + 1) = ss.getD (k.toNat + 1) (FK.zero .stop) :: ss.drop (k.toNat + 1 + 1) := getD_drop hkl'
        have hnm : ss.getD (k.toNat + 1) (FK.zero .stop) ∈ ss := by rw [getD_of hkl']; exact List.getElem_mem _
        generalize ss.getD (k.toNat + 1) (FK.zero .stop) = n at *
        generalize ss.drop (k.toNat + 1 + 1) = l at *
        obtain ⟨ho', _, _⟩ := fo_ok hk (hall _ hnm)
        have hst' : SiteOk m (stopSite os n) := siteOf_ok ho' _
        have y0 := hix _ hnm
        obtain ⟨_, y2, y3⟩ := ixO_pos y0
        rw [hdr'] at hout fin
        have hL : latest m d os (n :: l) = (last_ (stopSite os n).win (stopSite os n).sv (untilOf m d os n l (latest m d os l))).1 :: latest m d os l := rfl
        have hg1 : out.getD (k.toNat + 1) 0 = (last_ (stopSite os n).win (stopSite os n).sv (untilOf m d os n l (latest m d os l))).1 := by rw [hout, hL, rep_get]
        have hbd := last_bound (stopSite os n).win (stopSite os n).sv (untilOf m d os n l (latest m d os l))
        have htm := tm_bound hM (stopSite os (ss.getD k.toNat (FK.zero .stop))).pl (stopSite os n).pl
        have hT : (mtime (some m) (siteOf (fo os (ss.getD k.toNat (FK.zero .stop)).order) (ss.getD k.toNat (FK.zero .stop)).drop).pl (siteOf (fo os n.order) n.drop).pl).1 = tm m (stopSite os (ss.getD k.toNat (FK.zero .stop))).pl (stopSite os n).pl := by
          rw [show siteOf (fo os (ss.getD k.toNat (FK.zero .stop)).order) (ss.getD k.toNat (FK.zero .stop)).drop = stopSite os (ss.getD k.toNat (FK.zero .stop)) from rfl, show siteOf (fo os n.order) n.drop = stopSite os n from rfl, mtime_in hst.pl.1 hst.pl.2 hst'.pl.1 hst'.pl.2]
        rw [y3, hT, hg1, wrap_id (n := _ - _) (by omega) (by omega)]
        have hU : untilOf m d os (ss.getD k.toNat (FK.zero .stop)) (n :: l) (latest m d os (n :: l)) = min d.hi ((last_ (stopSite os n).win (stopSite os n).sv (untilOf m d os n l (latest m d os l))).1 - tm m (stopSite os (ss.getD k.toNat (FK.zero .stop))).pl (stopSite os n).pl) := by rw [hL]; rfl
        refine ⟨⟨by omega, by omega⟩, by omega, ⟨y0, y2⟩, by omega, ⟨by omega, by omega⟩, by omega, hM, ⟨by omega, by omega⟩, by omega, fun hlt => ⟨⟨by omega, by omega⟩, by omega, ⟨h, by omega⟩, by omega, ⟨by omega, by omega, ?_⟩, by dsimp only; omega⟩, fun hlt => ⟨⟨h, by omega⟩, by omega, ⟨by omega, by omega, ?_⟩, by dsimp only; omega⟩⟩
        · exact fin _ (by rw [hU]; omega) (by omega) (by omega)
        · exact fin _ (by rw [hU]; omega) (by omega) (by omega)
      · have hn : ss.drop (k.toNat + 1) = [] := List.drop_eq_nil_of_le (by omega)
        refine ⟨⟨h, by omega⟩, by omega, ⟨by omega, by omega, ?_⟩, by dsimp only; omega⟩
        exact fin _ (by rw [hn]; rfl) (by omega) (by omega)
    · obtain ⟨k0, k1, hout⟩ := hi
      refine ⟨hg.symm, ?_⟩
      have : (k + 1).toNat = 0 := by omega
      rw [hout, this]
      unfold latR
      dsimp only
      rw [hg]
      rfl
theorem rSlat_t : Told Try.prog 17 rSlat_con := rSlat_told (csOk_cons rDrive_t (csOk_cons rFind_t (csOk_cons rSite_t (csOk_cons rTime_t (csOk_cons rLast_t csOk_nil))))) rSlat_ok
end Go.Eng
