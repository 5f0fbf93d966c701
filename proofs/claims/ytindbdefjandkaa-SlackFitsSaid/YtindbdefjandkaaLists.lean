/- Lists that are compared, copied, kept: plain laws for the books of memory. -/
import Derived.Test.YtindbdefjandkaaBase
set_option linter.unusedVariables false
set_option linter.unusedSimpArgs false
namespace Go.Eng
open Go

theorem wrap_id {n : Int} (h : -9223372036854775808 ≤ n) (h' : n ≤ 9223372036854775807) : wrap n = n := by
  simp [wrap, IntKind.wrap, IntKind.bits, IntKind.signed]
  split <;> omega
theorem bad_false {n : Nat} {α : Type} {x : α} : Bad n α x ↔ False := ⟨fun h => (nomatch h), False.elim⟩
@[reducible] def o0 : Order := FK.zero .order
@[reducible] def s0 : Stop := FK.zero .stop
@[reducible] def v0 : Visit := FK.zero .visit
@[reducible] def d0 : Driver := FK.zero .driver
theorem int0 : Int.ofNat (0 : Nat) = (0 : Int) := rfl
theorem getD_drop {α : Type} {l : List α} {i : Nat} {d : α} (h : i < l.length) : l.drop i = l.getD i d :: l.drop (i + 1) := by
  rw [List.drop_eq_getElem_cons h]; simp [h]
theorem same_iff {α : Type} {x y : List α} : same x y = true ↔ x = y := by simp [same]
theorem same_self {α : Type} (x : List α) : same x x = true := same_iff.2 rfl
theorem same_ne {α : Type} {x y : List α} (h : x ≠ y) : same x y = false := by
  cases hs : same x y with
  | false => rfl
  | true => exact absurd (same_iff.1 hs) h
theorem roomy_length {α : Type} (x : List α) (m : α) : (roomy x m).length = x.length + 80 := by simp [roomy]
theorem part_roomy {α : Type} (x : List α) (m : α) : part (roomy x m) 0 x.length = x := by simp [part, roomy]

/-- The loop of Same. -/
theorem same_loop {α : Type} {d : α} {eqb : α → α → Bool} (he : ∀ a b, eqb a b = true ↔ a = b) {x y : List α} (hx : x.length ≤ 9223372036854775807) (hl : x.length = y.length) {i : Int} (h0 : 0 ≤ i) (h1 : i ≤ x.length) (h2 : x.take i.toNat = y.take i.toNat) :
    (i < x.length → (0 ≤ i ∧ i < (y.length : Int)) ∧ i.toNat < y.length ∧ (eqb (x.getD i.toNat d) (y.getD i.toNat d) = false → same x y = false) ∧
      (eqb (x.getD i.toNat d) (y.getD i.toNat d) = true → wrap (i + 1) = i + 1 ∧ x.take (i + 1).toNat = y.take (i + 1).toNat)) ∧ (¬ i < x.length → same x y = true) := by
  refine ⟨fun h => ⟨⟨h0, by omega⟩, by omega, fun hb => same_ne ?_, fun hb => ⟨wrap_id (by omega) (by omega), ?_⟩⟩, fun h => ?_⟩
  · rintro rfl
    have := (he (x.getD i.toNat d) (x.getD i.toNat d)).2 rfl
    rw [hb] at this; cases this
  · have := (he _ _).1 hb
    have e : (i + 1).toNat = i.toNat + 1 := by omega
    have hi : i.toNat < x.length := by omega
    have hi' : i.toNat < y.length := by omega
    rw [e, List.take_add_one, List.take_add_one, h2]
    congr 1
    rw [List.getElem?_eq_getElem hi, List.getElem?_eq_getElem hi']
    rw [List.getD_eq_getElem?_getD, List.getD_eq_getElem?_getD, List.getElem?_eq_getElem hi, List.getElem?_eq_getElem hi'] at this
    simpa using this
  · have e1 : x.take i.toNat = x := List.take_of_length_le (by omega)
    have e2 : y.take i.toNat = y := List.take_of_length_le (by omega)
    rw [e1, e2] at h2
    exact same_iff.2 h2
theorem fill_set {α : Type} (x : List α) (k n : Nat) (m z : α) (h : k < n) :
    (x ++ (List.replicate k m ++ List.replicate (n - k) z)).set (x.length + k) m = x ++ (List.replicate (k + 1) m ++ List.replicate (n - (k + 1)) z) := by
  have e : n - k = (n - (k + 1)) + 1 := by omega
  rw [List.set_append_right _ _ (by omega)]
  congr 1
  rw [show x.length + k - x.length = k by omega, List.set_append_right _ _ (by simp)]
  simp only [List.length_replicate, Nat.sub_self]
  rw [e, List.replicate_succ, List.set_cons_zero, List.replicate_succ', List.append_assoc]
  rfl
theorem fill_first {α : Type} (x : List α) (z : α) (n : Nat) : x.take (List.replicate (x.length + n) z).length ++ (List.replicate (x.length + n) z).drop x.length = x ++ List.replicate n z := by
  simp [List.take_of_length_le]
/-- The conditions of Same. -/
theorem same_gen {α : Type} {d : α} {eqb : α → α → Bool} (he : ∀ a b, eqb a b = true ↔ a = b) (x : List α) (hx : LenOk x.length) (y : List α) :
    ((!decide ((x.length : Int) = (y.length : Int))) = true → false = same x y) ∧
      ((!decide ((x.length : Int) = (y.length : Int))) = false →
        ∃ (inv : Int → Prop), ∃ (μ : Int → Nat), (((0 : Int) = (0 : Int) ∧ y = y ∧ x = x) ∧ inv (0 : Int)) ∧
          ∀ i : Int, inv i → (decide (i < (x.length : Int)) = true → ((0 : Int) ≤ i ∧ i < (x.length : Int)) ∧ i.toNat < x.length ∧ ((0 : Int) ≤ i ∧ i < (y.length : Int)) ∧ i.toNat < y.length ∧
              ((!eqb (x.getD i.toNat d) (y.getD i.toNat d)) = true → false = same x y) ∧
              ((!eqb (x.getD i.toNat d) (y.getD i.toNat d)) = false → (wrap (i + (1 : Int)) = wrap (i + (1 : Int)) ∧ y = y ∧ x = x) ∧ inv (wrap (i + (1 : Int))) ∧ μ (wrap (i + (1 : Int))) < μ i)) ∧
            (decide (i < (x.length : Int)) = false → true = same x y)) := by
  have hx := hx.le
  refine ⟨fun h => ?_, fun h => ?_⟩
  · rw [same_ne]
    rintro rfl
    simp at h
  · simp only [Bool.not_eq_false', decide_eq_true_eq] at h
    have hl : x.length = y.length := by omega
    refine ⟨fun i => 0 ≤ i ∧ i ≤ x.length ∧ x.take i.toNat = y.take i.toNat, fun i => x.length - i.toNat, ⟨⟨rfl, rfl, rfl⟩, by simp⟩, ?_⟩
    rintro i ⟨h0, h1, h2⟩
    have hs := same_loop (d := d) he hx hl h0 h1 h2
    refine ⟨fun h => ?_, fun h => ?_⟩
    · have h : i < x.length := of_decide_eq_true h
      obtain ⟨a, b, c, e⟩ := hs.1 h
      refine ⟨⟨h0, h⟩, by omega, a, b, fun hn => (c (by simpa only [Bool.not_eq_true'] using hn)).symm, fun hn => ?_⟩
      obtain ⟨e, f⟩ := e (by simpa only [Bool.not_eq_false'] using hn)
      rw [e]
      exact ⟨⟨rfl, rfl, rfl⟩, ⟨by omega, by omega, f⟩, by show x.length - (i + 1).toNat < x.length - i.toNat; omega⟩
    · exact (hs.2 (of_decide_eq_false h)).symm
/-- The conditions of Intact's loop. -/
theorem intact_gen {α : Type} {d : α} {eqb : α → α → Bool} {e : Prop} (tr : e) (he : ∀ a b, eqb a b = true ↔ a = b) (x : List α) (hx : LenOk x.length) (y : List α) (hy : LenOk y.length) (m : α) :
    ((!decide ((x.length : Int) = wrap ((y.length : Int) + (80 : Int)))) = false →
        ((0 : Int) ≤ (0 : Int) ∧ (0 : Int) ≤ (y.length : Int) ∧ (y.length : Int) ≤ (x.length : Int)) ∧
          Int.toNat (0 : Int) + ((y.length : Int).toNat - Int.toNat (0 : Int)) ≤ x.length ∧
            ((!same (part x (Int.toNat (0 : Int)) ((y.length : Int).toNat - Int.toNat (0 : Int))) y) = true → false = same x (roomy y m)) ∧
            ((!same (part x (Int.toNat (0 : Int)) ((y.length : Int).toNat - Int.toNat (0 : Int))) y) = false →
              ∃ (inv : Int → Prop), ∃ (μ : Int → Nat), (((y.length : Int) = (y.length : Int) ∧ e ∧ x = x) ∧ inv (y.length : Int)) ∧
                ∀ i : Int, inv i → (decide (i < (x.length : Int)) = true → ((0 : Int) ≤ i ∧ i < (x.length : Int)) ∧ i.toNat < x.length ∧
                    ((!eqb (x.getD i.toNat d) m) = true → false = same x (roomy y m)) ∧
                    ((!eqb (x.getD i.toNat d) m) = false → (wrap (i + (1 : Int)) = wrap (i + (1 : Int)) ∧ e ∧ x = x) ∧ inv (wrap (i + (1 : Int))) ∧ μ (wrap (i + (1 : Int))) < μ i)) ∧
                  (decide (i < (x.length : Int)) = false → true = same x (roomy y m)))) ∧
      ((!decide ((x.length : Int) = wrap ((y.length : Int) + (80 : Int)))) = !false → false = same x (roomy y m)) := by
  have hx := hx.le
  have hy := hy.le
  have hlen : x = roomy y m → x.length = y.length + 80 := fun h => by rw [h, roomy_length]
  by_cases hb : (y.length : Int) + 80 ≤ 9223372036854775807
  case neg =>
    have hne : x ≠ roomy y m := fun h => by have := hlen h; omega
    refine ⟨fun h => ?_, fun _ => by rw [same_ne hne]⟩
    exfalso
    simp only [Bool.not_eq_false', decide_eq_true_eq] at h
    have hw : wrap ((y.length : Int) + 80) = (y.length : Int) + 80 - 18446744073709551616 := by
      simp [wrap, IntKind.wrap, IntKind.bits, IntKind.signed]
      split <;> omega
    omega
  case pos =>
    have hw : wrap ((y.length : Int) + 80) = y.length + 80 := wrap_id (by omega) hb
    rw [hw]
    have h00 : Int.toNat (0 : Int) = 0 := rfl
    have hyn : ((y.length : Int)).toNat = y.length := by omega
    rw [h00, hyn, Nat.sub_zero, Nat.zero_add]
    refine ⟨fun h => ?_, fun h => ?_⟩
    · simp only [Bool.not_eq_false', decide_eq_true_eq] at h
      have hxl : x.length = y.length + 80 := by omega
      refine ⟨by omega, by omega, fun hs => ?_, fun hs => ?_⟩
      · rw [same_ne]
        rintro rfl
        rw [part_roomy, same_self] at hs
        cases hs
      · have hp : x.take y.length = y := by
          simp only [Bool.not_eq_false'] at hs
          have := same_iff.1 hs
          simpa [part] using this
        refine ⟨fun i => y.length ≤ i ∧ i ≤ x.length ∧ x.take i.toNat = y ++ List.replicate (i.toNat - y.length) m, fun i => x.length - i.toNat, ⟨⟨rfl, tr, rfl⟩, by omega, by omega, by rw [hyn, Nat.sub_self, hp]; simp⟩, ?_⟩
        rintro i ⟨h0, h1, h2⟩
        refine ⟨fun hi => ?_, fun hi => ?_⟩
        · have hi : i < x.length := of_decide_eq_true hi
          have hin : i.toNat < x.length := by omega
          have hat : x.getD i.toNat d = x[i.toNat] := by simp [hin]
          rw [hat]
          refine ⟨by omega, hin, fun hn => ?_, fun hn => ?_⟩
          · rw [same_ne]
            intro hr
            have hm : x[i.toNat] = m := by
              have h1 : x[i.toNat]? = (roomy y m)[i.toNat]? := by rw [← hr]
              rw [List.getElem?_eq_getElem hin, roomy, List.getElem?_append_right (by omega), List.getElem?_replicate, if_pos (by omega)] at h1
              injection h1
            rw [(he _ _).2 hm] at hn
            cases hn
          · have hm : x[i.toNat] = m := (he _ _).1 (by simpa only [Bool.not_eq_false'] using hn)
            have hw2 : wrap (i + 1) = i + 1 := wrap_id (by omega) (by omega)
            rw [hw2]
            have e1 : (i + 1).toNat = i.toNat + 1 := by omega
            have e2 : i.toNat + 1 - y.length = (i.toNat - y.length) + 1 := by omega
            refine ⟨⟨rfl, tr, rfl⟩, ⟨by omega, by omega, ?_⟩, by show x.length - (i + 1).toNat < x.length - i.toNat; omega⟩
            rw [e1, e2, List.take_add_one, h2, List.getElem?_eq_getElem hin, hm, List.replicate_succ', List.append_assoc]
            rfl
        · have hi : ¬ i < x.length := of_decide_eq_false hi
          have hin : i.toNat = x.length := by omega
          rw [hin, List.take_length, hxl, Nat.add_sub_cancel_left] at h2
          exact (same_iff.2 h2).symm
    · rw [same_ne]
      intro hr
      have := hlen hr
      simp at h
      omega
/-- The conditions of Roomy. -/
theorem roomy_gen {α : Type} {z : α} (x : List α) (m : α) (c : Nat) (cz : Int) (hz : cz = (c : Int)) (hc : 8 ≤ c) (hc' : c ≤ 80) (hb : x.length * c ≤ 140737488351232) :
    (0 ≤ wrap ((x.length : Int) + 80) ∧ wrap ((x.length : Int) + 80) ≤ wrap ((x.length : Int) + 80) ∧ wrap ((x.length : Int) + 80) * cz ≤ 281474976710656) ∧
      ∃ (inv : Int → List α → Prop) (μ : Int → List α → Nat), inv (x.length : Int) (x.take (List.replicate (wrap ((x.length : Int) + 80)).toNat z).length ++ (List.replicate (wrap ((x.length : Int) + 80)).toNat z).drop x.length) ∧
        ∀ (i : Int) (l : List α), inv i l → (i < (l.length : Int) → (0 ≤ i ∧ i < (l.length : Int)) ∧ i.toNat < l.length ∧ inv (wrap (i + 1)) (l.set i.toNat m) ∧ μ (wrap (i + 1)) (l.set i.toNat m) < μ i l) ∧
          ((l.length : Int) ≤ i → l = roomy x m) := by
  subst hz
  have hx : x.length ≤ 17592186043904 := by
    have : x.length * 8 ≤ x.length * c := Nat.mul_le_mul_left _ hc
    omega
  have hw : wrap ((x.length : Int) + 80) = x.length + 80 := wrap_id (by omega) (by omega)
  have ht : ((x.length : Int) + 80).toNat = x.length + 80 := by omega
  rw [hw, ht, fill_first]
  have hm : ((x.length : Int) + 80) * (c : Int) ≤ 281474976710656 := by
    have h1 : (x.length + 80) * c ≤ 140737488351232 + 80 * 80 := by
      rw [Nat.add_mul]
      exact Nat.add_le_add hb (Nat.mul_le_mul_left _ hc')
    have h2 : (((x.length + 80) * c : Nat) : Int) = ((x.length : Int) + 80) * (c : Int) := by simp
    omega
  refine ⟨⟨by omega, by omega, hm⟩, fun i l => ∃ k, k ≤ 80 ∧ i = ((x.length + k : Nat) : Int) ∧ l = x ++ (List.replicate k m ++ List.replicate (80 - k) z), fun i _ => x.length + 80 - i.toNat, ⟨0, by omega, by simp, by simp⟩, ?_⟩
  rintro i l ⟨k, hk, rfl, rfl⟩
  have hlen : (x ++ (List.replicate k m ++ List.replicate (80 - k) z)).length = x.length + 80 := by simp; omega
  rw [hlen]
  refine ⟨fun h => ?_, fun h => ?_⟩
  · have hk' : k < 80 := by omega
    have hw2 : wrap (((x.length + k : Nat) : Int) + 1) = ((x.length + (k + 1) : Nat) : Int) := by rw [wrap_id (by omega) (by omega)]; omega
    rw [hw2]
    have ht2 : ((x.length + k : Nat) : Int).toNat = x.length + k := by omega
    rw [ht2, fill_set x k 80 m _ hk']
    refine ⟨⟨by omega, by omega⟩, by omega, ⟨k + 1, by omega, rfl, rfl⟩, ?_⟩
    show x.length + 80 - ((x.length + (k + 1) : Nat) : Int).toNat < x.length + 80 - ((x.length + k : Nat) : Int).toNat
    omega
  · have : k = 80 := by omega
    subst this
    simp [roomy]
end Go.Eng
