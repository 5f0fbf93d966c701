/- Plans: it is so. -/
import Derived.Test.YtkokggepghghdaaPlanVc
import Derived.Test.YtkokggepghghdaaBookOk
set_option linter.unusedVariables false
set_option linter.unusedSimpArgs false
namespace Go.Eng
open Go Go.Proofs
abbrev rz : Route := ⟨0, 0, []⟩
theorem ix {α : Type} {l : List α} {i : Int} (d : α) (hl : l.length ≤ 9223372036854775807) (h0 : 0 ≤ i) (h : i < l.length) : wrap (i + 1) = i + 1 ∧ (i + 1).toNat = i.toNat + 1 ∧ i.toNat < l.length ∧ l.drop i.toNat = l.getD i.toNat d :: l.drop (i.toNat + 1) := by
  refine ⟨wrap_id (by omega) (by omega), by omega, by omega, getD_drop (by omega)⟩
theorem ixEnd {α : Type} {l : List α} {i : Int} (h : l.length ≤ i) : l.drop i.toNat = [] := List.drop_eq_nil_of_le (by omega)
theorem getD_get {α : Type} {l : List α} {k : Nat} (d : α) (hk : k < l.length) : l.getD k d = l[k] := by simp [List.getD, hk]
theorem forall_getD {α : Type} {l : List α} {P : α → Prop} (d : α) : (∀ r ∈ l, P r) ↔ ∀ k, k < l.length → P (l.getD k d) := by
  constructor
  · intro h k hk
    rw [getD_get d hk]
    exact h _ (List.getElem_mem hk)
  · intro h r hr
    obtain ⟨k, hk, rfl⟩ := List.getElem_of_mem hr
    have := h k hk
    rwa [getD_get d hk] at this
theorem getD_mem {α : Type} {l : List α} {k : Nat} (d : α) (hk : k < l.length) : l.getD k d ∈ l := by
  rw [getD_get d hk]; exact List.getElem_mem hk
theorem route_len {x : List Route} (h : ∀ (r : Route), List.Mem r x → LenOk r.stops.length) (r : Route) (hr : r ∈ x) : r.stops.length ≤ 9223372036854775807 := (h r hr).le
theorem whereS_bound (s : Stop) (l : List Stop) : -1 ≤ whereS s l ∧ whereS s l < l.length := by
  induction l with
  | nil => simp [whereS]
  | cons x l ih =>
    rw [whereS]
    split
    · simp only [List.length_cons]; omega
    · split <;> simp only [List.length_cons] <;> omega
theorem elEqS' (a b : Stop) : (decide (a.order = b.order) && ((a.drop == b.drop) && true)) = false ↔ a ≠ b := by
  rw [← Bool.not_eq_true, elEqS]
theorem whereS_step {s s' : Stop} {l : List Stop} {i : Nat} {w : Int} (h : w = if whereS s (s' :: l) < 0 then -1 else whereS s (s' :: l) + i) : (s' = s → (i : Int) = w) ∧ (s' ≠ s → w = if whereS s l < 0 then -1 else whereS s l + ((i + 1 : Nat) : Int)) := by
  have hb := (whereS_bound s l).1
  rw [whereS] at h
  constructor
  · intro e; rw [if_pos e] at h; simpa using h.symm
  · intro e; rw [if_neg e] at h
    by_cases h2 : whereS s l < 0
    · rw [if_pos h2] at h ⊢; simpa using h
    · rw [if_neg h2] at h ⊢; rw [if_neg (by omega)] at h; omega
theorem whereS_zero (s : Stop) (l : List Stop) : whereS s l = if whereS s (l.drop (Int.toNat 0)) < 0 then -1 else whereS s (l.drop (Int.toNat 0)) + ((Int.toNat 0 : Nat) : Int) := by
  have hb := (whereS_bound s l).1
  simp only [Int.toNat_zero, List.drop_zero]
  split <;> omega
theorem sidx_ok : sidx_vc := by
  unfold sidx_vc
  simp only [bad_false, int0, nilOf, decide_eq_true_eq, decide_eq_false_iff_not, Bool.not_eq_true', Bool.not_eq_false', Bool.not_true, Bool.not_false, Bool.false_eq_true, Bool.true_eq_false, eq_self, true_and, and_true, false_or, or_false, false_implies, true_implies, implies_true, Int.not_lt, Int.not_le, gt_iff_lt, ge_iff_le, ne_eq]
  intro x hl s
  have hl := hl.le
  refine ⟨fun i => 0 ≤ i ∧ whereS s x = (if whereS s (x.drop i.toNat) < 0 then -1 else whereS s (x.drop i.toNat) + (i.toNat : Int)), fun i => x.length - i.toNat, ⟨by omega, whereS_zero s x⟩, fun i hi => ⟨fun h => ?_, fun h => ?_⟩⟩
  · obtain ⟨h0, hI⟩ := hi
    obtain ⟨e1, e2, e3, e4⟩ := ix (FK.zero .stop) hl h0 h
    rw [e4] at hI
    obtain ⟨s1, s2⟩ := whereS_step hI
    rw [e1]; dsimp only; rw [e2]
    refine ⟨⟨h0, h⟩, e3, fun hq => ?_, fun hq => ⟨⟨by omega, s2 fun e => (elEqS' _ _).1 hq e.symm⟩, by omega⟩⟩
    have := s1 ((elEqS _ _).1 hq).symm
    omega
  · obtain ⟨h0, hI⟩ := hi
    rw [ixEnd h] at hI
    exact hI.symm
theorem sidx_t : Told Try.prog 50 sidx_con := sidx_told csOk_nil sidx_ok
theorem rWhere_ok : rWhere_vc := by
  unfold rWhere_vc
  simp only [bad_false, int0, nilOf, decide_eq_true_eq, decide_eq_false_iff_not, Bool.not_eq_true', Bool.not_eq_false', Bool.not_true, Bool.not_false, Bool.false_eq_true, Bool.true_eq_false, eq_self, true_and, and_true, false_or, or_false, false_implies, true_implies, implies_true, Int.not_lt, Int.not_le, gt_iff_lt, ge_iff_le, ne_eq]
  intro x hl s
  have hl := hl.le
  refine ⟨fun i => 0 ≤ i ∧ whereS s x = (if whereS s (x.drop i.toNat) < 0 then -1 else whereS s (x.drop i.toNat) + (i.toNat : Int)), fun i => x.length - i.toNat, ⟨by omega, whereS_zero s x⟩, fun i hi => ⟨fun h => ?_, fun h => ?_⟩⟩
  · obtain ⟨h0, hI⟩ := hi
    obtain ⟨e1, e2, e3, e4⟩ := ix (FK.zero .stop) hl h0 h
    rw [e4] at hI
    obtain ⟨s1, s2⟩ := whereS_step hI
    rw [e1]; dsimp only; rw [e2]
    refine ⟨⟨h0, h⟩, e3, fun hq => ?_, fun hq => ⟨⟨by omega, s2 fun e => (elEqS' _ _).1 hq e⟩, by omega⟩⟩
    have := s1 ((elEqS _ _).1 hq)
    omega
  · obtain ⟨h0, hI⟩ := hi
    rw [ixEnd h] at hI
    exact hI.symm
theorem rWhere_t : Told Try.prog 68 rWhere_con := rWhere_told csOk_nil rWhere_ok
theorem rightP_iff {p : List Route} : rightP p = true ↔ RightP p := by simp [rightP]
theorem right_no {p : List Route} (h : ¬ RightP p) : false = rightP p := by
  cases e : rightP p with
  | false => rfl
  | true => exact absurd (rightP_iff.1 e) h
theorem right_yes {p : List Route} (h : RightP p) : true = rightP p := (rightP_iff.2 h).symm
/-- The stops that were seen, in a map. -/
def Seen (f : Stop → Int) (all : List Stop) : Prop := ∀ s, (f s = 0 ∧ s ∉ all) ∨ (f s = 1 ∧ s ∈ all)
theorem seen_none : Seen (noF MK.stop.T) [] := fun s => Or.inl ⟨rfl, by simp⟩
theorem seen_more {f : Stop → Int} {all : List Stop} {s : Stop} (h : Seen f all) (hs : f s ≤ 0) : Seen (upF f s (wrap (f s + 1))) (all ++ [s]) := by
  intro t
  have hf : f s = 0 := by rcases h s with ⟨a, _⟩ | ⟨a, _⟩ <;> omega
  unfold upF
  by_cases e : t = s
  · subst e
    rw [if_pos rfl, hf]; exact Or.inr ⟨by decide, by simp⟩
  · rw [if_neg e]
    rcases h t with ⟨a, b⟩ | ⟨a, b⟩
    · exact Or.inl ⟨a, by simp [b, e]⟩
    · exact Or.inr ⟨a, by simp [b]⟩
theorem pright_ok : pright_vc := by
  unfold pright_vc
  simp only [bad_false, int0, nilOf, decide_eq_true_eq, decide_eq_false_iff_not, Bool.not_eq_true', Bool.not_eq_false', Bool.not_true, Bool.not_false, Bool.false_eq_true, Bool.true_eq_false, eq_self, true_and, and_true, false_or, or_false, false_implies, true_implies, implies_true, Int.not_lt, Int.not_le, gt_iff_lt, ge_iff_le, ne_eq]
  rintro x ⟨hl, hr⟩
  have hl := hl.le
  refine ⟨fun h8 => right_no fun hR => by have := hR.1; omega, fun h8 => ⟨fun last i f => 0 ≤ i ∧ ∃ all, (okR last all (x.drop i.toNat) ↔ okR 0 [] x) ∧ Seen f all, fun _ i _ => x.length - i.toNat, ⟨by omega, [], Iff.rfl, seen_none⟩, fun last i f hi => ⟨fun h => ?_, fun h => ?_⟩⟩⟩
  · obtain ⟨h0, all, hI, hS⟩ := hi
    obtain ⟨e1, e2, e3, e4⟩ := ix rz hl h0 h
    have hrl := route_len hr _ (getD_mem rz e3)
    rw [e4, okR] at hI
    rw [e1]; dsimp only; rw [e2]
    change List Route at x
    generalize x.getD i.toNat { driver := 0, served := 0, stops := [] } = r at *
    unfold okR1 at hI
    refine ⟨⟨h0, h⟩, e3, fun a1 => ⟨fun a2 => ⟨fun a3 => ⟨fun a4 => ⟨fun a5 => right_no fun hR => by have := hI.2 hR.2; omega, fun a5 => ?_⟩, fun a4 => right_no fun hR => by have := hI.2 hR.2; omega⟩, fun a3 => right_no fun hR => by have := hI.2 hR.2; omega⟩, fun a2 => right_no fun hR => by have := hI.2 hR.2; omega⟩, fun a1 => right_no fun hR => by have := hI.2 hR.2; omega⟩
    have hI' : (okS all r.stops ∧ okR r.driver (all ++ r.stops) (x.drop (i.toNat + 1))) ↔ okR 0 [] x := by
      rw [← hI]; exact ⟨fun q => ⟨⟨a1, a2, by omega, a4, a5⟩, q⟩, fun q => q.2⟩
    refine ⟨fun j g => 0 ≤ j ∧ ∃ al, ((okS al (r.stops.drop j.toNat) ∧ okR r.driver (al ++ r.stops.drop j.toNat) (x.drop (i.toNat + 1))) ↔ okR 0 [] x) ∧ Seen g al, fun j _ => r.stops.length - j.toNat, ⟨by omega, all, by simpa using hI', hS⟩, fun j g hj => ⟨fun k => ?_, fun k => ?_⟩⟩
    · obtain ⟨j0, al, hJ, hG⟩ := hj
      obtain ⟨d1, d2, d3, d4⟩ := ix (FK.zero .stop) hrl j0 k
      rw [d4, okS] at hJ
      rw [d1]; dsimp only; rw [d2]
      generalize r.stops.getD j.toNat (FK.zero .stop) = s at *
      refine ⟨⟨j0, k⟩, d3, fun b1 => ⟨fun b2 => ⟨fun b3 => right_no fun hR => ?_, fun b3 => ⟨⟨by omega, al ++ [s], ?_, seen_more hG b3⟩, by omega⟩⟩, fun b2 => right_no fun hR => by have := (hJ.2 hR.2).1.1; omega⟩, fun b1 => right_no fun hR => by have := (hJ.2 hR.2).1.1; omega⟩
      · have := (hJ.2 hR.2).1.1.2.2
        rcases hG s with ⟨a, b⟩ | ⟨a, b⟩
        · omega
        · exact this b
      · rw [← hJ]
        have hn : s ∉ al := by rcases hG s with ⟨a, b⟩ | ⟨a, b⟩; exact b; omega
        simp only [List.append_assoc, List.singleton_append]
        exact ⟨fun q => ⟨⟨⟨b1, b2, hn⟩, q.1⟩, q.2⟩, fun q => ⟨q.1.2, q.2⟩⟩
    · obtain ⟨j0, al, hJ, hG⟩ := hj
      rw [ixEnd k, List.append_nil] at hJ
      exact ⟨⟨by omega, al, ⟨fun q => hJ.1 ⟨trivial, q⟩, fun q => (hJ.2 q).2⟩, hG⟩, by omega⟩
  · obtain ⟨h0, all, hI, hS⟩ := hi
    rw [ixEnd h] at hI
    exact right_yes ⟨by omega, hI.1 trivial⟩
theorem pright_t : Told Try.prog 26 pright_con := pright_told csOk_nil pright_ok
theorem findP_step {id : Int} {r : Route} {l : List Route} {w : Option Spot} (h : findP id (r :: l) = w) :
    (0 ≤ whereS ⟨id, false⟩ r.stops → w = some (spotAt r id)) ∧ (0 ≤ whereS ⟨id, true⟩ r.stops → w = some (spotAt r id)) ∧ (whereS ⟨id, false⟩ r.stops < 0 → whereS ⟨id, true⟩ r.stops < 0 → findP id l = w) := by
  rw [findP, show (spotAt r id).pick = whereS ⟨id, false⟩ r.stops from rfl, show (spotAt r id).drop = whereS ⟨id, true⟩ r.stops from rfl] at h
  refine ⟨fun a => ?_, fun a => ?_, fun a b => ?_⟩
  · rw [if_pos (Or.inl a)] at h; exact h.symm
  · rw [if_pos (Or.inr a)] at h; exact h.symm
  · rw [if_neg (by omega)] at h; exact h
theorem pfind_ok : pfind_vc := by
  unfold pfind_vc
  simp only [bad_false, int0, nilOf, decide_eq_true_eq, decide_eq_false_iff_not, Bool.not_eq_true', Bool.not_eq_false', Bool.not_true, Bool.not_false, Bool.false_eq_true, Bool.true_eq_false, eq_self, true_and, and_true, false_or, or_false, false_implies, true_implies, implies_true, Int.not_lt, Int.not_le, gt_iff_lt, ge_iff_le, ne_eq]
  rintro x ⟨hl, hr⟩ id
  have hl := hl.le
  refine ⟨fun i => 0 ≤ i ∧ findP id (x.drop i.toNat) = findP id x, fun i => x.length - i.toNat, ⟨by omega, rfl⟩, fun i hi => ⟨fun h => ?_, fun h => ?_⟩⟩
  · obtain ⟨h0, hI⟩ := hi
    obtain ⟨e1, e2, e3, e4⟩ := ix rz hl h0 h
    rw [e4] at hI
    obtain ⟨s1, s2, s3⟩ := findP_step hI
    rw [e1]; dsimp only; rw [e2]
    refine ⟨⟨h0, h⟩, e3, fun a => ⟨fun b => ?_, fun b => ⟨⟨by omega, s3 a b⟩, by omega⟩⟩, fun a => ?_⟩
    · rw [s2 b]; exact ⟨⟨rfl, rfl, rfl, rfl⟩, rfl⟩
    · rw [s1 a]; exact ⟨⟨rfl, rfl, rfl, rfl⟩, rfl⟩
  · obtain ⟨h0, hI⟩ := hi
    rw [ixEnd h] at hI
    rw [← hI]; exact ⟨⟨rfl, rfl, rfl, rfl⟩, rfl⟩
theorem pfind_t : Told Try.prog 25 pfind_con := pfind_told (csOk_cons sidx_t csOk_nil) pfind_ok
theorem rPfind_ok : rPfind_vc := by
  unfold rPfind_vc
  simp only [bad_false, int0, nilOf, decide_eq_true_eq, decide_eq_false_iff_not, Bool.not_eq_true', Bool.not_eq_false', Bool.not_true, Bool.not_false, Bool.false_eq_true, Bool.true_eq_false, eq_self, true_and, and_true, false_or, or_false, false_implies, true_implies, implies_true, Int.not_lt, Int.not_le, gt_iff_lt, ge_iff_le, ne_eq]
  rintro x ⟨hl, hr⟩ id
  have hl := hl.le
  refine ⟨fun i => 0 ≤ i ∧ findP id (x.drop i.toNat) = findP id x, fun i => x.length - i.toNat, ⟨by omega, rfl⟩, fun i hi => ⟨fun h => ?_, fun h => ?_⟩⟩
  · obtain ⟨h0, hI⟩ := hi
    obtain ⟨e1, e2, e3, e4⟩ := ix rz hl h0 h
    rw [e4] at hI
    obtain ⟨s1, s2, s3⟩ := findP_step hI
    rw [e1]; dsimp only; rw [e2]
    refine ⟨⟨h0, h⟩, e3, ⟨h0, h⟩, e3, fun a => ⟨fun b => ⟨⟨h0, h⟩, e3, ?_⟩, fun b => ⟨⟨by omega, s3 a b⟩, by omega⟩⟩, fun a => ⟨⟨h0, h⟩, e3, ?_⟩⟩
    · rw [s2 b]; exact ⟨⟨rfl, rfl, rfl, rfl⟩, rfl⟩
    · rw [s1 a]; exact ⟨⟨rfl, rfl, rfl, rfl⟩, rfl⟩
  · obtain ⟨h0, hI⟩ := hi
    rw [ixEnd h] at hI
    rw [← hI]; exact ⟨⟨rfl, rfl, rfl, rfl⟩, rfl⟩
theorem rPfind_t : Told Try.prog 47 rPfind_con := rPfind_told (csOk_cons rWhere_t csOk_nil) rPfind_ok
theorem findD_step {id : Int} {r : Driver} {l : List Driver} {w : Option Driver} (h : findD id (r :: l) = w) : (r.id = id → w = some r) ∧ (¬ r.id = id → findD id l = w) := by
  rw [findD] at h
  refine ⟨fun a => ?_, fun a => ?_⟩
  · rw [if_pos a] at h; exact h.symm
  · rw [if_neg a] at h; exact h
theorem findD_none {id : Int} {l : List Driver} : findD id l = none ↔ ∀ d ∈ l, d.id ≠ id := by
  induction l with
  | nil => simp [findD]
  | cons d l ih => rw [findD]; split <;> simp_all
theorem cdriver_ok : cdriver_vc := by
  unfold cdriver_vc
  simp only [bad_false, int0, nilOf, decide_eq_true_eq, decide_eq_false_iff_not, Bool.not_eq_true', Bool.not_eq_false', Bool.not_true, Bool.not_false, Bool.false_eq_true, Bool.true_eq_false, eq_self, true_and, and_true, false_or, or_false, false_implies, true_implies, implies_true, Int.not_lt, Int.not_le, gt_iff_lt, ge_iff_le, ne_eq]
  rintro x hl id
  have hl := hl.le
  refine ⟨fun i => 0 ≤ i ∧ findD id (x.drop i.toNat) = findD id x, fun i => x.length - i.toNat, ⟨by omega, rfl⟩, fun i hi => ⟨fun h => ?_, fun h => ?_⟩⟩
  · obtain ⟨h0, hI⟩ := hi
    obtain ⟨e1, e2, e3, e4⟩ := ix (FK.zero .driver) hl h0 h
    rw [e4] at hI
    obtain ⟨s1, s2⟩ := findD_step hI
    rw [e1]; dsimp only; rw [e2]
    refine ⟨⟨h0, h⟩, e3, fun a => ?_, fun a => ⟨⟨by omega, s2 a⟩, by omega⟩⟩
    rw [s1 a]; exact ⟨⟨rfl, rfl, rfl, rfl, rfl, rfl⟩, rfl⟩
  · obtain ⟨h0, hI⟩ := hi
    rw [ixEnd h] at hI
    rw [← hI]; exact ⟨⟨rfl, rfl, rfl, rfl, rfl, rfl⟩, rfl⟩
theorem cdriver_t : Told Try.prog 40 cdriver_con := cdriver_told csOk_nil cdriver_ok
theorem rCdriver_ok : rCdriver_vc := by
  unfold rCdriver_vc
  simp only [bad_false, int0, nilOf, decide_eq_true_eq, decide_eq_false_iff_not, Bool.not_eq_true', Bool.not_eq_false', Bool.not_true, Bool.not_false, Bool.false_eq_true, Bool.true_eq_false, eq_self, true_and, and_true, false_or, or_false, false_implies, true_implies, implies_true, Int.not_lt, Int.not_le, gt_iff_lt, ge_iff_le, ne_eq]
  rintro x hl id
  have hl := hl.le
  refine ⟨fun i => 0 ≤ i ∧ findD id (x.drop i.toNat) = findD id x, fun i => x.length - i.toNat, ⟨by omega, rfl⟩, fun i hi => ⟨fun h => ?_, fun h => ?_⟩⟩
  · obtain ⟨h0, hI⟩ := hi
    obtain ⟨e1, e2, e3, e4⟩ := ix (FK.zero .driver) hl h0 h
    rw [e4] at hI
    obtain ⟨s1, s2⟩ := findD_step hI
    rw [e1]; dsimp only; rw [e2]
    refine ⟨⟨h0, h⟩, e3, fun a => ⟨⟨h0, h⟩, e3, ?_⟩, fun a => ⟨⟨by omega, s2 a⟩, by omega⟩⟩
    rw [s1 a]; exact ⟨⟨rfl, rfl, rfl, rfl, rfl, rfl⟩, rfl⟩
  · obtain ⟨h0, hI⟩ := hi
    rw [ixEnd h] at hI
    rw [← hI]; exact ⟨⟨rfl, rfl, rfl, rfl, rfl, rfl⟩, rfl⟩
theorem rCdriver_t : Told Try.prog 45 rCdriver_con := rCdriver_told csOk_nil rCdriver_ok
theorem numberP_bound (id : Int) (l : List Route) : -1 ≤ numberP id l ∧ numberP id l < l.length := by
  induction l with
  | nil => simp [numberP]
  | cons x l ih =>
    rw [numberP]
    split
    · simp only [List.length_cons]; omega
    · split <;> simp only [List.length_cons] <;> omega
theorem numberP_step {id : Int} {r : Route} {l : List Route} {i : Nat} {w : Int} (h : w = if numberP id (r :: l) < 0 then -1 else numberP id (r :: l) + i) : (r.driver = id → (i : Int) = w) ∧ (¬ r.driver = id → w = if numberP id l < 0 then -1 else numberP id l + ((i + 1 : Nat) : Int)) := by
  have hb := (numberP_bound id l).1
  rw [numberP] at h
  constructor
  · intro e; rw [if_pos e] at h; simpa using h.symm
  · intro e; rw [if_neg e] at h
    by_cases h2 : numberP id l < 0
    · rw [if_pos h2] at h ⊢; simpa using h
    · rw [if_neg h2] at h ⊢; rw [if_neg (by omega)] at h; omega
theorem routed_number {id : Int} {l : List Route} : (numberP id l < 0 → routed id l = none) ∧ (0 ≤ numberP id l → routed id l = some (l.getD (numberP id l).toNat rz) ∧ (l.getD (numberP id l).toNat rz).driver = id) := by
  induction l with
  | nil => simp [numberP, routed]
  | cons r l ih =>
    rw [numberP, routed]
    by_cases e : r.driver = id
    · rw [if_pos e, if_pos e]; simp [e]
    · rw [if_neg e, if_neg e]
      by_cases h2 : numberP id l < 0
      · rw [if_pos h2]; simp [ih.1 h2]
      · rw [if_neg h2]
        have h3 : 0 ≤ numberP id l := by omega
        refine ⟨fun q => by omega, fun q => ?_⟩
        rw [show (numberP id l + 1).toNat = (numberP id l).toNat + 1 by omega, List.getD_cons_succ]
        exact ih.2 h3
theorem rNumber_ok : rNumber_vc := by
  unfold rNumber_vc
  simp only [bad_false, int0, nilOf, decide_eq_true_eq, decide_eq_false_iff_not, Bool.not_eq_true', Bool.not_eq_false', Bool.not_true, Bool.not_false, Bool.false_eq_true, Bool.true_eq_false, eq_self, true_and, and_true, false_or, or_false, false_implies, true_implies, implies_true, Int.not_lt, Int.not_le, gt_iff_lt, ge_iff_le, ne_eq]
  rintro x ⟨hl, hr⟩ id
  have hl := hl.le
  refine ⟨fun i => 0 ≤ i ∧ numberP id x = (if numberP id (x.drop i.toNat) < 0 then -1 else numberP id (x.drop i.toNat) + (i.toNat : Int)), fun i => x.length - i.toNat, ⟨by omega, ?_⟩, fun i hi => ⟨fun h => ?_, fun h => ?_⟩⟩
  · have hb := (numberP_bound id x).1
    simp only [Int.toNat_zero, List.drop_zero]
    split <;> omega
  · obtain ⟨h0, hI⟩ := hi
    obtain ⟨e1, e2, e3, e4⟩ := ix rz hl h0 h
    rw [e4] at hI
    obtain ⟨s1, s2⟩ := numberP_step hI
    rw [e1]; dsimp only; rw [e2]
    refine ⟨⟨h0, h⟩, e3, fun hq => ?_, fun hq => ⟨⟨by omega, s2 hq⟩, by omega⟩⟩
    have := s1 hq
    omega
  · obtain ⟨h0, hI⟩ := hi
    rw [ixEnd h] at hI
    exact hI.symm
theorem rNumber_t : Told Try.prog 49 rNumber_con := rNumber_told csOk_nil rNumber_ok
end Go.Eng
