/- Plans copied, stops put in and taken out: it is so. -/
import Derived.Test.YtkokggepghghdaaCopyVc
import Derived.Test.YtkokggepghghdaaBookOk
set_option linter.unusedVariables false
set_option linter.unusedSimpArgs false
namespace Go.Eng
open Go Go.Proofs
theorem takeS {α : Type} {l : List α} {i : Nat} (d : α) (h : i < l.length) : l.take (i + 1) = l.take i ++ [l.getD i d] := by
  rw [List.take_succ_eq_append_getElem h, getD_get d h]
theorem kcopy_ok : kcopy_vc := by
  unfold kcopy_vc
  simp only [bad_false, int0, nilOf, decide_eq_true_eq, decide_eq_false_iff_not, Bool.not_eq_true', Bool.not_eq_false', Bool.not_true, Bool.not_false, Bool.false_eq_true, Bool.true_eq_false, eq_self, true_and, and_true, false_or, or_false, false_implies, true_implies, implies_true, Int.not_lt, Int.not_le, gt_iff_lt, ge_iff_le, ne_eq]
  rintro x ⟨hl, hr⟩ ⟨hb, hb'⟩
  have hl := hl.le
  refine ⟨fun o i => 0 ≤ i ∧ i ≤ x.length ∧ o = x.take i.toNat, fun _ i => x.length - i.toNat, ⟨by omega, by omega, by simp⟩, fun o i hi => ⟨fun h => ?_, fun h => ?_⟩⟩
  · obtain ⟨h0, h1, rfl⟩ := hi
    obtain ⟨e1, e2, e3, e4⟩ := ix rz hl h0 h
    have hm := hb' _ (getD_mem rz e3)
    rw [e1]; dsimp only; rw [e2, takeS rz e3]
    change List Route at x
    generalize x.getD i.toNat { driver := 0, served := 0, stops := [] } = r at *
    refine ⟨⟨h0, h⟩, e3, ⟨h0, h⟩, e3, ⟨h0, h⟩, e3, by omega, ?_, ⟨by omega, by omega, by simp⟩, by omega⟩
    simp only [K.byt, List.length_take, List.length_cons, List.length_nil]; omega
  · obtain ⟨h0, h1, rfl⟩ := hi
    exact List.take_of_length_le (by omega)
theorem kcopy_t : Told Try.prog 20 kcopy_con := kcopy_told csOk_nil kcopy_ok
theorem pcopy_ok : pcopy_vc := by
  unfold pcopy_vc
  simp only [bad_false, int0, nilOf, decide_eq_true_eq, decide_eq_false_iff_not, Bool.not_eq_true', Bool.not_eq_false', Bool.not_true, Bool.not_false, Bool.false_eq_true, Bool.true_eq_false, eq_self, true_and, and_true, false_or, or_false, false_implies, true_implies, implies_true, Int.not_lt, Int.not_le, gt_iff_lt, ge_iff_le, ne_eq]
  rintro x ⟨hl, hr⟩ ⟨hb, hb'⟩
  have hl := hl.le
  refine ⟨fun o i => 0 ≤ i ∧ i ≤ x.length ∧ o = x.take i.toNat, fun _ i => x.length - i.toNat, ⟨by omega, by omega, by simp⟩, fun o i hi => ⟨fun h => ?_, fun h => ?_⟩⟩
  · obtain ⟨h0, h1, rfl⟩ := hi
    obtain ⟨e1, e2, e3, e4⟩ := ix rz hl h0 h
    have hm := hb' _ (getD_mem rz e3)
    rw [e1]; dsimp only; rw [e2, takeS rz e3]
    change List Route at x
    generalize x.getD i.toNat { driver := 0, served := 0, stops := [] } = r at *
    refine ⟨⟨h0, h⟩, e3, by omega, ?_, ⟨by omega, by omega, rfl⟩, by omega⟩
    simp only [K.byt, List.length_take, List.length_cons, List.length_nil]; omega
  · obtain ⟨h0, h1, rfl⟩ := hi
    exact List.take_of_length_le (by omega)
theorem pcopy_t : Told Try.prog 51 pcopy_con := pcopy_told csOk_nil pcopy_ok
theorem sameP_iff {a b : List Route} : sameP a b = true ↔ a = b := by simp [sameP]
theorem sameP_no {a b : List Route} (h : a ≠ b) : false = sameP a b := by simp [sameP, h]
theorem kroutes_ok : kroutes_vc := by
  unfold kroutes_vc
  simp only [bad_false, int0, nilOf, decide_eq_true_eq, decide_eq_false_iff_not, Bool.not_eq_true', Bool.not_eq_false', Bool.not_true, Bool.not_false, Bool.false_eq_true, Bool.true_eq_false, eq_self, true_and, and_true, false_or, or_false, false_implies, true_implies, implies_true, Int.not_lt, Int.not_le, gt_iff_lt, ge_iff_le, ne_eq]
  rintro x ⟨hl, hr⟩ y ⟨hl', hr'⟩
  have hl := hl.le
  refine ⟨fun hn => sameP_no fun e => hn (by rw [e]), fun hn => ⟨fun i => 0 ≤ i ∧ i ≤ x.length ∧ x.take i.toNat = y.take i.toNat, fun i => x.length - i.toNat, ⟨by omega, by omega, by simp⟩, fun i hi => ⟨fun h => ?_, fun h => ?_⟩⟩⟩
  · obtain ⟨h0, h1, hI⟩ := hi
    obtain ⟨e1, e2, e3, e4⟩ := ix rz hl h0 h
    have e3' : i.toNat < y.length := by omega
    have hT := takeS rz e3
    have hT' := takeS rz e3'
    have hne : x.getD i.toNat rz ≠ y.getD i.toNat rz → false = sameP x y := fun q => sameP_no fun e => q (by rw [e])
    rw [e1]; dsimp only; rw [e2]
    have b1 : 0 ≤ i ∧ i < (x.length : Int) := ⟨h0, h⟩
    have b2 : 0 ≤ i ∧ i < (y.length : Int) := ⟨h0, by omega⟩
    change List Route at x y
    generalize x.getD i.toNat { driver := 0, served := 0, stops := [] } = r at *
    generalize y.getD i.toNat { driver := 0, served := 0, stops := [] } = r' at *
    refine ⟨b1, e3, b2, e3', fun q1 => ⟨b1, e3, b2, e3', fun q2 => ⟨b1, e3, b2, e3', fun q3 => hne fun e => ?_, fun q3 => ⟨⟨by omega, by omega, ?_⟩, by omega⟩⟩, fun q2 => hne fun e => q2 (by rw [e])⟩, fun q1 => hne fun e => q1 (by rw [e])⟩
    · rw [e, same_self] at q3; cases q3
    · rw [hT, hT', hI]
      have : r = r' := by
        cases r; cases r'
        have q4 := same_iff.1 q3
        clear q3
        simp only at q1 q2 q4
        subst q1 q2 q4; rfl
      rw [this]
  · obtain ⟨h0, h1, hI⟩ := hi
    rw [List.take_of_length_le (by omega), List.take_of_length_le (by omega)] at hI
    exact (sameP_iff.2 hI).symm
theorem kroutes_t : Told Try.prog 22 kroutes_con := kroutes_told (csOk_cons sameS_t csOk_nil) kroutes_ok
theorem begun_yes {p : List Route} {id : Int} {i j : Nat} (hi : i < p.length) (hj : j < (p.getD i rz).stops.length) (hs : (j : Int) < (p.getD i rz).served) (h : ((p.getD i rz).stops.getD j (FK.zero .stop)).order = id) : begunP id p = true := by
  unfold begunP
  rw [List.any_eq_true]
  refine ⟨p.getD i rz, getD_mem rz hi, ?_⟩
  rw [List.any_eq_true]
  refine ⟨(p.getD i rz).stops.getD j (FK.zero .stop), ?_, decide_eq_true h⟩
  rw [getD_get _ hj]
  exact List.mem_take_iff_getElem.2 ⟨j, by omega, rfl⟩
theorem pbegun_ok : pbegun_vc := by
  unfold pbegun_vc
  simp only [bad_false, int0, nilOf, decide_eq_true_eq, decide_eq_false_iff_not, Bool.not_eq_true', Bool.not_eq_false', Bool.not_true, Bool.not_false, Bool.false_eq_true, Bool.true_eq_false, eq_self, true_and, and_true, false_or, or_false, false_implies, true_implies, implies_true, Int.not_lt, Int.not_le, gt_iff_lt, ge_iff_le, ne_eq]
  rintro x ⟨hl, hr⟩ id
  have hl := hl.le
  refine ⟨fun i => 0 ≤ i ∧ i ≤ x.length ∧ begunP id (x.take i.toNat) = false, fun i => x.length - i.toNat, ⟨by omega, by omega, rfl⟩, fun i hi => ⟨fun h => ?_, fun h => ?_⟩⟩
  · obtain ⟨h0, h1, hI⟩ := hi
    obtain ⟨e1, e2, e3, e4⟩ := ix rz hl h0 h
    have hrl := route_len hr _ (getD_mem rz e3)
    have hy := fun j => begun_yes (p := x) (id := id) (i := i.toNat) (j := j) e3
    rw [e1]; dsimp only; rw [e2, takeS rz e3]
    change List Route at x
    generalize x.getD i.toNat { driver := 0, served := 0, stops := [] } = r at *
    refine ⟨⟨h0, h⟩, e3, fun j => 0 ≤ j ∧ ∀ k, k < j.toNat → k < r.stops.length → (k : Int) < r.served → (r.stops.getD k (FK.zero .stop)).order ≠ id, fun j => r.stops.length - j.toNat, ⟨by omega, fun k hk => by simp at hk⟩, fun j hj => ⟨fun g => ?_, fun g => ?_⟩⟩
    · obtain ⟨j0, hJ⟩ := hj
      obtain ⟨d1, d2, d3, d4⟩ := ix (FK.zero .stop) hrl j0 g
      rw [d1]; dsimp only; rw [d2]
      refine ⟨⟨j0, g⟩, d3, fun a => ⟨fun b => (hy j.toNat d3 (by omega) b).symm, fun b => ⟨⟨by omega, fun k hk hk' hs => ?_⟩, by omega⟩⟩, fun a => ⟨⟨by omega, fun k hk hk' hs => ?_⟩, by omega⟩⟩
      · by_cases e : k < j.toNat
        · exact hJ k e hk' hs
        · rw [show k = j.toNat by omega]; exact b
      · by_cases e : k < j.toNat
        · exact hJ k e hk' hs
        · omega
    · obtain ⟨j0, hJ⟩ := hj
      refine ⟨⟨by omega, by omega, ?_⟩, by omega⟩
      unfold begunP at hI ⊢
      rw [List.any_append, hI, Bool.false_or, List.any_cons, List.any_nil, Bool.or_false, ← Bool.not_eq_true, List.any_eq_true]
      rintro ⟨s, hs, he⟩
      obtain ⟨k, hk, rfl⟩ := List.mem_take_iff_getElem.1 hs
      have := hJ k (by omega) (by omega) (by omega)
      rw [getD_get _ (by omega)] at this
      exact this (by simpa using he)
  · obtain ⟨h0, h1, hI⟩ := hi
    rw [List.take_of_length_le (by omega)] at hI
    exact hI.symm
theorem pbegun_t : Told Try.prog 53 pbegun_con := pbegun_told csOk_nil pbegun_ok
def Gone (p : List Route) (f : Int → Int) (ids : List Int) : Prop := ∀ z, 0 ≤ f z ∧ f z ≤ ids.length ∧ (f z = 0 ↔ goneP p ids z = false)
theorem gone_none {p : List Route} : Gone p (noF MK.int.T) [] := fun z => ⟨Int.le_refl _, by simp [noF], by simp [noF, goneP]⟩
theorem gone_one {p : List Route} {f : Int → Int} {ids : List Int} {v : Int} (h : Gone p f ids) (hl : (ids.length : Int) < 9223372036854775807) (hb : begunP v p = false) : Gone p (upF f v (wrap (f v + 1))) (ids ++ [v]) := by
  intro z
  obtain ⟨h0, h1, h2⟩ := h z
  unfold upF
  by_cases e : z = v
  · subst e
    rw [if_pos rfl, wrap_id (by omega) (by omega)]
    refine ⟨by omega, by simp; omega, ⟨fun q => by omega, fun q => ?_⟩⟩
    simp [goneP, hb] at q
  · rw [if_neg e]
    refine ⟨h0, by simp; omega, h2.trans ?_⟩
    simp [goneP, e]
theorem gone_two {p : List Route} {f : Int → Int} {ids : List Int} {v : Int} (h : Gone p f ids) (hb : begunP v p = true) : Gone p f (ids ++ [v]) := by
  intro z
  obtain ⟨h0, h1, h2⟩ := h z
  refine ⟨h0, by simp; omega, h2.trans ?_⟩
  by_cases e : z = v
  · subst e; simp [goneP, hb]
  · simp [goneP, e]
theorem pwithout_ok : pwithout_vc := by
  unfold pwithout_vc
  simp only [bad_false, int0, nilOf, decide_eq_true_eq, decide_eq_false_iff_not, Bool.not_eq_true', Bool.not_eq_false', Bool.not_true, Bool.not_false, Bool.false_eq_true, Bool.true_eq_false, eq_self, true_and, and_true, false_or, or_false, false_implies, true_implies, implies_true, Int.not_lt, Int.not_le, gt_iff_lt, ge_iff_le, ne_eq]
  rintro x ⟨hl, hr⟩ ids hids ⟨hb, hb'⟩
  have hl := hl.le
  have hids := hids.le
  refine ⟨fun i f => 0 ≤ i ∧ i ≤ ids.length ∧ Gone x f (ids.take i.toNat), fun i _ => ids.length - i.toNat, ⟨by omega, by omega, gone_none⟩, fun i f hi => ⟨fun h => ?_, fun h => ?_⟩⟩
  · obtain ⟨h0, h1, hG⟩ := hi
    obtain ⟨e1, e2, e3, e4⟩ := ix (0 : Int) hids h0 h
    rw [e1]; dsimp only; rw [e2, takeS (0 : Int) e3]
    have hlen : ((ids.take i.toNat).length : Int) < 9223372036854775807 := by rw [List.length_take]; omega
    refine ⟨⟨h0, h⟩, e3, fun q => ⟨⟨by omega, by omega, gone_one hG hlen q⟩, by omega⟩, fun q => ⟨⟨by omega, by omega, gone_two hG q⟩, by omega⟩⟩
  · obtain ⟨h0, h1, hG⟩ := hi
    rw [List.take_of_length_le (by omega)] at hG
    have hf : ∀ z, f z = 0 ↔ goneP x ids z = false := fun z => (hG z).2.2
    refine ⟨fun o i => 0 ≤ i ∧ i ≤ x.length ∧ o = (x.take i.toNat).map fun r => ⟨r.driver, r.served, keepS x ids r.stops⟩, fun _ i => x.length - i.toNat, ⟨by omega, by omega, rfl⟩, fun o i hi => ⟨fun g => ?_, fun g => ?_⟩⟩
    · obtain ⟨h0, h1, rfl⟩ := hi
      obtain ⟨e1, e2, e3, e4⟩ := ix rz hl h0 g
      have hrl := route_len hr _ (getD_mem rz e3)
      have hrb := hb' _ (getD_mem rz e3)
      rw [e1]; dsimp only; rw [e2, takeS rz e3]
      change List Route at x
      generalize x.getD i.toNat { driver := 0, served := 0, stops := [] } = r at *
      refine ⟨⟨h0, g⟩, e3, fun l j => 0 ≤ j ∧ j ≤ r.stops.length ∧ l.length ≤ j.toNat ∧ l = keepS x ids (r.stops.take j.toNat), fun _ j => r.stops.length - j.toNat, ⟨by omega, by omega, by simp, rfl⟩, fun l j hj => ⟨fun u => ?_, fun u => ?_⟩⟩
      · obtain ⟨j0, j1, jl, rfl⟩ := hj
        obtain ⟨d1, d2, d3, d4⟩ := ix (FK.zero .stop) hrl j0 u
        rw [d1]; dsimp only; rw [d2, takeS (FK.zero .stop) d3]
        generalize r.stops.getD j.toNat (FK.zero .stop) = s at *
        refine ⟨⟨j0, u⟩, d3, fun q => ⟨by simp only [List.length_cons, List.length_nil]; omega, ⟨by omega, by omega, by simp only [List.length_append, List.length_cons, List.length_nil]; omega, ?_⟩, by omega⟩, fun q => ⟨⟨by omega, by omega, by omega, ?_⟩, by omega⟩⟩
        · have := (hf _).1 q
          simp [keepS, this]
        · have : goneP x ids s.order = true := by
            rw [← Bool.not_eq_false]; exact fun e => q ((hf _).2 e)
          simp [keepS, this]
      · obtain ⟨j0, j1, jl, rfl⟩ := hj
        rw [List.take_of_length_le (l := r.stops) (by omega)]
        refine ⟨?_, ⟨by omega, by omega, by simp⟩, by omega⟩
        simp only [K.byt, List.length_map, List.length_take, List.length_cons, List.length_nil]; omega
    · obtain ⟨h0, h1, rfl⟩ := hi
      rw [List.take_of_length_le (by omega)]; rfl
theorem pwithout_t : Told Try.prog 28 pwithout_con := pwithout_told (csOk_cons pbegun_t csOk_nil) pwithout_ok
theorem withAt_none {id : Int} {s : Spot} {p : List Route} (h : ∀ r ∈ p, r.driver ≠ s.driver) : withAt id s p = none := by
  induction p with
  | nil => rfl
  | cons r l ih =>
    rw [withAt, if_neg (h r (by simp)), ih fun q hq => h q (by simp [hq])]
theorem withAt_at {id : Int} {s : Spot} {p : List Route} {i : Nat} (hi : i < p.length) (hb : ∀ k, k < i → (p.getD k rz).driver ≠ s.driver) (hd : (p.getD i rz).driver = s.driver) :
    withAt id s p = if spotOk (p.getD i rz) s then some (p.set i ⟨(p.getD i rz).driver, (p.getD i rz).served, putS (p.getD i rz).stops id s.pick s.drop⟩) else none := by
  induction p generalizing i with
  | nil => simp at hi
  | cons r l ih =>
    cases i with
    | zero =>
      rw [withAt, List.getD_cons_zero] at *
      rw [if_pos hd]; rfl
    | succ i =>
      have h0 := hb 0 (by omega)
      rw [List.getD_cons_zero] at h0
      rw [withAt, if_neg h0, List.getD_cons_succ]
      rw [ih (by simpa using hi) (fun k hk => by simpa using hb (k + 1) (by omega)) (by simpa using hd)]
      by_cases e : spotOk (l.getD i rz) s
      · rw [if_pos e, if_pos e]; rfl
      · rw [if_neg e, if_neg e]
theorem withP_out {p : List Route} {id : Int} {s : Spot} (h : ¬ (rightP p = true ∧ 1 ≤ id ∧ id ≤ 1000000 ∧ findP id p = none)) : withP p id s = none := by
  unfold withP
  rw [if_neg]
  intro q
  simp [and_assoc] at q
  exact h ⟨q.1, q.2.1, q.2.2.1, by simpa using q.2.2.2⟩
theorem withP_in {p : List Route} {id : Int} {s : Spot} (h : rightP p = true ∧ 1 ≤ id ∧ id ≤ 1000000 ∧ findP id p = none) : withP p id s = withAt id s p := by
  unfold withP
  rw [if_pos]
  simp [h.1, h.2.1, h.2.2.1, h.2.2.2]
theorem pwith_ok : pwith_vc := by
  unfold pwith_vc
  simp only [bad_false, int0, nilOf, decide_eq_true_eq, decide_eq_false_iff_not, Bool.not_eq_true', Bool.not_eq_false', Bool.not_true, Bool.not_false, Bool.false_eq_true, Bool.true_eq_false, eq_self, true_and, and_true, false_or, or_false, false_implies, true_implies, implies_true, Int.not_lt, Int.not_le, gt_iff_lt, ge_iff_le, ne_eq]
  rintro x ⟨hl, hr⟩ id s
  have hl := hl.le
  have no : withP x id s = none → false = (withP x id s).isSome ∧ (withP x id s).getD [] = [] := fun h => by rw [h]; exact ⟨rfl, rfl⟩
  refine ⟨fun a => ⟨fun b => ⟨fun c => ⟨fun d => no (withP_out fun q => ?_), fun d => ?_⟩, fun c => no (withP_out fun q => by omega)⟩, fun b => no (withP_out fun q => by omega)⟩, fun a => no (withP_out fun q => by rw [q.1] at a; cases a)⟩
  · rw [q.2.2.2] at d; cases d
  have hn : findP id x = none := by simpa using d
  have hR := rightP_iff.1 a
  have hin := withP_in (s := s) ⟨a, b, c, hn⟩
  rw [hin] at no ⊢
  refine ⟨fun i => 0 ≤ i ∧ i ≤ x.length ∧ ∀ k, k < i.toNat → (x.getD k rz).driver ≠ s.driver, fun i => x.length - i.toNat, ⟨by omega, by omega, fun k hk => by simp at hk⟩, fun i hi => ⟨fun h => ?_, fun h => ?_⟩⟩
  · obtain ⟨h0, h1, hI⟩ := hi
    obtain ⟨e1, e2, e3, e4⟩ := ix rz hl h0 h
    rw [e1]; dsimp only; rw [e2]
    have hat := withAt_at (id := id) e3 hI
    have hfit : PlanFits x := ⟨by have := hR.1; omega, fun r hr => by have := (okR_mem hR.2 r hr).2.2.1; omega⟩
    refine ⟨⟨h0, h⟩, e3, fun q => ⟨⟨by omega, by omega, fun k hk => ?_⟩, by omega⟩, fun q => ?_⟩
    · by_cases e : k < i.toNat
      · exact hI k e
      · rw [show k = i.toNat by omega]; exact q
    have hat := hat q
    change List Route at x
    generalize hgr : x.getD i.toNat { driver := 0, served := 0, stops := [] } = r at *
    have bad : ¬ spotOk r s = true → false = (withAt id s x).isSome ∧ (withAt id s x).getD [] = [] := fun q => no (by rw [hat, if_neg q])
    refine ⟨fun f1 => ⟨fun f2 => ⟨fun f3 => ⟨fun f4 => bad fun q => ?_, fun f4 => ?_⟩, fun f3 => bad fun q => ?_⟩, fun f2 => bad fun q => ?_⟩, fun f1 => bad fun q => ?_⟩
    · simp [spotOk] at q; omega
    · have : spotOk r s = true := by simp [spotOk]; omega
      rw [hat, if_pos this]
      exact ⟨hfit, by omega, ⟨h0, h⟩, e3, rfl, rfl⟩
    · simp [spotOk] at q; omega
    · simp [spotOk] at q; omega
    · simp [spotOk] at q; omega
  · obtain ⟨h0, h1, hI⟩ := hi
    refine no (withAt_none ((forall_getD rz).2 fun k hk => hI k (by omega)))
theorem pwith_t : Told Try.prog 27 pwith_con := pwith_told (csOk_cons pfind_t (csOk_cons pright_t (csOk_cons pcopy_t (csOk_cons sput_t csOk_nil)))) pwith_ok
end Go.Eng
