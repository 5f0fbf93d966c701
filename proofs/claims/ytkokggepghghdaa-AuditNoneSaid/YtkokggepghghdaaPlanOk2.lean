/- Plans: the document's own Right; what goes together; what is kept: it is so. -/
import Derived.Test.YtkokggepghghdaaPlanOk
set_option linter.unusedVariables false
set_option linter.unusedSimpArgs false
namespace Go.Eng
open Go Go.Proofs
def lastD (x : List Route) (i : Int) : Int := if 0 < i then (x.getD (i - 1).toNat rz).driver else 0
theorem rPright_ok : rPright_vc := by
  unfold rPright_vc
  simp only [bad_false, int0, nilOf, decide_eq_true_eq, decide_eq_false_iff_not, Bool.not_eq_true', Bool.not_eq_false', Bool.not_true, Bool.not_false, Bool.false_eq_true, Bool.true_eq_false, eq_self, true_and, and_true, false_or, or_false, false_implies, true_implies, implies_true, Int.not_lt, Int.not_le, gt_iff_lt, ge_iff_le, ne_eq]
  rintro x ⟨hl, hr⟩
  have hl := hl.le
  refine ⟨fun h8 => right_no fun hR => by have := hR.1; omega, fun h8 => ⟨fun all i => 0 ≤ i ∧ 0 ≤ lastD x i ∧ (okR (lastD x i) all (x.drop i.toNat) ↔ okR 0 [] x) ∧ all.length ≤ 80 * i.toNat, fun _ i => x.length - i.toNat, ⟨by omega, by simp [lastD], Iff.rfl, by simp⟩, fun all i hi => ⟨fun h => ?_, fun h => ?_⟩⟩⟩
  · obtain ⟨h0, hL, hI, hA⟩ := hi
    obtain ⟨e1, e2, e3, e4⟩ := ix rz hl h0 h
    have hrl := route_len hr _ (getD_mem rz e3)
    rw [e4, okR] at hI
    have hlast : lastD x (i + 1) = (x.getD i.toNat rz).driver := by unfold lastD; rw [if_pos (by omega), show i + 1 - 1 = i by omega]
    rw [e1]; dsimp only; rw [e2, hlast]
    change List Route at x
    have hprev : 0 < i → (wrap (i - 1) = i - 1 ∧ (i - 1).toNat < x.length ∧ (x.getD (i - 1).toNat rz).driver = lastD x i) := fun q => ⟨wrap_id (by omega) (by omega), by omega, by unfold lastD; rw [if_pos q]⟩
    have hfst : i ≤ 0 → lastD x i = 0 := fun q => by unfold lastD; rw [if_neg (by omega)]
    generalize lastD x i = last at *
    generalize x.getD i.toNat { driver := 0, served := 0, stops := [] } = r at *
    unfold okR1 at hI
    refine ⟨⟨h0, h⟩, e3, fun a1 => ⟨fun a2 => ⟨fun hp => ?A, fun hp => ?B⟩, fun a2 => right_no fun hR => by have := hI.2 hR.2; omega⟩, fun a1 => right_no fun hR => by have := hI.2 hR.2; omega⟩
    case' A =>
      obtain ⟨p1, p2, p3⟩ := hprev hp
      rw [p1, p3]
      refine ⟨⟨by omega, by omega⟩, p2, fun a3 => ?C, fun a3 => right_no fun hR => by have := hI.2 hR.2; omega⟩
    case' B => have a3 : last < r.driver := by rw [hfst hp]; omega
    all_goals
      refine ⟨fun b1 => ⟨fun b2 => ⟨fun b3 => right_no fun hR => by have := hI.2 hR.2; omega, fun b3 => ?_⟩, fun b2 => right_no fun hR => by have := hI.2 hR.2; omega⟩, fun b1 => right_no fun hR => by have := hI.2 hR.2; omega⟩
      have hI' : (okS all r.stops ∧ okR r.driver (all ++ r.stops) (x.drop (i.toNat + 1))) ↔ okR 0 [] x := by
        rw [← hI]; exact ⟨fun q => ⟨⟨a3, a2, by omega, b2, b3⟩, q⟩, fun q => q.2⟩
      refine ⟨fun al j => 0 ≤ j ∧ j ≤ r.stops.length ∧ ((okS al (r.stops.drop j.toNat) ∧ okR r.driver (al ++ r.stops.drop j.toNat) (x.drop (i.toNat + 1))) ↔ okR 0 [] x) ∧ al.length ≤ 80 * i.toNat + j.toNat, fun _ j => r.stops.length - j.toNat, ⟨by omega, by omega, by simpa using hI', by simpa using hA⟩, fun al j hj => ⟨fun k => ?_, fun k => ?_⟩⟩
      · obtain ⟨j0, j1, hJ, hB⟩ := hj
        obtain ⟨d1, d2, d3, d4⟩ := ix (FK.zero .stop) hrl j0 k
        rw [d4, okS] at hJ
        rw [d1]; dsimp only; rw [d2]
        generalize r.stops.getD j.toNat (FK.zero .stop) = s at *
        refine ⟨⟨j0, k⟩, d3, fun q1 => ⟨fun q2 => right_no fun hR => by have := (hJ.2 hR.2).1.1; omega, fun q2 => ?_⟩, fun q1 => right_no fun hR => by have := (hJ.2 hR.2).1.1; omega⟩
        refine ⟨fun t => 0 ≤ t ∧ s ∉ al.take t.toNat, fun t => al.length - t.toNat, ⟨by omega, by simp⟩, fun t ht => ⟨fun g => ?_, fun g => ?_⟩⟩
        · obtain ⟨t0, hT⟩ := ht
          obtain ⟨g1, g2, g3, g4⟩ := ix (FK.zero .stop) (by omega) t0 g
          rw [g1]; dsimp only; rw [g2]
          have hm := getD_mem (FK.zero .stop) g3
          refine ⟨⟨t0, g⟩, g3, fun y => right_no fun hR => ?_, fun y => ⟨⟨by omega, ?_⟩, by omega⟩⟩
          · rw [(elEqS _ _).1 y] at hm
            exact (hJ.2 hR.2).1.1.2.2 hm
          · have hy := (elEqS' _ _).1 y
            rw [List.take_succ_eq_append_getElem g3, List.mem_append, ← getD_get (FK.zero .stop) g3]
            rintro (z | z)
            · exact hT z
            · exact hy (List.mem_singleton.1 z).symm
        · obtain ⟨t0, hT⟩ := ht
          rw [List.take_of_length_le (by omega)] at hT
          refine ⟨by simp; omega, ⟨by omega, by omega, ?_, by simp; omega⟩, by omega⟩
          rw [← hJ]
          simp only [List.append_assoc, List.singleton_append]
          exact ⟨fun q => ⟨⟨⟨q1, q2, hT⟩, q.1⟩, q.2⟩, fun q => ⟨q.1.2, q.2⟩⟩
      · obtain ⟨j0, j1, hJ, hB⟩ := hj
        rw [ixEnd k, List.append_nil] at hJ
        exact ⟨⟨by omega, by omega, ⟨fun q => hJ.1 ⟨trivial, q⟩, fun q => (hJ.2 q).2⟩, by omega⟩, by omega⟩
  · obtain ⟨h0, hL, hI, hA⟩ := hi
    rw [ixEnd h] at hI
    exact right_yes ⟨by omega, hI.1 trivial⟩
theorem rPright_t : Told Try.prog 24 rPright_con := rPright_told csOk_nil rPright_ok
theorem all_range {p : Nat → Bool} {n : Nat} : (List.range n).all p = true ↔ ∀ k, k < n → p k = true := by simp
theorem wellP_iff {m : Option MapD} {ds : List Driver} {os : List Order} {p : List Route} : wellP m ds os p = true ↔ m.isSome = true ∧ ds.length ≤ 8 ∧ knownO m os = true ∧ rightP p = true ∧ ∀ k, k < ds.length → okD m ds k = true := by
  unfold wellP
  simp [and_assoc]
theorem well_no {m : Option MapD} {ds : List Driver} {os : List Order} {p : List Route} (h : ¬ wellP m ds os p = true) : false = wellP m ds os p := by simpa using h
theorem okD_iff {m : Option MapD} {ds : List Driver} {k : Nat} : okD m ds k = true ↔ driverE m (ds.getD k (FK.zero .driver)) = 0 ∧ (findD (ds.getD k (FK.zero .driver)).id (ds.take k)) = none := by
  simp [okD]
theorem ctog_ok : ctog_vc := by
  unfold ctog_vc
  simp only [bad_false, int0, nilOf, decide_eq_true_eq, decide_eq_false_iff_not, Bool.not_eq_true', Bool.not_eq_false', Bool.not_true, Bool.not_false, Bool.false_eq_true, Bool.true_eq_false, eq_self, true_and, and_true, false_or, or_false, false_implies, true_implies, implies_true, Int.not_lt, Int.not_le, gt_iff_lt, ge_iff_le, ne_eq]
  refine ⟨fun ds _ os _ p _ _ => rfl, ?_⟩
  intro m hm ds hd os ho p hp hmo
  have hd := hd.le
  refine ⟨fun a => ⟨hmo, fun b => ⟨fun c => well_no fun hw => by have := (wellP_iff.1 hw).2.2.2.1; exact absurd (c.symm.trans this) (by decide), fun c => ?_⟩, fun b => well_no fun hw => by have := (wellP_iff.1 hw).2.2.1; exact absurd (b.symm.trans this) (by decide)⟩, fun a => well_no fun hw => by have := (wellP_iff.1 hw).2.1; omega⟩
  refine ⟨fun i => 0 ≤ i ∧ i ≤ ds.length ∧ ∀ k, k < i.toNat → okD (some m) ds k = true, fun i => ds.length - i.toNat, ⟨by omega, by omega, fun k hk => by simp at hk⟩, fun i hi => ⟨fun h => ?_, fun h => ?_⟩⟩
  · obtain ⟨h0, h1, hI⟩ := hi
    obtain ⟨e1, e2, e3, e4⟩ := ix (FK.zero .driver) hd h0 h
    rw [e1]; dsimp only; rw [e2]
    have hp : part ds (Int.toNat 0) (i.toNat - Int.toNat 0) = ds.take i.toNat := by simp [part]
    rw [hp]
    refine ⟨⟨h0, h⟩, e3, ⟨by omega, by omega, by omega⟩, by simp; omega, fun q => ⟨hmo, fun r => well_no fun hw => ?_, fun r => ⟨⟨by omega, by omega, fun k hk => ?_⟩, by omega⟩⟩, fun q => well_no fun hw => ?_⟩
    · exact r (okD_iff.1 ((wellP_iff.1 hw).2.2.2.2 _ e3)).1
    · by_cases e : k < i.toNat
      · exact hI k e
      · rw [show k = i.toNat by omega, okD_iff]; exact ⟨r, by simpa using q⟩
    · have := (okD_iff.1 ((wellP_iff.1 hw).2.2.2.2 _ e3)).2
      rw [this] at q; cases q
  · obtain ⟨h0, h1, hI⟩ := hi
    exact (wellP_iff.2 ⟨rfl, by omega, b, c, fun k hk => hI k (by omega)⟩).symm
theorem ctog_t : Told Try.prog 39 ctog_con := ctog_told (csOk_cons known_t (csOk_cons pright_t (csOk_cons cdriver_t (csOk_cons driver_t csOk_nil)))) ctog_ok
theorem rWell_ok : rWell_vc := by
  unfold rWell_vc
  simp only [bad_false, int0, nilOf, decide_eq_true_eq, decide_eq_false_iff_not, Bool.not_eq_true', Bool.not_eq_false', Bool.not_true, Bool.not_false, Bool.false_eq_true, Bool.true_eq_false, eq_self, true_and, and_true, false_or, or_false, false_implies, true_implies, implies_true, Int.not_lt, Int.not_le, gt_iff_lt, ge_iff_le, ne_eq]
  refine ⟨fun ds _ os _ p _ _ => rfl, ?_⟩
  intro m hm ds hd os ho p hp hmo
  have hd := hd.le
  refine ⟨fun a => ⟨fun b => ⟨fun c => well_no fun hw => by have := (wellP_iff.1 hw).2.2.2.1; exact absurd (c.symm.trans this) (by decide), fun c => ?_⟩, fun b => well_no fun hw => by have := (wellP_iff.1 hw).2.2.1; exact absurd (b.symm.trans this) (by decide)⟩, fun a => well_no fun hw => by have := (wellP_iff.1 hw).2.1; omega⟩
  refine ⟨fun i => 0 ≤ i ∧ i ≤ ds.length ∧ ∀ k, k < i.toNat → okD (some m) ds k = true, fun i => ds.length - i.toNat, ⟨by omega, by omega, fun k hk => by simp at hk⟩, fun i hi => ⟨fun h => ?_, fun h => ?_⟩⟩
  · obtain ⟨h0, h1, hI⟩ := hi
    obtain ⟨e1, e2, e3, e4⟩ := ix (FK.zero .driver) hd h0 h
    rw [e1]; dsimp only; rw [e2]
    refine ⟨⟨h0, h⟩, e3, fun r => well_no fun hw => r (okD_iff.1 ((wellP_iff.1 hw).2.2.2.2 _ e3)).1, fun r => ?_⟩
    refine ⟨fun j => 0 ≤ j ∧ j ≤ i ∧ ∀ k, k < j.toNat → (ds.getD k (FK.zero .driver)).id ≠ (ds.getD i.toNat (FK.zero .driver)).id, fun j => ds.length - j.toNat, ⟨by omega, by omega, fun k hk => by simp at hk⟩, fun j hj => ⟨fun g => ?_, fun g => ?_⟩⟩
    · obtain ⟨j0, j1, hJ⟩ := hj
      obtain ⟨d1, d2, d3, d4⟩ := ix (FK.zero .driver) hd j0 (show j < ds.length by omega)
      rw [d1]; dsimp only; rw [d2]
      refine ⟨⟨j0, by omega⟩, d3, ⟨h0, h⟩, e3, fun q => well_no fun hw => ?_, fun q => ⟨⟨by omega, by omega, fun k hk => ?_⟩, by omega⟩⟩
      · have hn := findD_none.1 (okD_iff.1 ((wellP_iff.1 hw).2.2.2.2 _ e3)).2
        refine hn (ds.getD j.toNat (FK.zero .driver)) ?_ q
        rw [getD_get _ d3]
        exact List.mem_take_iff_getElem.2 ⟨j.toNat, by omega, rfl⟩
      · by_cases e : k < j.toNat
        · exact hJ k e
        · rw [show k = j.toNat by omega]; exact q
    · obtain ⟨j0, j1, hJ⟩ := hj
      refine ⟨⟨by omega, by omega, fun k hk => ?_⟩, by omega⟩
      by_cases e : k < i.toNat
      · exact hI k e
      · rw [show k = i.toNat by omega, okD_iff]
        refine ⟨r, findD_none.2 fun d hd' => ?_⟩
        obtain ⟨t, ht, rfl⟩ := List.mem_take_iff_getElem.1 hd'
        have := hJ t (by omega)
        rwa [getD_get _ (show t < ds.length by omega)] at this
  · obtain ⟨h0, h1, hI⟩ := hi
    exact (wellP_iff.2 ⟨rfl, by omega, b, c, fun k hk => hI k (by omega)⟩).symm
theorem rWell_t : Told Try.prog 44 rWell_con := rWell_told (csOk_cons rKnown_t (csOk_cons rPright_t (csOk_cons rDriver_t csOk_nil))) rWell_ok
theorem keptP_iff {a b : List Route} : keptP a b = true ↔ KeptP a b := by simp [keptP]
theorem kept_no {a b : List Route} (h : ¬ KeptP a b) : false = keptP a b := by
  cases e : keptP a b with
  | false => rfl
  | true => exact absurd (keptP_iff.1 e) h
theorem kept_yes {a b : List Route} (h : KeptP a b) : true = keptP a b := (keptP_iff.2 h).symm
theorem right_ne {p : List Route} (h : rightP p = false) : ¬ RightP p := fun q => by rw [rightP_iff.2 q] at h; cases h
theorem okR_mem {p : List Route} {last : Int} {all : List Stop} (h : okR last all p) : ∀ r ∈ p, last < r.driver ∧ r.driver ≤ 1000000 ∧ r.stops.length ≤ 80 ∧ 0 ≤ r.served ∧ r.served ≤ r.stops.length := by
  induction p generalizing last all with
  | nil => simp
  | cons a l ih =>
    intro r hr
    rcases List.mem_cons.1 hr with rfl | hr
    · exact h.1
    · have := ih h.2.2 r hr
      have := h.1.1
      refine ⟨by omega, by omega, by omega, by omega, by omega⟩
theorem routed_mem {id : Int} {p : List Route} {r : Route} (h : routed id p = some r) : r ∈ p ∧ r.driver = id := by
  induction p with
  | nil => cases h
  | cons a l ih =>
    rw [routed] at h
    split at h
    · cases h; simp [*]
    · exact ⟨List.mem_cons_of_mem _ (ih h).1, (ih h).2⟩
theorem routed_none {id : Int} {p : List Route} : routed id p = none ↔ ∀ r ∈ p, r.driver ≠ id := by
  induction p with
  | nil => simp [routed]
  | cons d l ih => rw [routed]; split <;> simp_all
theorem routed_drop {id : Int} {p : List Route} {i : Nat} (h : i < p.length) (hn : routed id (p.take i) = none) (he : (p.getD i rz).driver = id) : routed id p = some (p.getD i rz) := by
  induction p generalizing i with
  | nil => simp at h
  | cons a l ih =>
    rw [routed]
    cases i with
    | zero => rw [List.getD_cons_zero] at he ⊢; rw [if_pos he]
    | succ i =>
      rw [List.take_succ_cons, routed] at hn
      split at hn
      · cases hn
      · rename_i hne
        rw [if_neg hne, List.getD_cons_succ]
        exact ih (by simpa using h) hn (by simpa using he)
theorem take_same {a b : List Stop} {n : Nat} (ha : n ≤ a.length) (hb : n ≤ b.length) : a.take n = b.take n ↔ ∀ k, k < n → a.getD k (FK.zero .stop) = b.getD k (FK.zero .stop) := by
  constructor
  · intro h k hk
    rw [getD_get _ (show k < a.length by omega), getD_get _ (show k < b.length by omega)]
    have h1 : (a.take n)[k]'(by rw [List.length_take]; omega) = (b.take n)[k]'(by rw [List.length_take]; omega) := by simp only [h]
    simpa using h1
  · intro h
    apply List.ext_getElem
    · simp only [List.length_take]; omega
    · intro k h1 h2
      rw [List.length_take] at h1
      have := h k (by omega)
      rw [getD_get _ (show k < a.length by omega), getD_get _ (show k < b.length by omega)] at this
      simpa using this
/-- The rows of the later plan, up to one. -/
def KeptN (old new : List Route) (i : Nat) : Prop := ∀ k, k < i → keptR old (new.getD k rz)
theorem keptN_more {old new : List Route} {i : Nat} (h : KeptN old new i) (hk : keptR old (new.getD i rz)) : KeptN old new (i + 1) := fun k hk' => by
  by_cases e : k < i
  · exact h k e
  · rw [show k = i by omega]; exact hk
def HasN (old new : List Route) (i : Nat) : Prop := ∀ k, k < i → (routed (old.getD k rz).driver new).isSome = true
theorem hasN_more {old new : List Route} {i : Nat} (h : HasN old new i) (hk : (routed (old.getD i rz).driver new).isSome = true) : HasN old new (i + 1) := fun k hk' => by
  by_cases e : k < i
  · exact h k e
  · rw [show k = i by omega]; exact hk
theorem kept_all {old new : List Route} : KeptP old new ↔ RightP old ∧ RightP new ∧ HasN old new old.length ∧ KeptN old new new.length := by
  unfold KeptP HasN KeptN
  rw [forall_getD rz, forall_getD rz (l := new)]
/-- One route of the later plan beside the earlier one's. -/
theorem keptR_iff {old : List Route} {r o : Route} (ho : (routed r.driver old).getD ⟨0, 0, []⟩ = o) (hr : r.served ≤ r.stops.length) (hs : r.served = o.served) (hol : o.served ≤ o.stops.length) (h0 : 0 ≤ r.served) : keptR old r ↔ ∀ k, k < r.served.toNat → r.stops.getD k (FK.zero .stop) = o.stops.getD k (FK.zero .stop) := by
  unfold keptR
  rw [ho, take_same (by omega) (by omega)]
  exact ⟨fun h => h.2, fun h => ⟨hs, h⟩⟩
theorem rAkept_ok : rAkept_vc := by
  unfold rAkept_vc
  simp only [bad_false, int0, nilOf, decide_eq_true_eq, decide_eq_false_iff_not, Bool.not_eq_true', Bool.not_eq_false', Bool.not_true, Bool.not_false, Bool.false_eq_true, Bool.true_eq_false, eq_self, true_and, and_true, false_or, or_false, false_implies, true_implies, implies_true, Int.not_lt, Int.not_le, gt_iff_lt, ge_iff_le, ne_eq]
  rintro x ⟨hx, hxr⟩ y ⟨hy, hyr⟩
  have hx := hx.le
  have hy := hy.le
  refine ⟨fun rx => ⟨fun ry => kept_no fun h => right_ne ry h.2.1, fun ry => ?_⟩, fun rx => kept_no fun h => right_ne rx h.1⟩
  have rx' := rightP_iff.1 rx
  have ry' := rightP_iff.1 ry
  refine ⟨fun i => 0 ≤ i ∧ i ≤ x.length ∧ HasN x y i.toNat, fun i => x.length - i.toNat, ⟨by omega, by omega, fun k hk => by simp at hk⟩, fun i hi => ⟨fun h => ?_, fun h => ?_⟩⟩
  · obtain ⟨h0, h1, hI⟩ := hi
    obtain ⟨e1, e2, e3, e4⟩ := ix rz hx h0 h
    rw [e1]; dsimp only; rw [e2]
    refine ⟨⟨h0, h⟩, e3, fun q => kept_no fun hk => ?_, fun q => ⟨⟨by omega, by omega, hasN_more hI ?_⟩, by omega⟩⟩
    · have := (kept_all.1 hk).2.2.1 _ e3
      rw [routed_number.1 q] at this; cases this
    · rw [(routed_number.2 q).1]; rfl
  · obtain ⟨h0, h1, hI⟩ := hi
    rw [show i.toNat = x.length by omega] at hI
    refine ⟨fun i => 0 ≤ i ∧ i ≤ y.length ∧ KeptN x y i.toNat, fun i => y.length - i.toNat, ⟨by omega, by omega, fun k hk => by simp at hk⟩, fun i hi => ⟨fun g => ?_, fun g => ?_⟩⟩
    · obtain ⟨i0, i1, iI⟩ := hi
      obtain ⟨e1, e2, e3, e4⟩ := ix rz hy i0 g
      rw [e1]; dsimp only; rw [e2]
      have hrm := okR_mem ry'.2 _ (getD_mem rz e3)
      have hrl := route_len hyr _ (getD_mem rz e3)
      have hfail : ¬ keptR x (y.getD i.toNat rz) → false = keptP x y := fun q => kept_no fun hk => q ((kept_all.1 hk).2.2.2 _ e3)
      have hmore := keptN_more (i := i.toNat) iI
      generalize y.getD i.toNat { driver := 0, served := 0, stops := [] } = r at *
      refine ⟨⟨i0, g⟩, e3, fun q => ⟨⟨i0, g⟩, e3, fun t => hfail fun hk => ?_, fun t => ⟨⟨by omega, by omega, hmore ?_⟩, by omega⟩⟩, fun q => ?_⟩
      · have := hk.1; rw [routed_number.1 q] at this; exact t this
      · unfold keptR; rw [routed_number.1 q, t]; exact ⟨rfl, by simp⟩
      · obtain ⟨ro, rd⟩ := routed_number.2 q
        have hb := (numberP_bound r.driver x).2
        have hon := okR_mem rx'.2 _ (routed_mem ro).1
        generalize hN : numberP r.driver x = N at *
        generalize x.getD N.toNat { driver := 0, served := 0, stops := [] } = o at *
        have hO : (routed r.driver x).getD ⟨0, 0, []⟩ = o := by rw [ro]; rfl
        refine ⟨⟨i0, g⟩, e3, ⟨q, hb⟩, by omega, fun t => hfail fun hk => ?_, fun t => ?_⟩
        · have := hk.1; rw [hO] at this; exact t this
        have hK := keptR_iff hO (by omega) t (by omega) (by omega)
        refine ⟨fun j => 0 ≤ j ∧ j ≤ r.served ∧ ∀ k, k < j.toNat → r.stops.getD k (FK.zero .stop) = o.stops.getD k (FK.zero .stop), fun j => r.stops.length - j.toNat, ⟨by omega, by omega, fun k hk => by simp at hk⟩, fun j hj => ⟨⟨i0, g⟩, e3, fun v => ?_, fun v => ?_⟩⟩
        · obtain ⟨j0, j1, jI⟩ := hj
          have d1 : wrap (j + 1) = j + 1 := wrap_id (by omega) (by omega)
          rw [d1]; dsimp only
          refine ⟨⟨i0, g⟩, e3, ⟨by omega, by omega⟩, by omega, ⟨q, hb⟩, by omega, ⟨by omega, by omega⟩, by omega, fun z => hfail fun hk => (elEqS' _ _).1 z (hK.1 hk _ (by omega)), fun z => ⟨⟨by omega, by omega, fun k hk => ?_⟩, by omega⟩⟩
          by_cases e : k < j.toNat
          · exact jI k e
          · rw [show k = j.toNat by omega]; exact (elEqS _ _).1 z
        · obtain ⟨j0, j1, jI⟩ := hj
          exact ⟨⟨by omega, by omega, hmore (hK.2 fun k hk => jI k (by omega))⟩, by omega⟩
    · obtain ⟨i0, i1, iI⟩ := hi
      rw [show i.toNat = y.length by omega] at iI
      exact kept_yes (kept_all.2 ⟨rx', ry', hI, iI⟩)
theorem rAkept_t : Told Try.prog 23 rAkept_con := rAkept_told (csOk_cons rPright_t (csOk_cons rNumber_t csOk_nil)) rAkept_ok
theorem akept_ok : akept_vc := by
  unfold akept_vc
  simp only [bad_false, int0, nilOf, decide_eq_true_eq, decide_eq_false_iff_not, Bool.not_eq_true', Bool.not_eq_false', Bool.not_true, Bool.not_false, Bool.false_eq_true, Bool.true_eq_false, eq_self, true_and, and_true, false_or, or_false, false_implies, true_implies, implies_true, Int.not_lt, Int.not_le, gt_iff_lt, ge_iff_le, ne_eq]
  rintro x ⟨hx, hxr⟩ y ⟨hy, hyr⟩
  have hx := hx.le
  have hy := hy.le
  refine ⟨fun rx => ⟨fun ry => kept_no fun h => right_ne ry h.2.1, fun ry => ?_⟩, fun rx => kept_no fun h => right_ne rx h.1⟩
  have rx' := rightP_iff.1 rx
  have ry' := rightP_iff.1 ry
  refine ⟨fun i => 0 ≤ i ∧ i ≤ x.length ∧ HasN x y i.toNat, fun i => x.length - i.toNat, ⟨by omega, by omega, fun k hk => by simp at hk⟩, fun i hi => ⟨fun h => ?_, fun h => ?_⟩⟩
  · obtain ⟨h0, h1, hI⟩ := hi
    obtain ⟨e1, e2, e3, e4⟩ := ix rz hx h0 h
    rw [e1]; dsimp only; rw [e2]
    have hfail : routed (x.getD i.toNat rz).driver y = none → false = keptP x y := fun q => kept_no fun hk => by
      have := (kept_all.1 hk).2.2.1 _ e3
      rw [q] at this; cases this
    have hmore := hasN_more (i := i.toNat) hI
    generalize x.getD i.toNat { driver := 0, served := 0, stops := [] } = r at *
    refine ⟨⟨h0, h⟩, e3, fun j => 0 ≤ j ∧ j ≤ y.length ∧ routed r.driver (y.take j.toNat) = none, fun j => y.length - j.toNat, ⟨by omega, by omega, rfl⟩, fun j hj => ⟨fun g => ?_, fun g => ?_⟩⟩
    · obtain ⟨j0, j1, jI⟩ := hj
      obtain ⟨d1, d2, d3, d4⟩ := ix rz hy j0 g
      rw [d1]; dsimp only; rw [d2]
      refine ⟨⟨j0, g⟩, d3, fun q => ⟨⟨by omega, by omega, hmore ?_⟩, by omega⟩, fun q => ⟨⟨by omega, by omega, ?_⟩, by omega⟩⟩
      · rw [routed_drop d3 jI q]; rfl
      · rw [routed_none] at jI ⊢
        intro r' hr'
        rw [List.take_succ_eq_append_getElem d3, List.mem_append] at hr'
        rcases hr' with z | z
        · exact jI r' z
        · rw [List.mem_singleton.1 z, ← getD_get rz d3]; exact q
    · obtain ⟨j0, j1, jI⟩ := hj
      rw [List.take_of_length_le (by omega)] at jI
      exact hfail jI
  · obtain ⟨h0, h1, hI⟩ := hi
    rw [show i.toNat = x.length by omega] at hI
    refine ⟨fun i => 0 ≤ i ∧ i ≤ y.length ∧ KeptN x y i.toNat, fun i => y.length - i.toNat, ⟨by omega, by omega, fun k hk => by simp at hk⟩, fun i hi => ⟨fun g => ?_, fun g => ?_⟩⟩
    · obtain ⟨i0, i1, iI⟩ := hi
      obtain ⟨e1, e2, e3, e4⟩ := ix rz hy i0 g
      rw [e1]; dsimp only; rw [e2]
      have hrm := okR_mem ry'.2 _ (getD_mem rz e3)
      have hrl := route_len hyr _ (getD_mem rz e3)
      have hfail : ¬ keptR x (y.getD i.toNat rz) → false = keptP x y := fun q => kept_no fun hk => q ((kept_all.1 hk).2.2.2 _ e3)
      have hmore := keptN_more (i := i.toNat) iI
      generalize y.getD i.toNat { driver := 0, served := 0, stops := [] } = r at *
      refine ⟨⟨i0, g⟩, e3, fun l => 0 ≤ l ∧ l ≤ x.length ∧ routed r.driver (x.take l.toNat) = none, fun l => x.length - l.toNat, ⟨by omega, by omega, rfl⟩, fun l hl => ⟨fun u => ?_, fun u => ?_⟩⟩
      · obtain ⟨l0, l1, lI⟩ := hl
        obtain ⟨d1, d2, d3, d4⟩ := ix rz hx l0 u
        rw [d1]; dsimp only; rw [d2]
        refine ⟨⟨l0, u⟩, d3, fun q => ?_, fun q => ⟨⟨by omega, by omega, ?_⟩, by omega⟩⟩
        · have ro := routed_drop d3 lI q
          have hon := okR_mem rx'.2 _ (getD_mem rz d3)
          generalize x.getD l.toNat { driver := 0, served := 0, stops := [] } = o at *
          have hO : (routed r.driver x).getD ⟨0, 0, []⟩ = o := by rw [ro]; rfl
          refine ⟨fun t => hfail fun hk => ?_, fun t => ?_⟩
          · have := hk.1; rw [hO] at this; exact t this
          have hK := keptR_iff hO (by omega) t (by omega) (by omega)
          refine ⟨fun j => 0 ≤ j ∧ j ≤ r.served ∧ ∀ k, k < j.toNat → r.stops.getD k (FK.zero .stop) = o.stops.getD k (FK.zero .stop), fun j => r.stops.length - j.toNat, ⟨by omega, by omega, fun k hk => by simp at hk⟩, fun j hj => ⟨fun v => ?_, fun v => ?_⟩⟩
          · obtain ⟨j0, j1, jI⟩ := hj
            have d1 : wrap (j + 1) = j + 1 := wrap_id (by omega) (by omega)
            rw [d1]; dsimp only
            refine ⟨⟨by omega, by omega⟩, by omega, ⟨by omega, by omega⟩, by omega, fun z => hfail fun hk => (elEqS' _ _).1 z (hK.1 hk _ (by omega)), fun z => ⟨⟨by omega, by omega, fun k hk => ?_⟩, by omega⟩⟩
            by_cases e : k < j.toNat
            · exact jI k e
            · rw [show k = j.toNat by omega]; exact (elEqS _ _).1 z
          · obtain ⟨j0, j1, jI⟩ := hj
            exact ⟨⟨by omega, by omega, hmore (hK.2 fun k hk => jI k (by omega))⟩, by omega⟩
        · rw [routed_none] at lI ⊢
          intro r' hr'
          rw [List.take_succ_eq_append_getElem d3, List.mem_append] at hr'
          rcases hr' with z | z
          · exact lI r' z
          · rw [List.mem_singleton.1 z, ← getD_get rz d3]; exact q
      · obtain ⟨l0, l1, lI⟩ := hl
        rw [List.take_of_length_le (by omega)] at lI
        refine ⟨fun t => hfail fun hk => ?_, fun t => ?_⟩
        · have := hk.1; rw [lI] at this; exact t this
        refine ⟨fun j => 0 ≤ j, fun j => 0, by omega, fun j hj => ⟨fun v => by omega, fun v => ⟨⟨by omega, by omega, hmore ?_⟩, by omega⟩⟩⟩
        unfold keptR; rw [lI, t]; exact ⟨rfl, by simp⟩
    · obtain ⟨i0, i1, iI⟩ := hi
      rw [show i.toNat = y.length by omega] at iI
      exact kept_yes (kept_all.2 ⟨rx', ry', hI, iI⟩)
theorem akept_in_ok : InlsOk Try.prog akept_in := inlsOk_cons Try.func42 (by kernel_rfl) inlsOk_nil
theorem akept_t : Told Try.prog 18 akept_con := akept_told (csOk_cons pright_t csOk_nil) akept_in_ok akept_ok
end Go.Eng
