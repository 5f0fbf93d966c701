/- With a stop's Window begun later, at a time from its beginning on, all can be made just up to its latest time. -/
import Derived.Test.YtindbdefjandkaaSlackLimitVc
import Derived.Test.YtindbdefjandkaaSlackSoon
import Derived.Test.YtindbdefjandkaaSlackRuns
set_option linter.unusedVariables false
set_option linter.unusedSimpArgs false
namespace Go.Eng
open Go Go.Proofs
theorem getD_setO {l : List Order} {i j : Nat} {o z : Order} (hi : i < l.length) : (l.set i o).getD j z = if j = i then o else l.getD j z := by
  rw [List.getD_eq_getElem?_getD, List.getD_eq_getElem?_getD, List.getElem?_set]
  by_cases h : i = j
  · subst h; simp [hi]
  · rw [if_neg h, if_neg (Ne.symm h)]
theorem list_of_getD {l x : List Order} (hl : l.length = x.length) (h : ∀ j, j < l.length → l.getD j (FK.zero .order) = x.getD j (FK.zero .order)) : l = x := by
  refine List.ext_getElem hl fun j h1 h2 => ?_
  have := h j h1
  rwa [getD_of h1, getD_of h2] at this
theorem slackLimit_ok : slackLimit_vc := by
  unfold slackLimit_vc
  simp only [bad_false, int0, nilOf, decide_eq_true_eq, decide_eq_false_iff_not, Bool.not_eq_true', Bool.not_eq_false', Bool.not_true, Bool.not_false, Bool.false_eq_true, Bool.true_eq_false, eq_self, true_and, and_true, false_or, or_false, false_implies, true_implies, implies_true, Int.not_lt, Int.not_le, gt_iff_lt, ge_iff_le, ne_eq]
  intro w how d ss hss at' later hg
  have hsl := hss.le
  have hol := how.2.2.1.le
  have z2 : w.orders.length * 80 ≤ 140737488351232 := hg.is.1.2 (.a (.f .order) w.orders) (by simp [SK.enc])
  refine ⟨fun h => ?_, fun h => ?_⟩
  · have hm : ∀ (x : MapD), none = some x → MapOk x := mapOkO_none
    exact ⟨hm, hm, fun _ => ⟨fun h => h rfl, fun _ h => absurd rfl h⟩, fun h => by simp at h⟩
  have hm := mapOkO_some h
  have hM : MapOk ⟨w.n, w.times⟩ := hm _ rfl
  refine ⟨hm, hm, fun _ => ?_, fun h => by simp at h⟩
  cases hgd : good (fauR (drive (some ⟨w.n, w.times⟩) d w.orders ss)) with
  | false =>
    have e1 : latR (some ⟨w.n, w.times⟩) d w.orders ss = [] := by unfold latR; dsimp only; rw [hgd]; rfl
    have e2 := drive_bad hgd
    rw [e1, e2]
    exact ⟨fun h => h rfl, fun _ h => absurd rfl h⟩
  | true =>
    have e1 : latR (some ⟨w.n, w.times⟩) d w.orders ss = latest ⟨w.n, w.times⟩ d w.orders ss := by unfold latR; dsimp only; rw [hgd]; rfl
    have el : (latest ⟨w.n, w.times⟩ d w.orders ss).length = ss.length := latest_length ss
    obtain ⟨x, vs, hx, hf, hr, hd⟩ := drive_good hgd
    injection hx with hx
    subst hx
    have ev : (visR (drive (some ⟨w.n, w.times⟩) d w.orders ss)).length = ss.length := by rw [hd]; exact (driveGo_all hr).1
    have f2 := (fitB_iff.1 hf).2.1
    have hA := (known_iff.1 f2).2.2
    rw [e1, el, ev]
    refine ⟨fun h => h rfl, fun _ h0 => ?_⟩
    rw [wrap_id (n := (ss.length : Int) - 1) (by omega) (by omega)]
    have hK := bwithin_bound (n := at') (lo := 0) (hi := (ss.length : Int) - 1) (by omega)
    generalize bwithin at' 0 ((ss.length : Int) - 1) = K at *
    have law := fun (i : Nat) => limit_law (i := i) (k := K.toNat) (ss := ss) (d := d) hM hgd (by omega)
    refine ⟨⟨by omega, by omega, by omega⟩, by omega, fun i l => 0 ≤ i ∧ l.length = w.orders.length ∧ ∀ j : Nat, (i ≤ j ∨ (w.orders.getD j (FK.zero .order)).id ≠ (ss.getD K.toNat (FK.zero .stop)).order) → l.getD j (FK.zero .order) = w.orders.getD j (FK.zero .order),
      fun i l => w.orders.length - i.toNat, ⟨by omega, rfl, fun j _ => rfl⟩, fun i l hI hil => ?_⟩
    obtain ⟨i0, i1, i2⟩ := hI
    have iN : i.toNat < w.orders.length := by omega
    have hO : l.getD i.toNat (FK.zero .order) = w.orders.getD i.toNat (FK.zero .order) := i2 i.toNat (.inl (by omega))
    rw [hO, wrap_id (n := i + 1) (by omega) (by omega)]
    have kS : (0 ≤ K ∧ K < (ss.length : Int)) ∧ K.toNat < ss.length := ⟨⟨by omega, by omega⟩, by omega⟩
    refine ⟨⟨i0, hil⟩, by omega, kS.1, kS.2, fun hid => ⟨⟨by omega, i1, fun j hj => i2 j (by omega)⟩, by dsimp only; omega⟩, fun hid => ⟨⟨i0, hil⟩, kS.1, kS.2, ?_⟩⟩
    have hl : l = w.orders := by
      refine list_of_getD i1 fun j hj => i2 j ?_
      by_cases hji : i ≤ j
      · exact .inl hji
      · refine .inr ?_
        rw [← hid, getD_of (by omega), getD_of iN]
        exact List.pairwise_iff_getElem.1 hA j i.toNat (by omega) iN (by omega)
    subst hl
    obtain ⟨⟨q1, q2, q3, q4, q5, q6⟩, q7⟩ := law i.toNat iN hid
    generalize hO' : w.orders.getD i.toNat (FK.zero .order) = O at *
    generalize hSK : ss.getD K.toNat (FK.zero .stop) = SK at *
    generalize hVB : ((visR (drive (some ⟨w.n, w.times⟩) d w.orders ss)).getD K.toNat (FK.zero .visit)).start = VB at *
    generalize hLK : (latest ⟨w.n, w.times⟩ d w.orders ss).getD K.toNat 0 = LK at *
    have fin : ∀ (dr : Bool) (t : Int), SK.drop = dr → VB ≤ t → t ≤ (siteOf O dr).hi →
        ((good (fauR (drive (some ⟨w.n, w.times⟩) d (w.orders.set i.toNat (turnO O dr t)) ss)) == decide (t ≤ LK)) = false → False) ∧
        ((good (fauR (drive (some ⟨w.n, w.times⟩) d (w.orders.set i.toNat (turnO O dr t)) ss)) == decide (t ≤ LK)) = true →
          (0 ≤ i + 1 ∧ (w.orders.set i.toNat (turnO O dr t)).length = w.orders.length ∧ ∀ j : Nat, (i + 1 ≤ j ∨ (w.orders.getD j (FK.zero .order)).id ≠ SK.order) → (w.orders.set i.toNat (turnO O dr t)).getD j (FK.zero .order) = w.orders.getD j (FK.zero .order)) ∧
          w.orders.length - (i + 1).toNat < w.orders.length - i.toNat) := by
      intro dr t hdr t1 t2
      subst hdr
      refine ⟨fun hb => ?_, fun _ => ⟨⟨by omega, by rw [List.length_set], fun j hj => ?_⟩, by omega⟩⟩
      · rw [q7 t t1 t2] at hb
        simp at hb
      · rw [getD_setO iN, if_neg]
        rintro rfl
        rcases hj with hj | hj
        · omega
        · exact hj (by rw [hO']; exact hid)
    have hbw : VB ≤ (siteOf O SK.drop).hi → VB ≤ bwithin later VB (siteOf O SK.drop).hi ∧ bwithin later VB (siteOf O SK.drop).hi ≤ (siteOf O SK.drop).hi := fun h => bwithin_bound h
    have hbw := hbw q3
    have hhas : has ⟨(siteOf O SK.drop).lo, (siteOf O SK.drop).hi⟩ LK = true := by
      unfold has
      simp only [Bool.and_eq_true, decide_eq_true_eq, right_iff]
      refine ⟨⟨⟨q1, by omega, q4⟩, by omega⟩, q6⟩
    refine ⟨fun hdr => ⟨⟨i0, hil⟩, kS.1, kS.2, kS.1, kS.2, fun _ => ⟨iN, kS.1, kS.2, fun hb => ?_, fun _ => ?_⟩, fun hb => by omega⟩, fun hdr => ⟨kS.1, kS.2, kS.1, kS.2, fun _ => ⟨iN, kS.1, kS.2, fun hb => ?_, fun _ => ?_⟩, fun hb => by omega⟩⟩
    · rw [hdr] at hhas
      exact absurd (hb.symm.trans hhas) (by decide)
    · rw [hdr] at hbw q3 q4
      exact ⟨kS.1, kS.2, iN, ⟨q3, by omega, by show O.dt ≤ _; have : O.dt ≤ 1000000 := q4; omega⟩, kS.1, kS.2, fun h1 => ⟨iN, fun h2 => ⟨iN, hm, kS.1, kS.2, fin true later hdr h1 h2⟩, fun h2 => ⟨iN, hm, kS.1, kS.2, fin true _ hdr hbw.1 hbw.2⟩⟩, fun h1 => ⟨iN, hm, kS.1, kS.2, fin true _ hdr hbw.1 hbw.2⟩⟩
    · rw [hdr] at hhas
      exact absurd (hb.symm.trans hhas) (by decide)
    · rw [hdr] at hbw q3 q4
      exact ⟨kS.1, kS.2, iN, ⟨q3, by omega, by show O.pt ≤ _; have : O.pt ≤ 1000000 := q4; omega⟩, kS.1, kS.2, fun h1 => ⟨iN, fun h2 => ⟨iN, hm, kS.1, kS.2, fin false later hdr h1 h2⟩, fun h2 => ⟨iN, hm, kS.1, kS.2, fin false _ hdr hbw.1 hbw.2⟩⟩, fun h1 => ⟨iN, hm, kS.1, kS.2, fin false _ hdr hbw.1 hbw.2⟩⟩
theorem slackLimit_t : Told Try.prog 8 slackLimit_con := slackLimit_told (csOk_cons maps_t (csOk_cons drive_t (csOk_cons slat_t (csOk_cons goodF_t (csOk_cons slackRuns_t (csOk_cons bWithin_t (csOk_cons has_t csOk_nil))))))) slackLimit_ok
end Go.Eng
