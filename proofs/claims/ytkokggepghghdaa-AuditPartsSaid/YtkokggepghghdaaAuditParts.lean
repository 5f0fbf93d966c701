/- What is wrong with a plan is what is wrong on each of its routes alone: the statement. -/
import Derived.Test.YtkokggepghghdaaAuditPartsVc
import Derived.Test.YtkokggepghghdaaPlanLaw
set_option linter.unusedVariables false
set_option linter.unusedSimpArgs false
namespace Go.Eng
open Go Go.Proofs
theorem walkA_why {m : MapD} {d : Driver} {os : List Order} : ∀ (l ah : List Stop) (p : Pos), ∀ t ∈ walkA m d os ah l p, t.why ≠ 1 ∧ t.why ≠ 19
  | [], _, _, t, h => by cases h
  | s :: l, ah, p, t, h => by
    rw [walkA] at h
    split at h
    · rcases List.mem_cons.1 h with rfl | h
      · simp
      · exact walkA_why l _ _ t h
    · rcases List.mem_append.1 h with h | h
      · unfold toldA at h
        rcases List.mem_append.1 h with h | h
        · split at h
          · rw [List.mem_singleton.1 h]; simp
          · split at h
            · rw [List.mem_singleton.1 h]; simp
            · cases h
        · split at h
          · rw [List.mem_singleton.1 h]; simp
          · cases h
      · exact walkA_why l _ _ t h
theorem lackA_why {d : Driver} {os : List Order} : ∀ (l : List Stop), ∀ t ∈ lackA d os l, t.why ≠ 1 ∧ t.why ≠ 19
  | [], t, h => by cases h
  | s :: l, t, h => by
    rw [lackA] at h
    rcases List.mem_append.1 h with h | h
    · unfold lack1 at h
      split at h
      · rw [List.mem_singleton.1 h]; simp
      · cases h
    · exact lackA_why l t h
theorem routeA_why {m : MapD} {ds : List Driver} {os : List Order} {r : Route} : ∀ t ∈ routeA m ds os r, t.why ≠ 1 ∧ t.why ≠ 19 := by
  intro t h
  unfold routeA at h
  split at h
  · rw [List.mem_singleton.1 h]; simp
  · rcases List.mem_append.1 h with h | h
    · exact walkA_why _ _ _ t h
    · exact lackA_why _ t h
theorem missA_why {p : List Route} {os : List Order} : ∀ t ∈ missA p os, t.why = 19 := by
  intro t h
  unfold missA at h
  obtain ⟨o, _, h⟩ := List.mem_flatMap.1 h
  split at h
  · rw [List.mem_singleton.1 h]
  · cases h
theorem missA_few {p : List Route} {os : List Order} : (missA p os).length ≤ os.length := by
  unfold missA
  generalize os = l
  induction l with
  | nil => simp
  | cons o l ih =>
    rw [List.flatMap_cons, List.length_append, List.length_cons]
    have : (if (findP o.id p).isNone = true then [(⟨0, o.id, 19⟩ : Trouble)] else []).length ≤ 1 := by split <;> simp
    omega
theorem well_one {m : MapD} {ds : List Driver} {os : List Order} {p : List Route} (h : wellP (some m) ds os p = true) {r : Route} (hr : r ∈ p) : wellP (some m) ds os [r] = true := by
  obtain ⟨w0, w1, w2, w3, w4⟩ := wellP_iff.1 h
  exact wellP_iff.2 ⟨w0, w1, w2, rightP_iff.2 (right_one (rightP_iff.1 w3) hr).1, w4⟩
def notMiss (t : Trouble) : Bool := !decide (t.why = 19)
theorem audit_one {m : MapD} {ds : List Driver} {os : List Order} {p : List Route} (h : wellP (some m) ds os p = true) {r : Route} (hr : r ∈ p) : (auditA (some m) ds os [r]).filter notMiss = routeA m ds os r ∧ (auditA (some m) ds os [r]).length ≤ (routeA m ds os r).length + 40 := by
  rw [auditA_in (well_one h hr), List.filter_append]
  have h1 : (([r] : List Route).flatMap (routeA m ds os)) = routeA m ds os r := by simp
  have h2 : (routeA m ds os r).filter notMiss = routeA m ds os r := List.filter_eq_self.2 fun t ht => by
    have := (routeA_why t ht).2
    simp [notMiss, this]
  have h3 : (missA [r] os).filter notMiss = [] := List.filter_eq_nil_iff.2 fun t ht => by
    have := missA_why t ht
    simp [notMiss, this]
  rw [h1, h2, h3, List.append_nil, List.length_append]
  have := missA_few (p := [r]) (os := os)
  have := (known_at (wellP_iff.1 h).2.2.1).1
  exact ⟨rfl, by omega⟩
theorem routeA_few {m : MapD} {ds : List Driver} {os : List Order} {r : Route} (h : r.stops.length ≤ 80) : (routeA m ds os r).length ≤ 241 := by
  unfold routeA
  split
  · simp
  · have := alongA_length (m := m) (d := by assumption) (os := os) (ss := r.stops); omega
theorem part_one {p : List Route} {i : Int} (h0 : 0 ≤ i) (h : i < p.length) : part p i.toNat ((i + 1).toNat - i.toNat) = [p.getD i.toNat rz] := by
  unfold part
  rw [getD_drop (d := rz) (by omega), show (i + 1).toNat - i.toNat = 1 by omega]
  rfl
theorem parts_loop {m : MapD} {ds : List Driver} {os : List Order} {p : List Route} (hm : MapOk m) (ho : os.length ≤ 9223372036854775807) (hp : p.length ≤ 9223372036854775807) (hw : wellP (some m) ds os p = true) :
    ∃ (inv : List Trouble → Int → Prop) (μ : List Trouble → Int → Nat), inv [] 0 ∧ ∀ (x_7 : List Trouble) (x_8 : Int), inv x_7 x_8 → (x_8 < (p.length : Int) → (0 ≤ x_8 ∧ x_8 ≤ wrap (x_8 + 1) ∧ wrap (x_8 + 1) ≤ (p.length : Int)) ∧ (x_8.toNat + ((wrap (x_8 + 1)).toNat - x_8.toNat) ≤ p.length ∧ ∀ (x_5 : MapD), some m = some x_5 → MapOk x_5) ∧ ∃ (inv_1 : List Trouble → Int → Prop) (μ_1 : List Trouble → Int → Nat), inv_1 x_7 0 ∧ ∀ (x_11 : List Trouble) (x_12 : Int), inv_1 x_11 x_12 → (x_12 < ((auditA (some m) ds os (part p x_8.toNat ((wrap (x_8 + 1)).toNat - x_8.toNat))).length : Int) → (0 ≤ x_12 ∧ x_12 < ((auditA (some m) ds os (part p x_8.toNat ((wrap (x_8 + 1)).toNat - x_8.toNat))).length : Int)) ∧ x_12.toNat < (auditA (some m) ds os (part p x_8.toNat ((wrap (x_8 + 1)).toNat - x_8.toNat))).length ∧ (¬((auditA (some m) ds os (part p x_8.toNat ((wrap (x_8 + 1)).toNat - x_8.toNat))).getD x_12.toNat (FK.zero .trouble)).why = 19 → (0 ≤ x_12 ∧ x_12 < ((auditA (some m) ds os (part p x_8.toNat ((wrap (x_8 + 1)).toNat - x_8.toNat))).length : Int)) ∧ x_12.toNat < (auditA (some m) ds os (part p x_8.toNat ((wrap (x_8 + 1)).toNat - x_8.toNat))).length ∧ (x_11.length + [(auditA (some m) ds os (part p x_8.toNat ((wrap (x_8 + 1)).toNat - x_8.toNat))).getD x_12.toNat (FK.zero .trouble)].length) * (8 * 3) ≤ 140737488355328 ∧ inv_1 (x_11 ++ [(auditA (some m) ds os (part p x_8.toNat ((wrap (x_8 + 1)).toNat - x_8.toNat))).getD x_12.toNat (FK.zero .trouble)]) (wrap (x_12 + 1)) ∧ μ_1 (x_11 ++ [(auditA (some m) ds os (part p x_8.toNat ((wrap (x_8 + 1)).toNat - x_8.toNat))).getD x_12.toNat (FK.zero .trouble)]) (wrap (x_12 + 1)) < μ_1 x_11 x_12) ∧ (((auditA (some m) ds os (part p x_8.toNat ((wrap (x_8 + 1)).toNat - x_8.toNat))).getD x_12.toNat (FK.zero .trouble)).why = 19 → inv_1 x_11 (wrap (x_12 + 1)) ∧ μ_1 x_11 (wrap (x_12 + 1)) < μ_1 x_11 x_12)) ∧ (((auditA (some m) ds os (part p x_8.toNat ((wrap (x_8 + 1)).toNat - x_8.toNat))).length : Int) ≤ x_12 → inv x_11 (wrap (x_8 + 1)) ∧ μ x_11 (wrap (x_8 + 1)) < μ x_7 x_8)) ∧ ((p.length : Int) ≤ x_8 → ∃ (inv : List Trouble → Int → Prop) (μ : List Trouble → Int → Nat), inv x_7 0 ∧ ∀ (x_11 : List Trouble) (x_12 : Int), inv x_11 x_12 → (x_12 < (os.length : Int) → (0 ≤ x_12 ∧ x_12 < (os.length : Int)) ∧ x_12.toNat < os.length ∧ ((findP (os.getD x_12.toNat (FK.zero .order)).id p).isSome = false → (0 ≤ x_12 ∧ x_12 < (os.length : Int)) ∧ x_12.toNat < os.length ∧ (x_11.length + [(⟨0, (os.getD x_12.toNat (FK.zero .order)).id, 19⟩ : Trouble)].length) * (8 * 3) ≤ 140737488355328 ∧ inv (x_11 ++ [(⟨0, (os.getD x_12.toNat (FK.zero .order)).id, 19⟩ : Trouble)]) (wrap (x_12 + 1)) ∧ μ (x_11 ++ [(⟨0, (os.getD x_12.toNat (FK.zero .order)).id, 19⟩ : Trouble)]) (wrap (x_12 + 1)) < μ x_11 x_12) ∧ ((findP (os.getD x_12.toNat (FK.zero .order)).id p).isSome = true → inv x_11 (wrap (x_12 + 1)) ∧ μ x_11 (wrap (x_12 + 1)) < μ x_11 x_12)) ∧ ((os.length : Int) ≤ x_12 → same (auditA (some m) ds os p) x_11 = false → False)) := by
  obtain ⟨_, w1, w2, w3, w4⟩ := wellP_iff.1 hw
  have hR := rightP_iff.1 w3
  have h8 := hR.1
  have hos := (known_at w2).1
  have hA := auditA_in hw
  have hmo : ∀ x : MapD, some m = some x → MapOk x := fun x hx => by cases hx; exact hm
  refine ⟨fun l i => 0 ≤ i ∧ i ≤ p.length ∧ l.length ≤ 241 * i.toNat ∧ l ++ (p.drop i.toNat).flatMap (routeA m ds os) = p.flatMap (routeA m ds os), fun _ i => p.length - i.toNat, ⟨by omega, by omega, by simp, by simp⟩, fun l i hi => ⟨fun h => ?_, fun h => ?_⟩⟩
  · obtain ⟨h0, h1, hL, hI⟩ := hi
    obtain ⟨e1, e2, e3, e4⟩ := ix rz hp h0 h
    have hrm := getD_mem rz e3
    rw [flatMap_drop rz e3] at hI
    rw [e1, part_one h0 h]; dsimp only
    obtain ⟨a1, a2⟩ := audit_one hw hrm
    have hfew := routeA_few (m := m) (ds := ds) (os := os) (okR_mem hR.2 _ hrm).2.2.1
    generalize p.getD i.toNat rz = r at *
    rw [e2]
    refine ⟨⟨h0, by omega, by omega⟩, ⟨by omega, hmo⟩, ?_⟩
    generalize auditA (some m) ds os [r] = X at *
    refine ⟨fun l' k => 0 ≤ k ∧ k ≤ X.length ∧ l'.length ≤ 241 * i.toNat + k.toNat ∧ l' ++ (X.drop k.toNat).filter notMiss = l ++ routeA m ds os r, fun _ k => X.length - k.toNat, ⟨by omega, by omega, by omega, by rw [← a1]; simp⟩, fun l' k hk => ⟨fun g => ?_, fun g => ?_⟩⟩
    · obtain ⟨k0, k1, kL, kI⟩ := hk
      obtain ⟨d1, d2, d3, d4⟩ := ix (FK.zero .trouble) (by omega) k0 g
      rw [d4] at kI
      rw [d1]; dsimp only; rw [d2]
      generalize X.getD k.toNat (FK.zero .trouble) = t at *
      refine ⟨⟨k0, g⟩, d3, fun q => ⟨⟨k0, g⟩, d3, by simp only [List.length_cons, List.length_nil]; omega, ⟨by omega, by omega, by simp only [List.length_append, List.length_cons, List.length_nil]; omega, ?_⟩, by omega⟩, fun q => ⟨⟨by omega, by omega, by omega, ?_⟩, by omega⟩⟩
      · rw [← kI, List.filter_cons_of_pos (by simp [notMiss, q])]; simp
      · rw [← kI, List.filter_cons_of_neg (by simp [notMiss, q])]
    · obtain ⟨k0, k1, kL, kI⟩ := hk
      rw [ixEnd g] at kI
      simp only [List.filter_nil, List.append_nil] at kI
      have hll : l'.length = l.length + (routeA m ds os r).length := by rw [kI, List.length_append]
      refine ⟨⟨by omega, by omega, by omega, ?_⟩, by omega⟩
      rw [kI, ← hI]; simp
  · obtain ⟨h0, h1, hL, hI⟩ := hi
    rw [ixEnd h] at hI
    refine ⟨fun l' j => 0 ≤ j ∧ j ≤ os.length ∧ l'.length ≤ 1928 + j.toNat ∧ l' ++ missA p (os.drop j.toNat) = auditA (some m) ds os p, fun _ j => os.length - j.toNat, ⟨by omega, by omega, by simp; omega, by rw [hA]; simpa using hI⟩, fun l' j hj => ⟨fun g => ?_, fun g => ?_⟩⟩
    · obtain ⟨j0, j1, jL, jI⟩ := hj
      obtain ⟨e1, e2, e3, e4⟩ := ix (FK.zero .order) ho j0 g
      unfold missA at jI
      rw [flatMap_drop (FK.zero .order) e3] at jI
      rw [e1]; dsimp only; rw [e2]
      generalize os.getD j.toNat (FK.zero .order) = o at *
      refine ⟨⟨j0, g⟩, e3, fun q => ⟨⟨j0, g⟩, e3, ?_⟩, fun q => ?_⟩
      · have hn : (findP o.id p).isNone = true := by simpa using q
        rw [hn] at jI
        refine ⟨by simp; omega, ⟨by omega, by omega, by simp; omega, by rw [← jI]; simp [missA]⟩, by omega⟩
      · have hn : (findP o.id p).isNone = false := by simpa [Option.isSome_iff_ne_none] using q
        rw [hn] at jI
        exact ⟨⟨by omega, by omega, by omega, by rw [← jI]; simp [missA]⟩, by omega⟩
    · obtain ⟨j0, j1, jL, jI⟩ := hj
      rw [ixEnd g] at jI
      have : l' = auditA (some m) ds os p := by simpa [missA] using jI
      intro q
      rw [this, same_self] at q; cases q
theorem auditParts_ok : auditParts_vc := by
  unfold auditParts_vc
  simp only [bad_false, int0, nilOf, decide_eq_true_eq, decide_eq_false_iff_not, Bool.not_eq_true', Bool.not_eq_false', Bool.not_true, Bool.not_false, Bool.false_eq_true, Bool.true_eq_false, eq_self, true_and, and_true, false_or, or_false, false_implies, true_implies, implies_true, Int.not_lt, Int.not_le, gt_iff_lt, ge_iff_le, ne_eq]
  intro w hwl hg
  have ho := hwl.2.2.1.le
  have hp := hwl.2.2.2.1.le
  refine ⟨fun h => ?_, fun h => ?_⟩
  · have hm : ∀ (x : MapD), none = some x → MapOk x := mapOkO_none
    have hA : auditA none w.drivers w.orders w.plan = [⟨0, 0, 1⟩] := rfl
    rw [hA]
    refine ⟨hm, fun _ => ⟨⟨by decide, by decide⟩, by decide, fun _ => ⟨⟨by decide, by decide⟩, by decide, by decide⟩, fun q => absurd rfl q⟩, fun q => absurd rfl q⟩
  · have hm := mapOkO_some h
    by_cases hw : wellP (some ⟨w.n, w.times⟩) w.drivers w.orders w.plan = true
    · have key := parts_loop (hm _ rfl) ho hp hw
      have hA := auditA_in hw
      refine ⟨hm, fun q => ⟨⟨by omega, by omega⟩, by omega, fun r => ?_, fun _ => key⟩, fun _ => key⟩
      exfalso
      have hmem := getD_mem (FK.zero .trouble) (show Int.toNat 0 < (auditA (some ⟨w.n, w.times⟩) w.drivers w.orders w.plan).length by omega)
      generalize (auditA (some ⟨w.n, w.times⟩) w.drivers w.orders w.plan).getD (Int.toNat 0) (FK.zero .trouble) = t at *
      rw [hA] at hmem
      rcases List.mem_append.1 hmem with h | h
      · obtain ⟨r', _, h⟩ := List.mem_flatMap.1 h
        exact (routeA_why t h).1 r
      · have := missA_why t h
        rw [r] at this; cases this
    · have hA : auditA (some ⟨w.n, w.times⟩) w.drivers w.orders w.plan = [⟨0, 0, 1⟩] := by simp [auditA, hw]
      rw [hA]
      refine ⟨hm, fun _ => ⟨⟨by decide, by decide⟩, by decide, fun _ => ⟨⟨by decide, by decide⟩, by decide, by decide⟩, fun q => absurd rfl q⟩, fun q => absurd rfl q⟩
theorem auditParts_t : Told Try.prog 6 auditParts_con := auditParts_told (csOk_cons maps_t (csOk_cons audit_t (csOk_cons auditRuns_t (csOk_cons pfind_t (csOk_cons sameT_t csOk_nil))))) auditParts_ok
end Go.Eng
