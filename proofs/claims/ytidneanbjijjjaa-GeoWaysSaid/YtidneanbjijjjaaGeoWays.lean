/- No way from place to place is shorter than the closed map's time. -/
import Derived.Test.YtidneanbjijjjaaGeoWaysVc
import Derived.Test.YtidneanbjijjjaaGeoRuns
set_option linter.unusedVariables false
set_option linter.unusedSimpArgs false
namespace Go.Eng
open Go Go.Proofs
theorem geoWays_ok : geoWays_vc := by
  unfold geoWays_vc
  simp only [bad_false, int0, nilOf, decide_eq_true_eq, decide_eq_false_iff_not, Bool.not_eq_true', Bool.not_eq_false', Bool.not_true, Bool.not_false, Bool.false_eq_true, Bool.true_eq_false, eq_self, true_and, and_true, false_or, or_false, false_implies, true_implies, implies_true, Int.not_lt, Int.not_le, gt_iff_lt, ge_iff_le, ne_eq]
  intro n ts hts ws hws hg
  have hws := hws.le
  refine ⟨fun h => ⟨fun h' => absurd h' h, fun _ hb => ?_⟩, fun h => ⟨⟨fun _ hb => ?_, fun h2 => ?_⟩, fun h => absurd trivial h⟩⟩
  · simp [h] at hb
  · simp at hb
  have hk := mapOk_of h
  have hm := mapOkO_some h
  have hkc : MapOk ⟨n, fw n.toNat ts⟩ := closed_ok' hk
  have hc : ∀ (x : MapD), some ⟨n, fw n.toNat ts⟩ = some x → MapOk x := mapOkO_of hkc
  have hcl : Clos n.toNat ts (fw n.toNat ts) := fw_clos hk.times hk.diag'
  have htm : TimesOk n.toNat ts := hk.times
  have hlo : 1 ≤ n := hk.lo
  have hhi : n ≤ 12 := hk.hi
  rw [wrap_id (n := n - 1) (by omega) (by omega)]
  generalize hf : bwithin (ws.getD (Int.toNat 0) 0) 0 (n - 1) = first
  have fb : 0 ≤ first ∧ first ≤ n - 1 := by rw [← hf]; exact bwithin_bound (by omega)
  have tin : ∀ (l : List Int) (a b : Int), 0 ≤ a → a ≤ n - 1 → 0 ≤ b → b ≤ n - 1 → mtime (some ⟨n, l⟩) a b = (tmL n.toNat l a.toNat b.toNat, true) := fun l a b a0 a1 b0 b1 => mtime_in (m := ⟨n, l⟩) a0 (by show a < n; omega) b0 (by show b < n; omega)
  have fin : ∀ long at' : Int, 0 ≤ at' → at' ≤ n - 1 → tmL n.toNat (fw n.toNat ts) first.toNat at'.toNat ≤ long → (∀ (x : MapD), some ⟨n, fw n.toNat ts⟩ = some x → MapOk x) ∧ ((mtime (some ⟨n, fw n.toNat ts⟩) first at').2 = true → long < (mtime (some ⟨n, fw n.toNat ts⟩) first at').1 → False) ∧ ((mtime (some ⟨n, fw n.toNat ts⟩) first at').2 = false → False) := by
    intro long at' a0 a1 hle
    rw [tin _ _ _ fb.1 fb.2 a0 a1]
    exact ⟨hc, fun _ hlt => absurd hlt (by dsimp only; omega), fun hx => by cases hx⟩
  refine ⟨hm, ⟨by omega, by omega⟩, by omega, ⟨by omega, by omega, by omega⟩, fun long at' i => 1 ≤ i ∧ i ≤ 60 ∧ 0 ≤ at' ∧ at' ≤ n - 1 ∧ 0 ≤ long ∧ long ≤ i * 1000000 ∧ tmL n.toNat (fw n.toNat ts) first.toNat at'.toNat ≤ long, fun _ _ i => 60 - i.toNat, ⟨by omega, by omega, fb.1, fb.2, by omega, by omega, ?_⟩, fun long at' i hi => ⟨fun h1 => ⟨fun h3 => ?_, fun h3 => ?_⟩, fun h1 => ?_⟩⟩
  · rw [hcl.diag.is first.toNat (by omega)]; exact Int.le_refl _
  · obtain ⟨i0, i1, a0, a1, l0, l1, l2⟩ := hi
    have tb := bwithin_bound (n := ws.getD i.toNat 0) (lo := 0) (hi := n - 1) (by omega)
    generalize bwithin (ws.getD i.toNat 0) 0 (n - 1) = to at *
    rw [tin _ _ _ a0 a1 tb.1 tb.2]
    have p1 := tm_pos htm at'.toNat to.toNat
    have p2 : tmL n.toNat ts at'.toNat to.toNat ≤ 1000000 := htm.top _
    dsimp only at p1 p2 ⊢
    rw [wrap_id (n := i + 1) (by omega) (by omega), wrap_id (n := long + _) (by omega) (by omega)]
    refine ⟨⟨by omega, h1⟩, by omega, ⟨by omega, by omega, by omega⟩, hm, fun h => (by cases h), fun _ => ⟨⟨by omega, by omega, tb.1, tb.2, by omega, by omega, ?_⟩, by omega⟩⟩
    have e1 : tmL n.toNat (fw n.toNat ts) first.toNat to.toNat ≤ tmL n.toNat (fw n.toNat ts) first.toNat at'.toNat + tmL n.toNat (fw n.toNat ts) at'.toNat to.toNat := hcl.even at'.toNat first.toNat to.toNat (by omega) (by omega) (by omega)
    have e2 := hcl.le at'.toNat to.toNat (by omega) (by omega)
    omega
  · obtain ⟨i0, i1, a0, a1, l0, l1, l2⟩ := hi
    exact fin long at' a0 a1 l2
  · obtain ⟨i0, i1, a0, a1, l0, l1, l2⟩ := hi
    exact fin long at' a0 a1 l2
theorem geoWays_t : Told Try.prog 11 geoWays_con := geoWays_told (csOk_cons new_t (csOk_cons geoRuns_t (csOk_cons closed_t (csOk_cons bWithin_t (csOk_cons time_t csOk_nil))))) geoWays_ok
end Go.Eng
