/- Closing a map makes it even and nothing greater; closed again it is the same; it changes nothing just if the map was even. -/
import Derived.Test.YtidneanbjijjjaaGeoLeastVc
import Derived.Test.YtidneanbjijjjaaGeoRuns
set_option linter.unusedVariables false
set_option linter.unusedSimpArgs false
namespace Go.Eng
open Go Go.Proofs
theorem geoLeast_ok : geoLeast_vc := by
  unfold geoLeast_vc
  simp only [bad_false, int0, nilOf, decide_eq_true_eq, decide_eq_false_iff_not, Bool.not_eq_true', Bool.not_eq_false', Bool.not_true, Bool.not_false, Bool.false_eq_true, Bool.true_eq_false, eq_self, true_and, and_true, false_or, or_false, false_implies, true_implies, implies_true, Int.not_lt, Int.not_le, gt_iff_lt, ge_iff_le, ne_eq]
  intro n ts hts hg
  refine ⟨fun h => ⟨fun h' => absurd h' h, fun _ h' => absurd h' h⟩, fun h => ⟨?_, fun h => absurd trivial h⟩⟩
  have hk := mapOk_of h
  have hm := mapOkO_some h
  have hkc : MapOk ⟨n, fw n.toNat ts⟩ := closed_ok' hk
  have hc : ∀ (x : MapD), some ⟨n, fw n.toNat ts⟩ = some x → MapOk x := mapOkO_of hkc
  have hcc : ∀ (x : MapD), some ⟨n, fw n.toNat (fw n.toNat ts)⟩ = some x → MapOk x := mapOkO_of (closed_ok' hkc)
  have he : even (some ⟨n, fw n.toNat ts⟩) = true := closed_even hk
  have hcl : Clos n.toNat ts (fw n.toNat ts) := fw_clos hk.times hk.diag'
  have hff : fw n.toNat (fw n.toNat ts) = fw n.toNat ts := (fw_even hkc.times hkc.diag').2 hcl.even
  have hlt := hk.len
  have hlc := hkc.len
  have h144 := mapOk_len hk
  dsimp only at hlt hlc h144
  have hs : (same ts (fw n.toNat ts) == even (some ⟨n, ts⟩)) = true := by
    rw [beq_iff_eq, Bool.eq_iff_iff, same_iff, even_iff]
    exact ⟨fun e => (fw_even hk.times hk.diag').1 e.symm, fun e => ((fw_even hk.times hk.diag').2 e).symm⟩
  simp only [eq_true hm, eq_true hc, eq_true hcc, times]
  refine ⟨trivial, trivial, trivial, trivial, fun h => h (by omega), fun _ => ⟨fun i => 0 ≤ i, fun i => ts.length - i.toNat, by omega, fun i hi => ⟨fun h => ⟨⟨by omega, by omega⟩, by omega, ⟨by omega, by omega⟩, by omega, fun hgt => ?_, fun _ => ?_⟩, fun _ => ?_⟩⟩⟩
  · have := all_of_tm (n := n.toNat) (p := fun x => (fw n.toNat ts).getD x 0 ≤ ts.getD x 0) (fun i j hi hj => hcl.le i j hi hj) i.toNat (by omega)
    omega
  · rw [wrap_id (n := i + 1) (by omega) (by omega)]
    dsimp only
    exact ⟨by omega, by omega⟩
  · rw [hff]
    simp [he, same_self, hs]
theorem geoLeast_t : Told Try.prog 10 geoLeast_con := geoLeast_told (csOk_cons new_t (csOk_cons geoRuns_t (csOk_cons closed_t (csOk_cons times_t (csOk_cons even_t (csOk_cons sameI_t csOk_nil)))))) geoLeast_ok
end Go.Eng
