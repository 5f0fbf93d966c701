/- The conditions of functions, as print.. of the engine told them. -/
import Derived.Test.YtidneanbjijjjaaGeoLaw
import Derived.KernelRfl
set_option linter.unusedVariables false
namespace Go.Eng
open Go Go.Proofs
def geoLeast_vc : Prop :=
  ∀ (x : Int) (x_1 : List Int), LenOk x_1.length → Given (pA (AV.c (AC.i x)) ∧ pA (AV.c (AC.a (K.f FK.int) x_1))) → (newE x x_1 ≠ (0 : Int) → ((!decide (newE x x_1 = (0 : Int))) = false → ((!decide (newE x x_1 = (0 : Int))) = true → true =
  true) ∧ ((!decide (newE x x_1 = (0 : Int))) = !true → false = true)) ∧ ((!decide (newE x x_1 = (0 : Int))) = !false → ((!decide (newE x x_1 = (0 : Int))) = true → true = true) ∧ ((!decide (newE x x_1 = (0 : Int))) = !true → false = true)))
  ∧ (newE x x_1 = (0 : Int) → ((!decide ((0 : Int) = (0 : Int))) = false → (∀ (x_6 : MapD), some (MapD.mk x x_1) = some x_6 → MapOk x_6) ∧ (∀ (x_6 : MapD), some (MapD.mk x (fw x.toNat x_1)) = some x_6 → MapOk x_6) ∧ (∀ (x_6 : MapD), some
  (MapD.mk x x_1) = some x_6 → MapOk x_6) ∧ (∀ (x_6 : MapD), some (MapD.mk x (fw x.toNat x_1)) = some x_6 → MapOk x_6) ∧ ((!decide ((↑(times (some (MapD.mk x x_1))).length : Int) = (↑(times (some (MapD.mk x (fw x.toNat x_1)))).length : Int)))
  = true → false = true) ∧ ((!decide ((↑(times (some (MapD.mk x x_1))).length : Int) = (↑(times (some (MapD.mk x (fw x.toNat x_1)))).length : Int))) = false → ∃ (inv : Int → Prop), ∃ (μ : Int → Nat), (((0 : Int) = (0 : Int) ∧ (x = x ∧ x = x)
  ∧ fw x.toNat x_1 = fw x.toNat x_1 ∧ x_1 = x_1 ∧ times (some (MapD.mk x (fw x.toNat x_1))) = times (some (MapD.mk x (fw x.toNat x_1))) ∧ times (some (MapD.mk x x_1)) = times (some (MapD.mk x x_1))) ∧ inv (0 : Int)) ∧ ∀ (x_7 : Int), inv x_7 →
  (decide (x_7 < (↑(times (some (MapD.mk x x_1))).length : Int)) = true → ((0 : Int) ≤ x_7 ∧ x_7 < (↑(times (some (MapD.mk x (fw x.toNat x_1)))).length : Int)) ∧ x_7.toNat < (times (some (MapD.mk x (fw x.toNat x_1)))).length ∧ ((0 : Int) ≤
  x_7 ∧ x_7 < (↑(times (some (MapD.mk x x_1))).length : Int)) ∧ x_7.toNat < (times (some (MapD.mk x x_1))).length ∧ (decide ((times (some (MapD.mk x (fw x.toNat x_1)))).getD x_7.toNat (Int.ofNat (0 : Nat)) > (times (some (MapD.mk x
  x_1))).getD x_7.toNat (Int.ofNat (0 : Nat))) = true → false = true) ∧ (decide ((times (some (MapD.mk x (fw x.toNat x_1)))).getD x_7.toNat (Int.ofNat (0 : Nat)) > (times (some (MapD.mk x x_1))).getD x_7.toNat (Int.ofNat (0 : Nat))) = false →
  (wrap (x_7 + (1 : Int)) = wrap (x_7 + (1 : Int)) ∧ (x = x ∧ x = x) ∧ fw x.toNat x_1 = fw x.toNat x_1 ∧ x_1 = x_1 ∧ times (some (MapD.mk x (fw x.toNat x_1))) = times (some (MapD.mk x (fw x.toNat x_1))) ∧ times (some (MapD.mk x x_1)) = times
  (some (MapD.mk x x_1))) ∧ inv (wrap (x_7 + (1 : Int))) ∧ μ (wrap (x_7 + (1 : Int))) < μ x_7)) ∧ (decide (x_7 < (↑(times (some (MapD.mk x x_1))).length : Int)) = false → (∀ (x_10 : MapD), some (MapD.mk x (fw x.toNat x_1)) = some x_10 → MapOk
  x_10) ∧ (even (some (MapD.mk x (fw x.toNat x_1))) = true → (∀ (x_11 : MapD), some (MapD.mk x (fw x.toNat x_1)) = some x_11 → MapOk x_11) ∧ (∀ (x_11 : MapD), some (MapD.mk x (fw x.toNat (fw x.toNat x_1))) = some x_11 → MapOk x_11) ∧ (same
  (times (some (MapD.mk x (fw x.toNat (fw x.toNat x_1))))) (times (some (MapD.mk x (fw x.toNat x_1)))) = true → (∀ (x_12 : MapD), some (MapD.mk x x_1) = some x_12 → MapOk x_12) ∧ ((same (times (some (MapD.mk x x_1))) (times (some (MapD.mk x
  (fw x.toNat x_1)))) == even (some (MapD.mk x x_1))) = true → true = true) ∧ ((same (times (some (MapD.mk x x_1))) (times (some (MapD.mk x (fw x.toNat x_1)))) == even (some (MapD.mk x x_1))) = !true → false = true)) ∧ (same (times (some
  (MapD.mk x (fw x.toNat (fw x.toNat x_1))))) (times (some (MapD.mk x (fw x.toNat x_1)))) = !true → false = true)) ∧ (even (some (MapD.mk x (fw x.toNat x_1))) = !true → false = true)))) ∧ ((!decide ((0 : Int) = (0 : Int))) = !false → false =
  true))
theorem geoLeast_told (hc : CsOk Try.prog geoLeast_cs) (h : geoLeast_vc) : Told Try.prog 10 geoLeast_con := told (A := geoLeast_la) tabOk mixed hc Try.func10 (by kernel_rfl) (by kernel_rfl) h
end Go.Eng
