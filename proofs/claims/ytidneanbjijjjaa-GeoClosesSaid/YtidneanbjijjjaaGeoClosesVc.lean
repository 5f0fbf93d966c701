/- The conditions of functions, as print.. of the engine told them. -/
import Derived.Test.YtidneanbjijjjaaGeoLaw
import Derived.KernelRfl
set_option linter.unusedVariables false
namespace Go.Eng
open Go Go.Proofs
def geoCloses_vc : Prop :=
  ∀ (x : Int) (x_1 : List Int), LenOk x_1.length → Given (pA (AV.c (AC.i x)) ∧ pA (AV.c (AC.a (K.f FK.int) x_1))) → (newE x x_1 ≠ (0 : Int) → ((!true) = false → (true = true → true = true) ∧ (true = !true → false = true)) ∧ ((!true) = !false
  → (true = true → true = true) ∧ (true = !true → false = true))) ∧ (newE x x_1 = (0 : Int) → ((!true) = false → (∀ (x_6 : MapD), some (MapD.mk x x_1) = some x_6 → MapOk x_6) ∧ MapOk (MapD.mk x x_1) ∧ (∀ (x_6 : MapD), some (MapD.mk x (fw
  x.toNat x_1)) = some x_6 → MapOk x_6) ∧ ((decide (places (some (MapD.mk x (fw x.toNat x_1))) = x) && same (times (some (MapD.mk x (fw x.toNat x_1)))) (fw x.toNat x_1)) = true → (∀ (x_7 : MapD), some (MapD.mk x x_1) = some x_7 → MapOk x_7) ∧
  ((decide (places (some (MapD.mk x x_1)) = x) && same (times (some (MapD.mk x x_1))) x_1) = true → (∀ (x_8 : MapD), some (MapD.mk x x_1) = some x_8 → MapOk x_8) ∧ MapOk (MapD.mk x x_1) ∧ ((even (some (MapD.mk x x_1)) == even (some (MapD.mk x
  x_1))) = true → (∀ (x_9 : MapD), some (MapD.mk x (fw x.toNat x_1)) = some x_9 → MapOk x_9) ∧ (even (some (MapD.mk x (fw x.toNat x_1))) = true → true = true) ∧ (even (some (MapD.mk x (fw x.toNat x_1))) = !true → false = true)) ∧ ((even (some
  (MapD.mk x x_1)) == even (some (MapD.mk x x_1))) = !true → false = true)) ∧ ((decide (places (some (MapD.mk x x_1)) = x) && same (times (some (MapD.mk x x_1))) x_1) = !true → false = true)) ∧ ((decide (places (some (MapD.mk x (fw x.toNat
  x_1))) = x) && same (times (some (MapD.mk x (fw x.toNat x_1)))) (fw x.toNat x_1)) = !true → false = true)) ∧ ((!true) = !false → (true = true → true = true) ∧ (true = !true → false = true)))
theorem geoCloses_told (hc : CsOk Try.prog geoCloses_cs) (h : geoCloses_vc) : Told Try.prog 13 geoCloses_con := told (A := geoCloses_la) tabOk mixed hc Try.func13 (by kernel_rfl) (by kernel_rfl) h
end Go.Eng
