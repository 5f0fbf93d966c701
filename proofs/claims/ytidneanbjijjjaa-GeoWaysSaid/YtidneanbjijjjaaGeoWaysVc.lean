/- The conditions of functions, as print.. of the engine told them. -/
import Derived.Test.YtidneanbjijjjaaGeoLaw
import Derived.KernelRfl
set_option linter.unusedVariables false
namespace Go.Eng
open Go Go.Proofs
def geoWays_vc : Prop :=
  ∀ (x : Int) (x_1 : List Int), LenOk x_1.length → ∀ (x_3 : List Int), LenOk x_3.length → Given (pA (AV.c (AC.i x)) ∧ pA (AV.c (AC.a (K.f FK.int) x_1)) ∧ pA (AV.c (AC.a (K.f FK.int) x_3))) → (newE x x_1 ≠ (0 : Int) → ((!decide (newE x x_1 =
  (0 : Int))) = false → ((true == !decide (newE x x_1 = (0 : Int))) = true → true = true) ∧ ((true == !decide (newE x x_1 = (0 : Int))) = !true → false = true)) ∧ ((!decide (newE x x_1 = (0 : Int))) = !false → ((true == !decide (newE x x_1 =
  (0 : Int))) = true → true = true) ∧ ((true == !decide (newE x x_1 = (0 : Int))) = !true → false = true))) ∧ (newE x x_1 = (0 : Int) → ((!decide ((0 : Int) = (0 : Int))) = false → (decide ((↑x_3.length : Int) < (2 : Int)) = true → ((false ==
  !decide ((0 : Int) = (0 : Int))) = true → true = true) ∧ ((false == !decide ((0 : Int) = (0 : Int))) = !true → false = true)) ∧ (decide ((↑x_3.length : Int) < (2 : Int)) = false → (∀ (x_9 : MapD), some (MapD.mk x x_1) = some x_9 → MapOk
  x_9) ∧ ((0 : Int) ≤ (0 : Int) ∧ (0 : Int) < (↑x_3.length : Int)) ∧ Int.toNat (0 : Int) < x_3.length ∧ ((0 : Int) ≤ wrap (x - (1 : Int)) ∧ (0 : Int) ≤ (0 : Int) ∧ wrap (x - (1 : Int)) ≤ (9223372036854775806 : Int)) ∧ ∃ (inv : Int → Int → Int
  → Prop), ∃ (μ : Int → Int → Int → Nat), (((x = x ∧ (0 : Int) = (0 : Int) ∧ bwithin (x_3.getD (Int.toNat (0 : Int)) (Int.ofNat (0 : Nat))) (0 : Int) (wrap (x - (1 : Int))) = bwithin (x_3.getD (Int.toNat (0 : Int)) (Int.ofNat (0 : Nat))) (0 :
  Int) (wrap (x - (1 : Int))) ∧ bwithin (x_3.getD (Int.toNat (0 : Int)) (Int.ofNat (0 : Nat))) (0 : Int) (wrap (x - (1 : Int))) = bwithin (x_3.getD (Int.toNat (0 : Int)) (Int.ofNat (0 : Nat))) (0 : Int) (wrap (x - (1 : Int))) ∧ (1 : Int) = (1
  : Int)) ∧ (x = x ∧ x = x) ∧ fw x.toNat x_1 = fw x.toNat x_1 ∧ x_1 = x_1 ∧ x_3 = x_3) ∧ inv (0 : Int) (bwithin (x_3.getD (Int.toNat (0 : Int)) (Int.ofNat (0 : Nat))) (0 : Int) (wrap (x - (1 : Int)))) (1 : Int)) ∧ ∀ (x_9 x_10 x_11 : Int), inv
  x_9 x_10 x_11 → (decide (x_11 < (↑x_3.length : Int)) = true → (decide (x_11 < (60 : Int)) = true → ((0 : Int) ≤ x_11 ∧ x_11 < (↑x_3.length : Int)) ∧ x_11.toNat < x_3.length ∧ ((0 : Int) ≤ wrap (x - (1 : Int)) ∧ (0 : Int) ≤ (0 : Int) ∧ wrap
  (x - (1 : Int)) ≤ (9223372036854775806 : Int)) ∧ (∀ (x_15 : MapD), some (MapD.mk x x_1) = some x_15 → MapOk x_15) ∧ ((!(mtime (some (MapD.mk x x_1)) x_10 (bwithin (x_3.getD x_11.toNat (Int.ofNat (0 : Nat))) (0 : Int) (wrap (x - (1 :
  Int))))).snd) = true → false = true) ∧ ((!(mtime (some (MapD.mk x x_1)) x_10 (bwithin (x_3.getD x_11.toNat (Int.ofNat (0 : Nat))) (0 : Int) (wrap (x - (1 : Int))))).snd) = false → ((x = x ∧ wrap (x_9 + (mtime (some (MapD.mk x x_1)) x_10
  (bwithin (x_3.getD x_11.toNat (Int.ofNat (0 : Nat))) (0 : Int) (wrap (x - (1 : Int))))).fst) = wrap (x_9 + (mtime (some (MapD.mk x x_1)) x_10 (bwithin (x_3.getD x_11.toNat (Int.ofNat (0 : Nat))) (0 : Int) (wrap (x - (1 : Int))))).fst) ∧
  bwithin (x_3.getD (Int.toNat (0 : Int)) (Int.ofNat (0 : Nat))) (0 : Int) (wrap (x - (1 : Int))) = bwithin (x_3.getD (Int.toNat (0 : Int)) (Int.ofNat (0 : Nat))) (0 : Int) (wrap (x - (1 : Int))) ∧ bwithin (x_3.getD x_11.toNat (Int.ofNat (0 :
  Nat))) (0 : Int) (wrap (x - (1 : Int))) = bwithin (x_3.getD x_11.toNat (Int.ofNat (0 : Nat))) (0 : Int) (wrap (x - (1 : Int))) ∧ wrap (x_11 + (1 : Int)) = wrap (x_11 + (1 : Int))) ∧ (x = x ∧ x = x) ∧ fw x.toNat x_1 = fw x.toNat x_1 ∧ x_1 =
  x_1 ∧ x_3 = x_3) ∧ inv (wrap (x_9 + (mtime (some (MapD.mk x x_1)) x_10 (bwithin (x_3.getD x_11.toNat (Int.ofNat (0 : Nat))) (0 : Int) (wrap (x - (1 : Int))))).fst)) (bwithin (x_3.getD x_11.toNat (Int.ofNat (0 : Nat))) (0 : Int) (wrap (x -
  (1 : Int)))) (wrap (x_11 + (1 : Int))) ∧ μ (wrap (x_9 + (mtime (some (MapD.mk x x_1)) x_10 (bwithin (x_3.getD x_11.toNat (Int.ofNat (0 : Nat))) (0 : Int) (wrap (x - (1 : Int))))).fst)) (bwithin (x_3.getD x_11.toNat (Int.ofNat (0 : Nat))) (0
  : Int) (wrap (x - (1 : Int)))) (wrap (x_11 + (1 : Int))) < μ x_9 x_10 x_11)) ∧ (decide (x_11 < (60 : Int)) = false → (∀ (x_15 : MapD), some (MapD.mk x (fw x.toNat x_1)) = some x_15 → MapOk x_15) ∧ ((mtime (some (MapD.mk x (fw x.toNat x_1)))
  (bwithin (x_3.getD (Int.toNat (0 : Int)) (Int.ofNat (0 : Nat))) (0 : Int) (wrap (x - (1 : Int)))) x_10).snd = true → (decide ((mtime (some (MapD.mk x (fw x.toNat x_1))) (bwithin (x_3.getD (Int.toNat (0 : Int)) (Int.ofNat (0 : Nat))) (0 :
  Int) (wrap (x - (1 : Int)))) x_10).fst ≤ x_9) = true → true = true) ∧ (decide ((mtime (some (MapD.mk x (fw x.toNat x_1))) (bwithin (x_3.getD (Int.toNat (0 : Int)) (Int.ofNat (0 : Nat))) (0 : Int) (wrap (x - (1 : Int)))) x_10).fst ≤ x_9) =
  !true → false = true)) ∧ ((mtime (some (MapD.mk x (fw x.toNat x_1))) (bwithin (x_3.getD (Int.toNat (0 : Int)) (Int.ofNat (0 : Nat))) (0 : Int) (wrap (x - (1 : Int)))) x_10).snd = !true → false = true))) ∧ (decide (x_11 < (↑x_3.length :
  Int)) = !true → (∀ (x_14 : MapD), some (MapD.mk x (fw x.toNat x_1)) = some x_14 → MapOk x_14) ∧ ((mtime (some (MapD.mk x (fw x.toNat x_1))) (bwithin (x_3.getD (Int.toNat (0 : Int)) (Int.ofNat (0 : Nat))) (0 : Int) (wrap (x - (1 : Int))))
  x_10).snd = true → (decide ((mtime (some (MapD.mk x (fw x.toNat x_1))) (bwithin (x_3.getD (Int.toNat (0 : Int)) (Int.ofNat (0 : Nat))) (0 : Int) (wrap (x - (1 : Int)))) x_10).fst ≤ x_9) = true → true = true) ∧ (decide ((mtime (some (MapD.mk
  x (fw x.toNat x_1))) (bwithin (x_3.getD (Int.toNat (0 : Int)) (Int.ofNat (0 : Nat))) (0 : Int) (wrap (x - (1 : Int)))) x_10).fst ≤ x_9) = !true → false = true)) ∧ ((mtime (some (MapD.mk x (fw x.toNat x_1))) (bwithin (x_3.getD (Int.toNat (0
  : Int)) (Int.ofNat (0 : Nat))) (0 : Int) (wrap (x - (1 : Int)))) x_10).snd = !true → false = true)))) ∧ ((!decide ((0 : Int) = (0 : Int))) = !false → ((false == !decide ((0 : Int) = (0 : Int))) = true → true = true) ∧ ((false == !decide ((0
  : Int) = (0 : Int))) = !true → false = true)))
theorem geoWays_told (hc : CsOk Try.prog geoWays_cs) (h : geoWays_vc) : Told Try.prog 11 geoWays_con := told (A := geoWays_la) tabOk mixed hc Try.func11 (by kernel_rfl) (by kernel_rfl) h
end Go.Eng
