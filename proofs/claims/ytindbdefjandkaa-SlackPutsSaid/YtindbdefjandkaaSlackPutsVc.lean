/- The conditions of functions, as print.. of the engine told them. -/
import Derived.Test.YtindbdefjandkaaSlackLaw
import Derived.KernelRfl
set_option linter.unusedVariables false
namespace Go.Eng
open Go Go.Proofs
def slackPuts_vc : Prop :=
  ∀ (x : List Stop), LenOk x.length → ∀ (x_2 x_3 x_4 : Int), Given (pA (AV.c (AC.a (K.f FK.stop) x)) ∧ pA (AV.c (AC.i x_2)) ∧ pA (AV.c (AC.i x_3)) ∧ pA (AV.c (AC.i x_4))) → x.length * (16 : Nat) ≤ (140737488351232 : Nat) ∧ ((0 : Int) ≤ (0 :
  Int) ∧ (0 : Int) ≤ (↑x.length : Int) ∧ (↑x.length : Int) ≤ (↑(roomy x (Stop.mk (-4 : Int) false)).length : Int)) ∧ (Int.toNat (0 : Int) + ((↑x.length : Int).toNat - Int.toNat (0 : Int)) ≤ (roomy x (Stop.mk (-4 : Int) false)).length ∧ (part
  (roomy x (Stop.mk (-4 : Int) false)) (Int.toNat (0 : Int)) ((↑x.length : Int).toNat - Int.toNat (0 : Int))).length * (16 : Nat) ≤ (140737488351232 : Nat)) ∧ (decide (x_3 < (0 : Int)) = false → (decide (x_3 > x_4) = false → (decide (x_4 >
  (↑x.length : Int)) = true → (decide ((↑(putS (part (roomy x (Stop.mk (-4 : Int) false)) (Int.toNat (0 : Int)) ((↑x.length : Int).toNat - Int.toNat (0 : Int))) x_2 x_3 x_4).length : Int) = (0 : Int)) = true → (same (roomy x (Stop.mk (-4 :
  Int) false)) (roomy x (Stop.mk (-4 : Int) false)) = true → true = true) ∧ (same (roomy x (Stop.mk (-4 : Int) false)) (roomy x (Stop.mk (-4 : Int) false)) = !true → false = true)) ∧ (decide ((↑(putS (part (roomy x (Stop.mk (-4 : Int) false))
  (Int.toNat (0 : Int)) ((↑x.length : Int).toNat - Int.toNat (0 : Int))) x_2 x_3 x_4).length : Int) = (0 : Int)) = !true → false = true)) ∧ (decide (x_4 > (↑x.length : Int)) = false → (x.length * (16 : Nat) ≤ (140737488351232 : Nat) ∧ putOk x
  x_3 x_4 = true) ∧ ((!same (putS (part (roomy x (Stop.mk (-4 : Int) false)) (Int.toNat (0 : Int)) ((↑x.length : Int).toNat - Int.toNat (0 : Int))) x_2 x_3 x_4) (putS x x_2 x_3 x_4)) = true → false = true) ∧ ((!same (putS (part (roomy x
  (Stop.mk (-4 : Int) false)) (Int.toNat (0 : Int)) ((↑x.length : Int).toNat - Int.toNat (0 : Int))) x_2 x_3 x_4) (putS x x_2 x_3 x_4)) = false → ∃ (inv : Int → List Stop → Prop), ∃ (μ : Int → List Stop → Nat), (((0 : Int) = (0 : Int) ∧ putS
  (part (roomy x (Stop.mk (-4 : Int) false)) (Int.toNat (0 : Int)) ((↑x.length : Int).toNat - Int.toNat (0 : Int))) x_2 x_3 x_4 = putS (part (roomy x (Stop.mk (-4 : Int) false)) (Int.toNat (0 : Int)) ((↑x.length : Int).toNat - Int.toNat (0 :
  Int))) x_2 x_3 x_4 ∧ roomy x (Stop.mk (-4 : Int) false) = roomy x (Stop.mk (-4 : Int) false) ∧ x = x) ∧ inv (0 : Int) (putS (part (roomy x (Stop.mk (-4 : Int) false)) (Int.toNat (0 : Int)) ((↑x.length : Int).toNat - Int.toNat (0 : Int)))
  x_2 x_3 x_4)) ∧ ∀ (x_10 : Int) (x_11 : List Stop), inv x_10 x_11 → (decide (x_10 < (↑x_11.length : Int)) = true → ((0 : Int) ≤ x_10 ∧ x_10 < (↑x_11.length : Int)) ∧ x_10.toNat < x_11.length ∧ (wrap (x_10 + (1 : Int)) = wrap (x_10 + (1 :
  Int)) ∧ x_11.set x_10.toNat (Stop.mk (-6 : Int) false) = x_11.set x_10.toNat (Stop.mk (-6 : Int) false) ∧ roomy x (Stop.mk (-4 : Int) false) = roomy x (Stop.mk (-4 : Int) false) ∧ x = x) ∧ inv (wrap (x_10 + (1 : Int))) (x_11.set x_10.toNat
  (Stop.mk (-6 : Int) false)) ∧ μ (wrap (x_10 + (1 : Int))) (x_11.set x_10.toNat (Stop.mk (-6 : Int) false)) < μ x_10 x_11) ∧ (decide (x_10 < (↑x_11.length : Int)) = false → (same (roomy x (Stop.mk (-4 : Int) false)) (roomy x (Stop.mk (-4 :
  Int) false)) = true → true = true) ∧ (same (roomy x (Stop.mk (-4 : Int) false)) (roomy x (Stop.mk (-4 : Int) false)) = !true → false = true))))) ∧ (decide (x_3 > x_4) = !false → (decide ((↑(putS (part (roomy x (Stop.mk (-4 : Int) false))
  (Int.toNat (0 : Int)) ((↑x.length : Int).toNat - Int.toNat (0 : Int))) x_2 x_3 x_4).length : Int) = (0 : Int)) = true → (same (roomy x (Stop.mk (-4 : Int) false)) (roomy x (Stop.mk (-4 : Int) false)) = true → true = true) ∧ (same (roomy x
  (Stop.mk (-4 : Int) false)) (roomy x (Stop.mk (-4 : Int) false)) = !true → false = true)) ∧ (decide ((↑(putS (part (roomy x (Stop.mk (-4 : Int) false)) (Int.toNat (0 : Int)) ((↑x.length : Int).toNat - Int.toNat (0 : Int))) x_2 x_3
  x_4).length : Int) = (0 : Int)) = !true → false = true))) ∧ (decide (x_3 < (0 : Int)) = !false → (decide ((↑(putS (part (roomy x (Stop.mk (-4 : Int) false)) (Int.toNat (0 : Int)) ((↑x.length : Int).toNat - Int.toNat (0 : Int))) x_2 x_3
  x_4).length : Int) = (0 : Int)) = true → (same (roomy x (Stop.mk (-4 : Int) false)) (roomy x (Stop.mk (-4 : Int) false)) = true → true = true) ∧ (same (roomy x (Stop.mk (-4 : Int) false)) (roomy x (Stop.mk (-4 : Int) false)) = !true → false
  = true)) ∧ (decide ((↑(putS (part (roomy x (Stop.mk (-4 : Int) false)) (Int.toNat (0 : Int)) ((↑x.length : Int).toNat - Int.toNat (0 : Int))) x_2 x_3 x_4).length : Int) = (0 : Int)) = !true → false = true))
theorem slackPuts_told (hc : CsOk Try.prog slackPuts_cs) (h : slackPuts_vc) : Told Try.prog 5 slackPuts_con := told (A := slackPuts_la) tabOk mixed hc Try.func5 (by kernel_rfl) (by kernel_rfl) h
end Go.Eng
