/- The conditions of functions, as print.. of the engine told them. -/
import Derived.Test.YtindbdefjandkaaBook
import Derived.KernelRfl
set_option linter.unusedVariables false
namespace Go.Eng
open Go Go.Proofs
def sameS_vc : Prop :=
  ∀ (x : List Stop), LenOk x.length → ∀ (x_2 : List Stop), LenOk x_2.length → ((!decide ((↑x.length : Int) = (↑x_2.length : Int))) = true → false = same x x_2) ∧ ((!decide ((↑x.length : Int) = (↑x_2.length : Int))) = false → ∃ (inv : Int →
  Prop), ∃ (μ : Int → Nat), (((0 : Int) = (0 : Int) ∧ x_2 = x_2 ∧ x = x) ∧ inv (0 : Int)) ∧ ∀ (x_5 : Int), inv x_5 → (decide (x_5 < (↑x.length : Int)) = true → ((0 : Int) ≤ x_5 ∧ x_5 < (↑x.length : Int)) ∧ x_5.toNat < x.length ∧ ((0 : Int) ≤
  x_5 ∧ x_5 < (↑x_2.length : Int)) ∧ x_5.toNat < x_2.length ∧ ((!(decide ((x.getD x_5.toNat FK.stop.zero).order = (x_2.getD x_5.toNat FK.stop.zero).order) && ((x.getD x_5.toNat FK.stop.zero).drop == (x_2.getD x_5.toNat FK.stop.zero).drop &&
  true))) = true → false = same x x_2) ∧ ((!(decide ((x.getD x_5.toNat FK.stop.zero).order = (x_2.getD x_5.toNat FK.stop.zero).order) && ((x.getD x_5.toNat FK.stop.zero).drop == (x_2.getD x_5.toNat FK.stop.zero).drop && true))) = false →
  (wrap (x_5 + (1 : Int)) = wrap (x_5 + (1 : Int)) ∧ x_2 = x_2 ∧ x = x) ∧ inv (wrap (x_5 + (1 : Int))) ∧ μ (wrap (x_5 + (1 : Int))) < μ x_5)) ∧ (decide (x_5 < (↑x.length : Int)) = false → true = same x x_2))
theorem sameS_told (hc : CsOk Try.prog sameS_cs) (h : sameS_vc) : Told Try.prog 13 sameS_con := told (A := sameS_la) tabOk mixed hc Try.func13 (by kernel_rfl) (by kernel_rfl) h
def roomyS_vc : Prop :=
  ∀ (x : List Stop), LenOk x.length → ∀ (x_2 : Stop), x.length * (16 : Nat) ≤ (140737488351232 : Nat) → ((0 : Int) ≤ wrap ((↑x.length : Int) + (80 : Int)) ∧ wrap ((↑x.length : Int) + (80 : Int)) ≤ wrap ((↑x.length : Int) + (80 : Int)) ∧ wrap
  ((↑x.length : Int) + (80 : Int)) * ((8 : Int) * (↑(2 : Nat) : Int)) ≤ (281474976710656 : Int)) ∧ True ∧ ∃ (inv : Int → List Stop → Prop), ∃ (μ : Int → List Stop → Nat), (((↑x.length : Int) = (↑x.length : Int) ∧ (x_2.order = x_2.order ∧
  x_2.drop = x_2.drop) ∧ List.take (List.replicate (wrap ((↑x.length : Int) + (80 : Int))).toNat FK.stop.zero).length x ++ List.drop x.length (List.replicate (wrap ((↑x.length : Int) + (80 : Int))).toNat FK.stop.zero) = List.take
  (List.replicate (wrap ((↑x.length : Int) + (80 : Int))).toNat FK.stop.zero).length x ++ List.drop x.length (List.replicate (wrap ((↑x.length : Int) + (80 : Int))).toNat FK.stop.zero)) ∧ inv (↑x.length : Int) (List.take (List.replicate (wrap
  ((↑x.length : Int) + (80 : Int))).toNat FK.stop.zero).length x ++ List.drop x.length (List.replicate (wrap ((↑x.length : Int) + (80 : Int))).toNat FK.stop.zero))) ∧ ∀ (x_4 : Int) (x_5 : List Stop), inv x_4 x_5 → (decide (x_4 < (↑x_5.length
  : Int)) = true → ((0 : Int) ≤ x_4 ∧ x_4 < (↑x_5.length : Int)) ∧ x_4.toNat < x_5.length ∧ (wrap (x_4 + (1 : Int)) = wrap (x_4 + (1 : Int)) ∧ (x_2.order = x_2.order ∧ x_2.drop = x_2.drop) ∧ x_5.set x_4.toNat x_2 = x_5.set x_4.toNat x_2) ∧
  inv (wrap (x_4 + (1 : Int))) (x_5.set x_4.toNat x_2) ∧ μ (wrap (x_4 + (1 : Int))) (x_5.set x_4.toNat x_2) < μ x_4 x_5) ∧ (decide (x_4 < (↑x_5.length : Int)) = false → x_5 = roomy x x_2)
theorem roomyS_told (hc : CsOk Try.prog roomyS_cs) (h : roomyS_vc) : Told Try.prog 16 roomyS_con := told (A := roomyS_la) tabOk mixed hc Try.func16 (by kernel_rfl) (by kernel_rfl) h
def intactS_vc : Prop :=
  ∀ (x : List Stop), LenOk x.length → ∀ (x_2 : List Stop), LenOk x_2.length → ∀ (x_4 : Stop), ((!decide ((↑x.length : Int) = wrap ((↑x_2.length : Int) + (80 : Int)))) = false → ((0 : Int) ≤ (0 : Int) ∧ (0 : Int) ≤ (↑x_2.length : Int) ∧
  (↑x_2.length : Int) ≤ (↑x.length : Int)) ∧ Int.toNat (0 : Int) + ((↑x_2.length : Int).toNat - Int.toNat (0 : Int)) ≤ x.length ∧ ((!same (part x (Int.toNat (0 : Int)) ((↑x_2.length : Int).toNat - Int.toNat (0 : Int))) x_2) = true → false =
  same x (roomy x_2 x_4)) ∧ ((!same (part x (Int.toNat (0 : Int)) ((↑x_2.length : Int).toNat - Int.toNat (0 : Int))) x_2) = false → ∃ (inv : Int → Prop), ∃ (μ : Int → Nat), (((↑x_2.length : Int) = (↑x_2.length : Int) ∧ (x_4.order = x_4.order
  ∧ x_4.drop = x_4.drop) ∧ x = x) ∧ inv (↑x_2.length : Int)) ∧ ∀ (x_7 : Int), inv x_7 → (decide (x_7 < (↑x.length : Int)) = true → ((0 : Int) ≤ x_7 ∧ x_7 < (↑x.length : Int)) ∧ x_7.toNat < x.length ∧ ((!(decide ((x.getD x_7.toNat
  FK.stop.zero).order = x_4.order) && ((x.getD x_7.toNat FK.stop.zero).drop == x_4.drop && true))) = true → false = same x (roomy x_2 x_4)) ∧ ((!(decide ((x.getD x_7.toNat FK.stop.zero).order = x_4.order) && ((x.getD x_7.toNat
  FK.stop.zero).drop == x_4.drop && true))) = false → (wrap (x_7 + (1 : Int)) = wrap (x_7 + (1 : Int)) ∧ (x_4.order = x_4.order ∧ x_4.drop = x_4.drop) ∧ x = x) ∧ inv (wrap (x_7 + (1 : Int))) ∧ μ (wrap (x_7 + (1 : Int))) < μ x_7)) ∧ (decide
  (x_7 < (↑x.length : Int)) = false → true = same x (roomy x_2 x_4)))) ∧ ((!decide ((↑x.length : Int) = wrap ((↑x_2.length : Int) + (80 : Int)))) = !false → false = same x (roomy x_2 x_4))
theorem intactS_told (hc : CsOk Try.prog intactS_cs) (h : intactS_vc) : Told Try.prog 18 intactS_con := told (A := intactS_la) tabOk mixed hc Try.func18 (by kernel_rfl) (by kernel_rfl) h
def sameI_vc : Prop :=
  ∀ (x : List Int), LenOk x.length → ∀ (x_2 : List Int), LenOk x_2.length → ((!decide ((↑x.length : Int) = (↑x_2.length : Int))) = true → false = same x x_2) ∧ ((!decide ((↑x.length : Int) = (↑x_2.length : Int))) = false → ∃ (inv : Int →
  Prop), ∃ (μ : Int → Nat), (((0 : Int) = (0 : Int) ∧ x_2 = x_2 ∧ x = x) ∧ inv (0 : Int)) ∧ ∀ (x_5 : Int), inv x_5 → (decide (x_5 < (↑x.length : Int)) = true → ((0 : Int) ≤ x_5 ∧ x_5 < (↑x.length : Int)) ∧ x_5.toNat < x.length ∧ ((0 : Int) ≤
  x_5 ∧ x_5 < (↑x_2.length : Int)) ∧ x_5.toNat < x_2.length ∧ ((!decide (x.getD x_5.toNat (Int.ofNat (0 : Nat)) = x_2.getD x_5.toNat (Int.ofNat (0 : Nat)))) = true → false = same x x_2) ∧ ((!decide (x.getD x_5.toNat (Int.ofNat (0 : Nat)) =
  x_2.getD x_5.toNat (Int.ofNat (0 : Nat)))) = false → (wrap (x_5 + (1 : Int)) = wrap (x_5 + (1 : Int)) ∧ x_2 = x_2 ∧ x = x) ∧ inv (wrap (x_5 + (1 : Int))) ∧ μ (wrap (x_5 + (1 : Int))) < μ x_5)) ∧ (decide (x_5 < (↑x.length : Int)) = false →
  true = same x x_2))
theorem sameI_told (hc : CsOk Try.prog sameI_cs) (h : sameI_vc) : Told Try.prog 11 sameI_con := told (A := sameI_la) tabOk mixed hc Try.func11 (by kernel_rfl) (by kernel_rfl) h
end Go.Eng
