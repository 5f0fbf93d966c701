/- The conditions of functions, as print.. of the engine told them. -/
import Derived.Test.YtidneanbjijjjaaBook
import Derived.KernelRfl
set_option linter.unusedVariables false
namespace Go.Eng
open Go Go.Proofs
def sameW_vc : Prop :=
  ∀ (x : List Win), LenOk x.length → ∀ (x_2 : List Win), LenOk x_2.length → ((!decide ((↑x.length : Int) = (↑x_2.length : Int))) = true → false = same x x_2) ∧ ((!decide ((↑x.length : Int) = (↑x_2.length : Int))) = false → ∃ (inv : Int →
  Prop), ∃ (μ : Int → Nat), (((0 : Int) = (0 : Int) ∧ x_2 = x_2 ∧ x = x) ∧ inv (0 : Int)) ∧ ∀ (x_5 : Int), inv x_5 → (decide (x_5 < (↑x.length : Int)) = true → ((0 : Int) ≤ x_5 ∧ x_5 < (↑x.length : Int)) ∧ x_5.toNat < x.length ∧ ((0 : Int) ≤
  x_5 ∧ x_5 < (↑x_2.length : Int)) ∧ x_5.toNat < x_2.length ∧ ((!(decide ((x.getD x_5.toNat FK.win.zero).lo = (x_2.getD x_5.toNat FK.win.zero).lo) && (decide ((x.getD x_5.toNat FK.win.zero).hi = (x_2.getD x_5.toNat FK.win.zero).hi) && true)))
  = true → false = same x x_2) ∧ ((!(decide ((x.getD x_5.toNat FK.win.zero).lo = (x_2.getD x_5.toNat FK.win.zero).lo) && (decide ((x.getD x_5.toNat FK.win.zero).hi = (x_2.getD x_5.toNat FK.win.zero).hi) && true))) = false → (wrap (x_5 + (1 :
  Int)) = wrap (x_5 + (1 : Int)) ∧ x_2 = x_2 ∧ x = x) ∧ inv (wrap (x_5 + (1 : Int))) ∧ μ (wrap (x_5 + (1 : Int))) < μ x_5)) ∧ (decide (x_5 < (↑x.length : Int)) = false → true = same x x_2))
theorem sameW_told (hc : CsOk Try.prog sameW_cs) (h : sameW_vc) : Told Try.prog 48 sameW_con := told (A := sameW_la) tabOk mixed hc Try.func48 (by kernel_rfl) (by kernel_rfl) h
def roomyW_vc : Prop :=
  ∀ (x : List Win), LenOk x.length → ∀ (x_2 : Win), x.length * (16 : Nat) ≤ (140737488351232 : Nat) → ((0 : Int) ≤ wrap ((↑x.length : Int) + (80 : Int)) ∧ wrap ((↑x.length : Int) + (80 : Int)) ≤ wrap ((↑x.length : Int) + (80 : Int)) ∧ wrap
  ((↑x.length : Int) + (80 : Int)) * ((8 : Int) * (↑(2 : Nat) : Int)) ≤ (281474976710656 : Int)) ∧ True ∧ ∃ (inv : Int → List Win → Prop), ∃ (μ : Int → List Win → Nat), (((↑x.length : Int) = (↑x.length : Int) ∧ (x_2.lo = x_2.lo ∧ x_2.hi =
  x_2.hi) ∧ List.take (List.replicate (wrap ((↑x.length : Int) + (80 : Int))).toNat FK.win.zero).length x ++ List.drop x.length (List.replicate (wrap ((↑x.length : Int) + (80 : Int))).toNat FK.win.zero) = List.take (List.replicate (wrap
  ((↑x.length : Int) + (80 : Int))).toNat FK.win.zero).length x ++ List.drop x.length (List.replicate (wrap ((↑x.length : Int) + (80 : Int))).toNat FK.win.zero)) ∧ inv (↑x.length : Int) (List.take (List.replicate (wrap ((↑x.length : Int) +
  (80 : Int))).toNat FK.win.zero).length x ++ List.drop x.length (List.replicate (wrap ((↑x.length : Int) + (80 : Int))).toNat FK.win.zero))) ∧ ∀ (x_4 : Int) (x_5 : List Win), inv x_4 x_5 → (decide (x_4 < (↑x_5.length : Int)) = true → ((0 :
  Int) ≤ x_4 ∧ x_4 < (↑x_5.length : Int)) ∧ x_4.toNat < x_5.length ∧ (wrap (x_4 + (1 : Int)) = wrap (x_4 + (1 : Int)) ∧ (x_2.lo = x_2.lo ∧ x_2.hi = x_2.hi) ∧ x_5.set x_4.toNat x_2 = x_5.set x_4.toNat x_2) ∧ inv (wrap (x_4 + (1 : Int)))
  (x_5.set x_4.toNat x_2) ∧ μ (wrap (x_4 + (1 : Int))) (x_5.set x_4.toNat x_2) < μ x_4 x_5) ∧ (decide (x_4 < (↑x_5.length : Int)) = false → x_5 = roomy x x_2)
theorem roomyW_told (hc : CsOk Try.prog roomyW_cs) (h : roomyW_vc) : Told Try.prog 18 roomyW_con := told (A := roomyW_la) tabOk mixed hc Try.func18 (by kernel_rfl) (by kernel_rfl) h
def intactW_vc : Prop :=
  ∀ (x : List Win), LenOk x.length → ∀ (x_2 : List Win), LenOk x_2.length → ∀ (x_4 : Win), ((!decide ((↑x.length : Int) = wrap ((↑x_2.length : Int) + (80 : Int)))) = false → ((0 : Int) ≤ (0 : Int) ∧ (0 : Int) ≤ (↑x_2.length : Int) ∧
  (↑x_2.length : Int) ≤ (↑x.length : Int)) ∧ Int.toNat (0 : Int) + ((↑x_2.length : Int).toNat - Int.toNat (0 : Int)) ≤ x.length ∧ ((!same (part x (Int.toNat (0 : Int)) ((↑x_2.length : Int).toNat - Int.toNat (0 : Int))) x_2) = true → false =
  same x (roomy x_2 x_4)) ∧ ((!same (part x (Int.toNat (0 : Int)) ((↑x_2.length : Int).toNat - Int.toNat (0 : Int))) x_2) = false → ∃ (inv : Int → Prop), ∃ (μ : Int → Nat), (((↑x_2.length : Int) = (↑x_2.length : Int) ∧ (x_4.lo = x_4.lo ∧
  x_4.hi = x_4.hi) ∧ x = x) ∧ inv (↑x_2.length : Int)) ∧ ∀ (x_7 : Int), inv x_7 → (decide (x_7 < (↑x.length : Int)) = true → ((0 : Int) ≤ x_7 ∧ x_7 < (↑x.length : Int)) ∧ x_7.toNat < x.length ∧ ((!(decide ((x.getD x_7.toNat FK.win.zero).lo =
  x_4.lo) && (decide ((x.getD x_7.toNat FK.win.zero).hi = x_4.hi) && true))) = true → false = same x (roomy x_2 x_4)) ∧ ((!(decide ((x.getD x_7.toNat FK.win.zero).lo = x_4.lo) && (decide ((x.getD x_7.toNat FK.win.zero).hi = x_4.hi) && true)))
  = false → (wrap (x_7 + (1 : Int)) = wrap (x_7 + (1 : Int)) ∧ (x_4.lo = x_4.lo ∧ x_4.hi = x_4.hi) ∧ x = x) ∧ inv (wrap (x_7 + (1 : Int))) ∧ μ (wrap (x_7 + (1 : Int))) < μ x_7)) ∧ (decide (x_7 < (↑x.length : Int)) = false → true = same x
  (roomy x_2 x_4)))) ∧ ((!decide ((↑x.length : Int) = wrap ((↑x_2.length : Int) + (80 : Int)))) = !false → false = same x (roomy x_2 x_4))
theorem intactW_told (hc : CsOk Try.prog intactW_cs) (h : intactW_vc) : Told Try.prog 20 intactW_con := told (A := intactW_la) tabOk mixed hc Try.func20 (by kernel_rfl) (by kernel_rfl) h
def sameI_vc : Prop :=
  ∀ (x : List Int), LenOk x.length → ∀ (x_2 : List Int), LenOk x_2.length → ((!decide ((↑x.length : Int) = (↑x_2.length : Int))) = true → false = same x x_2) ∧ ((!decide ((↑x.length : Int) = (↑x_2.length : Int))) = false → ∃ (inv : Int →
  Prop), ∃ (μ : Int → Nat), (((0 : Int) = (0 : Int) ∧ x_2 = x_2 ∧ x = x) ∧ inv (0 : Int)) ∧ ∀ (x_5 : Int), inv x_5 → (decide (x_5 < (↑x.length : Int)) = true → ((0 : Int) ≤ x_5 ∧ x_5 < (↑x.length : Int)) ∧ x_5.toNat < x.length ∧ ((0 : Int) ≤
  x_5 ∧ x_5 < (↑x_2.length : Int)) ∧ x_5.toNat < x_2.length ∧ ((!decide (x.getD x_5.toNat (Int.ofNat (0 : Nat)) = x_2.getD x_5.toNat (Int.ofNat (0 : Nat)))) = true → false = same x x_2) ∧ ((!decide (x.getD x_5.toNat (Int.ofNat (0 : Nat)) =
  x_2.getD x_5.toNat (Int.ofNat (0 : Nat)))) = false → (wrap (x_5 + (1 : Int)) = wrap (x_5 + (1 : Int)) ∧ x_2 = x_2 ∧ x = x) ∧ inv (wrap (x_5 + (1 : Int))) ∧ μ (wrap (x_5 + (1 : Int))) < μ x_5)) ∧ (decide (x_5 < (↑x.length : Int)) = false →
  true = same x x_2))
theorem sameI_told (hc : CsOk Try.prog sameI_cs) (h : sameI_vc) : Told Try.prog 34 sameI_con := told (A := sameI_la) tabOk mixed hc Try.func34 (by kernel_rfl) (by kernel_rfl) h
def roomyI_vc : Prop :=
  ∀ (x : List Int), LenOk x.length → ∀ (x_2 : Int), x.length * (8 : Nat) ≤ (140737488351232 : Nat) → ((0 : Int) ≤ wrap ((↑x.length : Int) + (80 : Int)) ∧ wrap ((↑x.length : Int) + (80 : Int)) ≤ wrap ((↑x.length : Int) + (80 : Int)) ∧ wrap
  ((↑x.length : Int) + (80 : Int)) * ((8 : Int) * (↑(1 : Nat) : Int)) ≤ (281474976710656 : Int)) ∧ True ∧ ∃ (inv : Int → List Int → Prop), ∃ (μ : Int → List Int → Nat), (((x_2 = x_2 ∧ (↑x.length : Int) = (↑x.length : Int)) ∧ List.take
  (List.replicate (wrap ((↑x.length : Int) + (80 : Int))).toNat (Int.ofNat (0 : Nat))).length x ++ List.drop x.length (List.replicate (wrap ((↑x.length : Int) + (80 : Int))).toNat (Int.ofNat (0 : Nat))) = List.take (List.replicate (wrap
  ((↑x.length : Int) + (80 : Int))).toNat (Int.ofNat (0 : Nat))).length x ++ List.drop x.length (List.replicate (wrap ((↑x.length : Int) + (80 : Int))).toNat (Int.ofNat (0 : Nat)))) ∧ inv (↑x.length : Int) (List.take (List.replicate (wrap
  ((↑x.length : Int) + (80 : Int))).toNat (Int.ofNat (0 : Nat))).length x ++ List.drop x.length (List.replicate (wrap ((↑x.length : Int) + (80 : Int))).toNat (Int.ofNat (0 : Nat))))) ∧ ∀ (x_4 : Int) (x_5 : List Int), inv x_4 x_5 → (decide
  (x_4 < (↑x_5.length : Int)) = true → ((0 : Int) ≤ x_4 ∧ x_4 < (↑x_5.length : Int)) ∧ x_4.toNat < x_5.length ∧ ((x_2 = x_2 ∧ wrap (x_4 + (1 : Int)) = wrap (x_4 + (1 : Int))) ∧ x_5.set x_4.toNat x_2 = x_5.set x_4.toNat x_2) ∧ inv (wrap (x_4 +
  (1 : Int))) (x_5.set x_4.toNat x_2) ∧ μ (wrap (x_4 + (1 : Int))) (x_5.set x_4.toNat x_2) < μ x_4 x_5) ∧ (decide (x_4 < (↑x_5.length : Int)) = false → x_5 = roomy x x_2)
theorem roomyI_told (hc : CsOk Try.prog roomyI_cs) (h : roomyI_vc) : Told Try.prog 36 roomyI_con := told (A := roomyI_la) tabOk mixed hc Try.func36 (by kernel_rfl) (by kernel_rfl) h
def intactI_vc : Prop :=
  ∀ (x : List Int), LenOk x.length → ∀ (x_2 : List Int), LenOk x_2.length → ∀ (x_4 : Int), ((!decide ((↑x.length : Int) = wrap ((↑x_2.length : Int) + (80 : Int)))) = false → ((0 : Int) ≤ (0 : Int) ∧ (0 : Int) ≤ (↑x_2.length : Int) ∧
  (↑x_2.length : Int) ≤ (↑x.length : Int)) ∧ Int.toNat (0 : Int) + ((↑x_2.length : Int).toNat - Int.toNat (0 : Int)) ≤ x.length ∧ ((!same (part x (Int.toNat (0 : Int)) ((↑x_2.length : Int).toNat - Int.toNat (0 : Int))) x_2) = true → false =
  same x (roomy x_2 x_4)) ∧ ((!same (part x (Int.toNat (0 : Int)) ((↑x_2.length : Int).toNat - Int.toNat (0 : Int))) x_2) = false → ∃ (inv : Int → Prop), ∃ (μ : Int → Nat), (((x_4 = x_4 ∧ (↑x_2.length : Int) = (↑x_2.length : Int)) ∧ x = x) ∧
  inv (↑x_2.length : Int)) ∧ ∀ (x_7 : Int), inv x_7 → (decide (x_7 < (↑x.length : Int)) = true → ((0 : Int) ≤ x_7 ∧ x_7 < (↑x.length : Int)) ∧ x_7.toNat < x.length ∧ ((!decide (x.getD x_7.toNat (Int.ofNat (0 : Nat)) = x_4)) = true → false =
  same x (roomy x_2 x_4)) ∧ ((!decide (x.getD x_7.toNat (Int.ofNat (0 : Nat)) = x_4)) = false → ((x_4 = x_4 ∧ wrap (x_7 + (1 : Int)) = wrap (x_7 + (1 : Int))) ∧ x = x) ∧ inv (wrap (x_7 + (1 : Int))) ∧ μ (wrap (x_7 + (1 : Int))) < μ x_7)) ∧
  (decide (x_7 < (↑x.length : Int)) = false → true = same x (roomy x_2 x_4)))) ∧ ((!decide ((↑x.length : Int) = wrap ((↑x_2.length : Int) + (80 : Int)))) = !false → false = same x (roomy x_2 x_4))
theorem intactI_told (hc : CsOk Try.prog intactI_cs) (h : intactI_vc) : Told Try.prog 38 intactI_con := told (A := intactI_la) tabOk mixed hc Try.func38 (by kernel_rfl) (by kernel_rfl) h
end Go.Eng
