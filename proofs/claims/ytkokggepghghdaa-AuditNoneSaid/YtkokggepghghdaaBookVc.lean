/- The conditions of functions, as print.. of the engine told them. -/
import Derived.Test.YtkokggepghghdaaBook
import Derived.KernelRfl
set_option linter.unusedVariables false
namespace Go.Eng
open Go Go.Proofs
def sameS_vc : Prop :=
  ∀ (x : List Stop), LenOk x.length → ∀ (x_2 : List Stop), LenOk x_2.length → ((!decide ((↑x.length : Int) = (↑x_2.length : Int))) = true → false = same x x_2) ∧ ((!decide ((↑x.length : Int) = (↑x_2.length : Int))) = false → ∃ (inv : Int →
  Prop), ∃ (μ : Int → Nat), (((0 : Int) = (0 : Int) ∧ x_2 = x_2 ∧ x = x) ∧ inv (0 : Int)) ∧ ∀ (x_5 : Int), inv x_5 → (decide (x_5 < (↑x.length : Int)) = true → ((0 : Int) ≤ x_5 ∧ x_5 < (↑x.length : Int)) ∧ x_5.toNat < x.length ∧ ((0 : Int) ≤
  x_5 ∧ x_5 < (↑x_2.length : Int)) ∧ x_5.toNat < x_2.length ∧ ((!(decide ((x.getD x_5.toNat FK.stop.zero).order = (x_2.getD x_5.toNat FK.stop.zero).order) && ((x.getD x_5.toNat FK.stop.zero).drop == (x_2.getD x_5.toNat FK.stop.zero).drop &&
  true))) = true → false = same x x_2) ∧ ((!(decide ((x.getD x_5.toNat FK.stop.zero).order = (x_2.getD x_5.toNat FK.stop.zero).order) && ((x.getD x_5.toNat FK.stop.zero).drop == (x_2.getD x_5.toNat FK.stop.zero).drop && true))) = false →
  (wrap (x_5 + (1 : Int)) = wrap (x_5 + (1 : Int)) ∧ x_2 = x_2 ∧ x = x) ∧ inv (wrap (x_5 + (1 : Int))) ∧ μ (wrap (x_5 + (1 : Int))) < μ x_5)) ∧ (decide (x_5 < (↑x.length : Int)) = false → true = same x x_2))
theorem sameS_told (hc : CsOk Try.prog sameS_cs) (h : sameS_vc) : Told Try.prog 48 sameS_con := told (A := sameS_la) tabOk mixed hc Try.func48 (by kernel_rfl) (by kernel_rfl) h
def sameV_vc : Prop :=
  ∀ (x : List Visit), LenOk x.length → ∀ (x_2 : List Visit), LenOk x_2.length → ((!decide ((↑x.length : Int) = (↑x_2.length : Int))) = true → false = same x x_2) ∧ ((!decide ((↑x.length : Int) = (↑x_2.length : Int))) = false → ∃ (inv : Int →
  Prop), ∃ (μ : Int → Nat), (((0 : Int) = (0 : Int) ∧ x_2 = x_2 ∧ x = x) ∧ inv (0 : Int)) ∧ ∀ (x_5 : Int), inv x_5 → (decide (x_5 < (↑x.length : Int)) = true → ((0 : Int) ≤ x_5 ∧ x_5 < (↑x.length : Int)) ∧ x_5.toNat < x.length ∧ ((0 : Int) ≤
  x_5 ∧ x_5 < (↑x_2.length : Int)) ∧ x_5.toNat < x_2.length ∧ ((!(decide ((x.getD x_5.toNat FK.visit.zero).order = (x_2.getD x_5.toNat FK.visit.zero).order) && ((x.getD x_5.toNat FK.visit.zero).drop == (x_2.getD x_5.toNat FK.visit.zero).drop
  && true) && (decide ((x.getD x_5.toNat FK.visit.zero).arrive = (x_2.getD x_5.toNat FK.visit.zero).arrive) && (decide ((x.getD x_5.toNat FK.visit.zero).start = (x_2.getD x_5.toNat FK.visit.zero).start) && (decide ((x.getD x_5.toNat
  FK.visit.zero).leave = (x_2.getD x_5.toNat FK.visit.zero).leave) && (decide ((x.getD x_5.toNat FK.visit.zero).load = (x_2.getD x_5.toNat FK.visit.zero).load) && true)))))) = true → false = same x x_2) ∧ ((!(decide ((x.getD x_5.toNat
  FK.visit.zero).order = (x_2.getD x_5.toNat FK.visit.zero).order) && ((x.getD x_5.toNat FK.visit.zero).drop == (x_2.getD x_5.toNat FK.visit.zero).drop && true) && (decide ((x.getD x_5.toNat FK.visit.zero).arrive = (x_2.getD x_5.toNat
  FK.visit.zero).arrive) && (decide ((x.getD x_5.toNat FK.visit.zero).start = (x_2.getD x_5.toNat FK.visit.zero).start) && (decide ((x.getD x_5.toNat FK.visit.zero).leave = (x_2.getD x_5.toNat FK.visit.zero).leave) && (decide ((x.getD
  x_5.toNat FK.visit.zero).load = (x_2.getD x_5.toNat FK.visit.zero).load) && true)))))) = false → (wrap (x_5 + (1 : Int)) = wrap (x_5 + (1 : Int)) ∧ x_2 = x_2 ∧ x = x) ∧ inv (wrap (x_5 + (1 : Int))) ∧ μ (wrap (x_5 + (1 : Int))) < μ x_5)) ∧
  (decide (x_5 < (↑x.length : Int)) = false → true = same x x_2))
theorem sameV_told (hc : CsOk Try.prog sameV_cs) (h : sameV_vc) : Told Try.prog 38 sameV_con := told (A := sameV_la) tabOk mixed hc Try.func38 (by kernel_rfl) (by kernel_rfl) h
def sameT_vc : Prop :=
  ∀ (x : List Trouble), LenOk x.length → ∀ (x_2 : List Trouble), LenOk x_2.length → ((!decide ((↑x.length : Int) = (↑x_2.length : Int))) = true → false = same x x_2) ∧ ((!decide ((↑x.length : Int) = (↑x_2.length : Int))) = false → ∃ (inv :
  Int → Prop), ∃ (μ : Int → Nat), (((0 : Int) = (0 : Int) ∧ x_2 = x_2 ∧ x = x) ∧ inv (0 : Int)) ∧ ∀ (x_5 : Int), inv x_5 → (decide (x_5 < (↑x.length : Int)) = true → ((0 : Int) ≤ x_5 ∧ x_5 < (↑x.length : Int)) ∧ x_5.toNat < x.length ∧ ((0 :
  Int) ≤ x_5 ∧ x_5 < (↑x_2.length : Int)) ∧ x_5.toNat < x_2.length ∧ ((!(decide ((x.getD x_5.toNat FK.trouble.zero).driver = (x_2.getD x_5.toNat FK.trouble.zero).driver) && (decide ((x.getD x_5.toNat FK.trouble.zero).order = (x_2.getD
  x_5.toNat FK.trouble.zero).order) && (decide ((x.getD x_5.toNat FK.trouble.zero).why = (x_2.getD x_5.toNat FK.trouble.zero).why) && true)))) = true → false = same x x_2) ∧ ((!(decide ((x.getD x_5.toNat FK.trouble.zero).driver = (x_2.getD
  x_5.toNat FK.trouble.zero).driver) && (decide ((x.getD x_5.toNat FK.trouble.zero).order = (x_2.getD x_5.toNat FK.trouble.zero).order) && (decide ((x.getD x_5.toNat FK.trouble.zero).why = (x_2.getD x_5.toNat FK.trouble.zero).why) && true))))
  = false → (wrap (x_5 + (1 : Int)) = wrap (x_5 + (1 : Int)) ∧ x_2 = x_2 ∧ x = x) ∧ inv (wrap (x_5 + (1 : Int))) ∧ μ (wrap (x_5 + (1 : Int))) < μ x_5)) ∧ (decide (x_5 < (↑x.length : Int)) = false → true = same x x_2))
theorem sameT_told (hc : CsOk Try.prog sameT_cs) (h : sameT_vc) : Told Try.prog 17 sameT_con := told (A := sameT_la) tabOk mixed hc Try.func17 (by kernel_rfl) (by kernel_rfl) h
end Go.Eng
