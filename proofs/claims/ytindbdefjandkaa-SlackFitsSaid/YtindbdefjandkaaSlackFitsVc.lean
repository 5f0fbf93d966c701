/- The conditions of functions, as print.. of the engine told them. -/
import Derived.Test.YtindbdefjandkaaSlackLaw
import Derived.KernelRfl
set_option linter.unusedVariables false
namespace Go.Eng
open Go Go.Proofs
def slackFits_vc : Prop :=
  ∀ (x : WorldD), (LenOk x.times.length ∧ LenOk x.drivers.length ∧ LenOk x.orders.length ∧ LenOk x.plan.length ∧ ∀ (r : Route), List.Mem r x.plan → LenOk r.stops.length) → ∀ (x_2 : Driver) (x_3 : List Stop), LenOk x_3.length → ∀ (x_5 : Win)
  (x_6 : Order), Given (pA (AV.r (SK.world.enc x)) ∧ pA (AV.r ((SK.f FK.driver).enc x_2)) ∧ pA (AV.c (AC.a (K.f FK.stop) x_3)) ∧ pA (AV.r ((SK.f FK.win).enc x_5)) ∧ pA (AV.r ((SK.f FK.order).enc x_6))) → (newE x.n x.times ≠ (0 : Int) → (true
  = true → ((0 : Int) ≤ (0 : Int) ∧ (0 : Int) < (↑(2 : Nat) : Int)) ∧ ((0 : Int) ≤ (1 : Int) ∧ (1 : Int) < (↑(2 : Nat) : Int)) ∧ ((∀ (x : MapD), none = some x → MapOk x) ∧ x.orders.length * (80 : Nat) ≤ (140737488351232 : Nat) ∧ x_3.length *
  (16 : Nat) ≤ (140737488351232 : Nat)) ∧ ((0 : Int) ≤ (0 : Int) ∧ (0 : Int) < (↑(2 : Nat) : Int)) ∧ ((0 : Int) ≤ (1 : Int) ∧ (1 : Int) < (↑(2 : Nat) : Int)) ∧ ((∀ (x : MapD), none = some x → MapOk x) ∧ x.orders.length * (80 : Nat) ≤
  (140737488351232 : Nat) ∧ x_3.length * (16 : Nat) ≤ (140737488351232 : Nat)) ∧ ((fits none x_2 x.orders x_3 x_6 x_5.lo x_5.hi == fits none x_2 x.orders x_3 x_6 x_5.lo x_5.hi) = true → true = true) ∧ ((fits none x_2 x.orders x_3 x_6 x_5.lo
  x_5.hi == fits none x_2 x.orders x_3 x_6 x_5.lo x_5.hi) = !true → false = true)) ∧ (true = !true → false = true)) ∧ (newE x.n x.times = (0 : Int) → (true = true → ((0 : Int) ≤ (0 : Int) ∧ (0 : Int) < (↑(2 : Nat) : Int)) ∧ ((0 : Int) ≤ (1 :
  Int) ∧ (1 : Int) < (↑(2 : Nat) : Int)) ∧ ((∀ (x_10 : MapD), some (MapD.mk x.n x.times) = some x_10 → MapOk x_10) ∧ x.orders.length * (80 : Nat) ≤ (140737488351232 : Nat) ∧ x_3.length * (16 : Nat) ≤ (140737488351232 : Nat)) ∧ ((0 : Int) ≤ (0
  : Int) ∧ (0 : Int) < (↑(2 : Nat) : Int)) ∧ ((0 : Int) ≤ (1 : Int) ∧ (1 : Int) < (↑(2 : Nat) : Int)) ∧ ((∀ (x_10 : MapD), some (MapD.mk x.n x.times) = some x_10 → MapOk x_10) ∧ x.orders.length * (80 : Nat) ≤ (140737488351232 : Nat) ∧
  x_3.length * (16 : Nat) ≤ (140737488351232 : Nat)) ∧ ((fits (some (MapD.mk x.n x.times)) x_2 x.orders x_3 x_6 x_5.lo x_5.hi == fits (some (MapD.mk x.n x.times)) x_2 x.orders x_3 x_6 x_5.lo x_5.hi) = true → true = true) ∧ ((fits (some
  (MapD.mk x.n x.times)) x_2 x.orders x_3 x_6 x_5.lo x_5.hi == fits (some (MapD.mk x.n x.times)) x_2 x.orders x_3 x_6 x_5.lo x_5.hi) = !true → false = true)) ∧ (true = !true → false = true))
theorem slackFits_told (hc : CsOk Try.prog slackFits_cs) (h : slackFits_vc) : Told Try.prog 6 slackFits_con := told (A := slackFits_la) tabOk mixed hc Try.func6 (by kernel_rfl) (by kernel_rfl) h
end Go.Eng
