/- The conditions of functions, as print.. of the engine told them. -/
import Derived.Test.YtkokggepghghdaaAuditLaw
import Derived.KernelRfl
set_option linter.unusedVariables false
namespace Go.Eng
open Go Go.Proofs
def auditTells_vc : Prop :=
  ∀ (x : WorldD), (LenOk x.times.length ∧ LenOk x.drivers.length ∧ LenOk x.orders.length ∧ LenOk x.plan.length ∧ ∀ (r : Route), List.Mem r x.plan → LenOk r.stops.length) → Given (pA (AV.r (SK.world.enc x))) → (newE x.n x.times ≠ (0 : Int) →
  ((!true) = true → false = true) ∧ ((!true) = false → (x.plan.length * (40 : Nat) ≤ (140737488351232 : Nat) ∧ ∀ (r : Route), List.Mem r x.plan → r.stops.length * (16 : Nat) ≤ (140737488351232 : Nat)) ∧ (∀ (x : MapD), none = some x → MapOk x)
  ∧ (∀ (x : MapD), none = some x → MapOk x) ∧ (∀ (x : MapD), none = some x → MapOk x) ∧ ((!same (auditA none x.drivers x.orders x.plan) (auditA none x.drivers x.orders x.plan)) = false → ((!same (auditA none x.drivers x.orders x.plan) (auditA
  none x.drivers x.orders x.plan)) = true → false = true) ∧ ((!same (auditA none x.drivers x.orders x.plan) (auditA none x.drivers x.orders x.plan)) = false → ∃ (inv : Int → List Trouble → Prop), ∃ (μ : Int → List Trouble → Nat), (((0 : Int)
  = (0 : Int) ∧ x.n = x.n ∧ x.plan = x.plan ∧ x.orders = x.orders ∧ x.drivers = x.drivers ∧ x.times = x.times ∧ auditA none x.drivers x.orders x.plan = auditA none x.drivers x.orders x.plan ∧ auditA none x.drivers x.orders x.plan = auditA
  none x.drivers x.orders x.plan ∧ auditA none x.drivers x.orders x.plan = auditA none x.drivers x.orders x.plan ∧ x.plan = x.plan) ∧ inv (0 : Int) (auditA none x.drivers x.orders x.plan)) ∧ ∀ (x_7 : Int) (x_8 : List Trouble), inv x_7 x_8 →
  (decide (x_7 < (↑x_8.length : Int)) = true → ((0 : Int) ≤ x_7 ∧ x_7 < (↑x_8.length : Int)) ∧ x_7.toNat < x_8.length ∧ (wrap (x_7 + (1 : Int)) = wrap (x_7 + (1 : Int)) ∧ x.n = x.n ∧ x.plan = x.plan ∧ x.orders = x.orders ∧ x.drivers =
  x.drivers ∧ x.times = x.times ∧ auditA none x.drivers x.orders x.plan = auditA none x.drivers x.orders x.plan ∧ auditA none x.drivers x.orders x.plan = auditA none x.drivers x.orders x.plan ∧ x_8.set x_7.toNat (Trouble.mk (-1 : Int) (wrap
  (-x_7)) (0 : Int)) = x_8.set x_7.toNat (Trouble.mk (-1 : Int) (wrap (-x_7)) (0 : Int)) ∧ x.plan = x.plan) ∧ inv (wrap (x_7 + (1 : Int))) (x_8.set x_7.toNat (Trouble.mk (-1 : Int) (wrap (-x_7)) (0 : Int))) ∧ μ (wrap (x_7 + (1 : Int)))
  (x_8.set x_7.toNat (Trouble.mk (-1 : Int) (wrap (-x_7)) (0 : Int))) < μ x_7 x_8) ∧ (decide (x_7 < (↑x_8.length : Int)) = false → (same (auditA none x.drivers x.orders x.plan) (auditA none x.drivers x.orders x.plan) = true → (sameP x.plan
  x.plan = true → true = true) ∧ (sameP x.plan x.plan = !true → false = true)) ∧ (same (auditA none x.drivers x.orders x.plan) (auditA none x.drivers x.orders x.plan) = !true → false = true)))) ∧ ((!same (auditA none x.drivers x.orders
  x.plan) (auditA none x.drivers x.orders x.plan)) = !false → false = true))) ∧ (newE x.n x.times = (0 : Int) → ((!true) = true → false = true) ∧ ((!true) = false → (x.plan.length * (40 : Nat) ≤ (140737488351232 : Nat) ∧ ∀ (r : Route),
  List.Mem r x.plan → r.stops.length * (16 : Nat) ≤ (140737488351232 : Nat)) ∧ (∀ (x_5 : MapD), some (MapD.mk x.n x.times) = some x_5 → MapOk x_5) ∧ (∀ (x_5 : MapD), some (MapD.mk x.n x.times) = some x_5 → MapOk x_5) ∧ (∀ (x_5 : MapD), some
  (MapD.mk x.n x.times) = some x_5 → MapOk x_5) ∧ ((!same (auditA (some (MapD.mk x.n x.times)) x.drivers x.orders x.plan) (auditA (some (MapD.mk x.n x.times)) x.drivers x.orders x.plan)) = false → ((!same (auditA (some (MapD.mk x.n x.times))
  x.drivers x.orders x.plan) (auditA (some (MapD.mk x.n x.times)) x.drivers x.orders x.plan)) = true → false = true) ∧ ((!same (auditA (some (MapD.mk x.n x.times)) x.drivers x.orders x.plan) (auditA (some (MapD.mk x.n x.times)) x.drivers
  x.orders x.plan)) = false → ∃ (inv : Int → List Trouble → Prop), ∃ (μ : Int → List Trouble → Nat), (((0 : Int) = (0 : Int) ∧ x.n = x.n ∧ x.plan = x.plan ∧ x.orders = x.orders ∧ x.drivers = x.drivers ∧ x.times = x.times ∧ auditA (some
  (MapD.mk x.n x.times)) x.drivers x.orders x.plan = auditA (some (MapD.mk x.n x.times)) x.drivers x.orders x.plan ∧ auditA (some (MapD.mk x.n x.times)) x.drivers x.orders x.plan = auditA (some (MapD.mk x.n x.times)) x.drivers x.orders x.plan
  ∧ auditA (some (MapD.mk x.n x.times)) x.drivers x.orders x.plan = auditA (some (MapD.mk x.n x.times)) x.drivers x.orders x.plan ∧ x.plan = x.plan) ∧ inv (0 : Int) (auditA (some (MapD.mk x.n x.times)) x.drivers x.orders x.plan)) ∧ ∀ (x_7 :
  Int) (x_8 : List Trouble), inv x_7 x_8 → (decide (x_7 < (↑x_8.length : Int)) = true → ((0 : Int) ≤ x_7 ∧ x_7 < (↑x_8.length : Int)) ∧ x_7.toNat < x_8.length ∧ (wrap (x_7 + (1 : Int)) = wrap (x_7 + (1 : Int)) ∧ x.n = x.n ∧ x.plan = x.plan ∧
  x.orders = x.orders ∧ x.drivers = x.drivers ∧ x.times = x.times ∧ auditA (some (MapD.mk x.n x.times)) x.drivers x.orders x.plan = auditA (some (MapD.mk x.n x.times)) x.drivers x.orders x.plan ∧ auditA (some (MapD.mk x.n x.times)) x.drivers
  x.orders x.plan = auditA (some (MapD.mk x.n x.times)) x.drivers x.orders x.plan ∧ x_8.set x_7.toNat (Trouble.mk (-1 : Int) (wrap (-x_7)) (0 : Int)) = x_8.set x_7.toNat (Trouble.mk (-1 : Int) (wrap (-x_7)) (0 : Int)) ∧ x.plan = x.plan) ∧ inv
  (wrap (x_7 + (1 : Int))) (x_8.set x_7.toNat (Trouble.mk (-1 : Int) (wrap (-x_7)) (0 : Int))) ∧ μ (wrap (x_7 + (1 : Int))) (x_8.set x_7.toNat (Trouble.mk (-1 : Int) (wrap (-x_7)) (0 : Int))) < μ x_7 x_8) ∧ (decide (x_7 < (↑x_8.length : Int))
  = false → (same (auditA (some (MapD.mk x.n x.times)) x.drivers x.orders x.plan) (auditA (some (MapD.mk x.n x.times)) x.drivers x.orders x.plan) = true → (sameP x.plan x.plan = true → true = true) ∧ (sameP x.plan x.plan = !true → false =
  true)) ∧ (same (auditA (some (MapD.mk x.n x.times)) x.drivers x.orders x.plan) (auditA (some (MapD.mk x.n x.times)) x.drivers x.orders x.plan) = !true → false = true)))) ∧ ((!same (auditA (some (MapD.mk x.n x.times)) x.drivers x.orders
  x.plan) (auditA (some (MapD.mk x.n x.times)) x.drivers x.orders x.plan)) = !false → false = true)))
theorem auditTells_told (hc : CsOk Try.prog auditTells_cs) (h : auditTells_vc) : Told Try.prog 4 auditTells_con := told (A := auditTells_la) tabOk mixed hc Try.func4 (by kernel_rfl) (by kernel_rfl) h
end Go.Eng
