/- The conditions of functions, as print.. of the engine told them. -/
import Derived.Test.YtkokggepghghdaaAuditLaw
import Derived.KernelRfl
set_option linter.unusedVariables false
namespace Go.Eng
open Go Go.Proofs
def auditNone_vc : Prop :=
  ∀ (x : WorldD), (LenOk x.times.length ∧ LenOk x.drivers.length ∧ LenOk x.orders.length ∧ LenOk x.plan.length ∧ ∀ (r : Route), List.Mem r x.plan → LenOk r.stops.length) → Given (pA (AV.r (SK.world.enc x))) → (newE x.n x.times ≠ (0 : Int) →
  ((!true) = true → false = true) ∧ ((!true) = false → (∀ (x : MapD), none = some x → MapOk x) ∧ ∃ (inv : Bool → Int → Prop), ∃ (μ : Bool → Int → Nat), (((true = true ∧ (0 : Int) = (0 : Int)) ∧ (x.n = x.n ∧ (cfauR (makeP none x.drivers
  x.orders x.plan)).spot = (cfauR (makeP none x.drivers x.orders x.plan)).spot ∧ (cfauR (makeP none x.drivers x.orders x.plan)).why = (cfauR (makeP none x.drivers x.orders x.plan)).why) ∧ x.plan = x.plan ∧ x.orders = x.orders ∧ x.drivers =
  x.drivers ∧ x.times = x.times) ∧ inv true (0 : Int)) ∧ ∀ (x_5 : Bool) (x_6 : Int), inv x_5 x_6 → (decide (x_6 < (↑x.orders.length : Int)) = true → ((0 : Int) ≤ x_6 ∧ x_6 < (↑x.orders.length : Int)) ∧ x_6.toNat < x.orders.length ∧ (x_5 =
  true → (((findP (x.orders.getD x_6.toNat FK.order.zero).id x.plan).isSome = (findP (x.orders.getD x_6.toNat FK.order.zero).id x.plan).isSome ∧ wrap (x_6 + (1 : Int)) = wrap (x_6 + (1 : Int))) ∧ (x.n = x.n ∧ (cfauR (makeP none x.drivers
  x.orders x.plan)).spot = (cfauR (makeP none x.drivers x.orders x.plan)).spot ∧ (cfauR (makeP none x.drivers x.orders x.plan)).why = (cfauR (makeP none x.drivers x.orders x.plan)).why) ∧ x.plan = x.plan ∧ x.orders = x.orders ∧ x.drivers =
  x.drivers ∧ x.times = x.times) ∧ inv (findP (x.orders.getD x_6.toNat FK.order.zero).id x.plan).isSome (wrap (x_6 + (1 : Int))) ∧ μ (findP (x.orders.getD x_6.toNat FK.order.zero).id x.plan).isSome (wrap (x_6 + (1 : Int))) < μ x_5 x_6) ∧ (x_5
  = !true → ((false = false ∧ wrap (x_6 + (1 : Int)) = wrap (x_6 + (1 : Int))) ∧ (x.n = x.n ∧ (cfauR (makeP none x.drivers x.orders x.plan)).spot = (cfauR (makeP none x.drivers x.orders x.plan)).spot ∧ (cfauR (makeP none x.drivers x.orders
  x.plan)).why = (cfauR (makeP none x.drivers x.orders x.plan)).why) ∧ x.plan = x.plan ∧ x.orders = x.orders ∧ x.drivers = x.drivers ∧ x.times = x.times) ∧ inv false (wrap (x_6 + (1 : Int))) ∧ μ false (wrap (x_6 + (1 : Int))) < μ x_5 x_6)) ∧
  (decide (x_6 < (↑x.orders.length : Int)) = false → (∀ (x : MapD), none = some x → MapOk x) ∧ (good (cfauR (makeP none x.drivers x.orders x.plan)) = true → ((decide ((↑(auditA none x.drivers x.orders x.plan).length : Int) = (0 : Int)) ==
  x_5) = true → true = true) ∧ ((decide ((↑(auditA none x.drivers x.orders x.plan).length : Int) = (0 : Int)) == x_5) = !true → false = true)) ∧ (good (cfauR (makeP none x.drivers x.orders x.plan)) = !true → ((decide ((↑(auditA none x.drivers
  x.orders x.plan).length : Int) = (0 : Int)) == false) = true → true = true) ∧ ((decide ((↑(auditA none x.drivers x.orders x.plan).length : Int) = (0 : Int)) == false) = !true → false = true))))) ∧ (newE x.n x.times = (0 : Int) → ((!true) =
  true → false = true) ∧ ((!true) = false → (∀ (x_5 : MapD), some (MapD.mk x.n x.times) = some x_5 → MapOk x_5) ∧ ∃ (inv : Bool → Int → Prop), ∃ (μ : Bool → Int → Nat), (((true = true ∧ (0 : Int) = (0 : Int)) ∧ (x.n = x.n ∧ x.n = x.n ∧ (cfauR
  (makeP (some (MapD.mk x.n x.times)) x.drivers x.orders x.plan)).spot = (cfauR (makeP (some (MapD.mk x.n x.times)) x.drivers x.orders x.plan)).spot ∧ (cfauR (makeP (some (MapD.mk x.n x.times)) x.drivers x.orders x.plan)).why = (cfauR (makeP
  (some (MapD.mk x.n x.times)) x.drivers x.orders x.plan)).why) ∧ x.times = x.times ∧ x.plan = x.plan ∧ x.orders = x.orders ∧ x.drivers = x.drivers ∧ x.times = x.times) ∧ inv true (0 : Int)) ∧ ∀ (x_5 : Bool) (x_6 : Int), inv x_5 x_6 → (decide
  (x_6 < (↑x.orders.length : Int)) = true → ((0 : Int) ≤ x_6 ∧ x_6 < (↑x.orders.length : Int)) ∧ x_6.toNat < x.orders.length ∧ (x_5 = true → (((findP (x.orders.getD x_6.toNat FK.order.zero).id x.plan).isSome = (findP (x.orders.getD x_6.toNat
  FK.order.zero).id x.plan).isSome ∧ wrap (x_6 + (1 : Int)) = wrap (x_6 + (1 : Int))) ∧ (x.n = x.n ∧ x.n = x.n ∧ (cfauR (makeP (some (MapD.mk x.n x.times)) x.drivers x.orders x.plan)).spot = (cfauR (makeP (some (MapD.mk x.n x.times))
  x.drivers x.orders x.plan)).spot ∧ (cfauR (makeP (some (MapD.mk x.n x.times)) x.drivers x.orders x.plan)).why = (cfauR (makeP (some (MapD.mk x.n x.times)) x.drivers x.orders x.plan)).why) ∧ x.times = x.times ∧ x.plan = x.plan ∧ x.orders =
  x.orders ∧ x.drivers = x.drivers ∧ x.times = x.times) ∧ inv (findP (x.orders.getD x_6.toNat FK.order.zero).id x.plan).isSome (wrap (x_6 + (1 : Int))) ∧ μ (findP (x.orders.getD x_6.toNat FK.order.zero).id x.plan).isSome (wrap (x_6 + (1 :
  Int))) < μ x_5 x_6) ∧ (x_5 = !true → ((false = false ∧ wrap (x_6 + (1 : Int)) = wrap (x_6 + (1 : Int))) ∧ (x.n = x.n ∧ x.n = x.n ∧ (cfauR (makeP (some (MapD.mk x.n x.times)) x.drivers x.orders x.plan)).spot = (cfauR (makeP (some (MapD.mk
  x.n x.times)) x.drivers x.orders x.plan)).spot ∧ (cfauR (makeP (some (MapD.mk x.n x.times)) x.drivers x.orders x.plan)).why = (cfauR (makeP (some (MapD.mk x.n x.times)) x.drivers x.orders x.plan)).why) ∧ x.times = x.times ∧ x.plan = x.plan
  ∧ x.orders = x.orders ∧ x.drivers = x.drivers ∧ x.times = x.times) ∧ inv false (wrap (x_6 + (1 : Int))) ∧ μ false (wrap (x_6 + (1 : Int))) < μ x_5 x_6)) ∧ (decide (x_6 < (↑x.orders.length : Int)) = false → (∀ (x_9 : MapD), some (MapD.mk x.n
  x.times) = some x_9 → MapOk x_9) ∧ (good (cfauR (makeP (some (MapD.mk x.n x.times)) x.drivers x.orders x.plan)) = true → ((decide ((↑(auditA (some (MapD.mk x.n x.times)) x.drivers x.orders x.plan).length : Int) = (0 : Int)) == x_5) = true →
  true = true) ∧ ((decide ((↑(auditA (some (MapD.mk x.n x.times)) x.drivers x.orders x.plan).length : Int) = (0 : Int)) == x_5) = !true → false = true)) ∧ (good (cfauR (makeP (some (MapD.mk x.n x.times)) x.drivers x.orders x.plan)) = !true →
  ((decide ((↑(auditA (some (MapD.mk x.n x.times)) x.drivers x.orders x.plan).length : Int) = (0 : Int)) == false) = true → true = true) ∧ ((decide ((↑(auditA (some (MapD.mk x.n x.times)) x.drivers x.orders x.plan).length : Int) = (0 : Int))
  == false) = !true → false = true)))))
theorem auditNone_told (hc : CsOk Try.prog auditNone_cs) (h : auditNone_vc) : Told Try.prog 8 auditNone_con := told (A := auditNone_la) tabOk mixed hc Try.func8 (by kernel_rfl) (by kernel_rfl) h
end Go.Eng
