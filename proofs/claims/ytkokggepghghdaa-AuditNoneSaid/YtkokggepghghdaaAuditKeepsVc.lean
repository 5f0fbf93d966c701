/- The conditions of functions, as print.. of the engine told them. -/
import Derived.Test.YtkokggepghghdaaAuditLaw
import Derived.KernelRfl
set_option linter.unusedVariables false
namespace Go.Eng
open Go Go.Proofs
def auditKeeps_vc : Prop :=
  ∀ (x : List Route), (LenOk x.length ∧ ∀ (r : Route), List.Mem r x → LenOk r.stops.length) → ∀ (x_2 : List Route), (LenOk x_2.length ∧ ∀ (r : Route), List.Mem r x_2 → LenOk r.stops.length) → Given (pA (AV.c (AC.a K.route x)) ∧ pA (AV.c (AC.a
  K.route x_2))) → ((keptP x x_2 == keptP x x_2) = true → ((keptP x x == rightP x) = true → true = true) ∧ ((keptP x x == rightP x) = !true → false = true)) ∧ ((keptP x x_2 == keptP x x_2) = !true → false = true)
theorem auditKeeps_told (hc : CsOk Try.prog auditKeeps_cs) (h : auditKeeps_vc) : Told Try.prog 5 auditKeeps_con := told (A := auditKeeps_la) tabOk mixed hc Try.func5 (by kernel_rfl) (by kernel_rfl) h
end Go.Eng
