/- The conditions of functions, as print.. of the engine told them. -/
import Derived.Test.YtkokggepghghdaaAuditLaw
import Derived.KernelRfl
set_option linter.unusedVariables false
namespace Go.Eng
open Go Go.Proofs
def auditOnward_vc : Prop :=
  ∀ (x : List Route), (LenOk x.length ∧ ∀ (r : Route), List.Mem r x → LenOk r.stops.length) → ∀ (x_2 : List Route), (LenOk x_2.length ∧ ∀ (r : Route), List.Mem r x_2 → LenOk r.stops.length) → ∀ (x_4 : List Route), (LenOk x_4.length ∧ ∀ (r :
  Route), List.Mem r x_4 → LenOk r.stops.length) → ∀ (x_6 : Int) (x_7 : Spot), Given (pA (AV.c (AC.a K.route x)) ∧ pA (AV.c (AC.a K.route x_2)) ∧ pA (AV.c (AC.a K.route x_4)) ∧ pA (AV.c (AC.i x_6)) ∧ pA (AV.r ((SK.f FK.spot).enc x_7))) →
  (keptP x x_2 = true → (keptP x_2 x_4 = true → ((!keptP x x_4) = true → false = true) ∧ ((!keptP x x_4) = false → ((!rightP x) = true → ((!keptP x x_2) = true → ((!keptP x_2 x) = true → true = true) ∧ ((!keptP x_2 x) = !true → false = true))
  ∧ ((!keptP x x_2) = !true → false = true)) ∧ ((!rightP x) = false → ((withP x x_6 x_7).isSome = true → ((!keptP x ((withP x x_6 x_7).getD [])) = false → ((!keptP ((withP x x_6 x_7).getD []) x) = true → false = true) ∧ ((!keptP ((withP x x_6
  x_7).getD []) x) = false → (x.length * (40 : Nat) ≤ (140737488351232 : Nat) ∧ ∀ (r : Route), List.Mem r x → r.stops.length * (16 : Nat) ≤ (140737488351232 : Nat)) ∧ (keptP x (withoutP x [x_6]) = true → true = true) ∧ (keptP x (withoutP x
  [x_6]) = !true → false = true))) ∧ ((!keptP x ((withP x x_6 x_7).getD [])) = !false → false = true)) ∧ ((withP x x_6 x_7).isSome = !true → (x.length * (40 : Nat) ≤ (140737488351232 : Nat) ∧ ∀ (r : Route), List.Mem r x → r.stops.length * (16
  : Nat) ≤ (140737488351232 : Nat)) ∧ (keptP x (withoutP x [x_6]) = true → true = true) ∧ (keptP x (withoutP x [x_6]) = !true → false = true))))) ∧ (keptP x_2 x_4 = !true → ((!rightP x) = true → ((!keptP x x_2) = true → ((!keptP x_2 x) = true
  → true = true) ∧ ((!keptP x_2 x) = !true → false = true)) ∧ ((!keptP x x_2) = !true → false = true)) ∧ ((!rightP x) = false → ((withP x x_6 x_7).isSome = true → ((!keptP x ((withP x x_6 x_7).getD [])) = false → ((!keptP ((withP x x_6
  x_7).getD []) x) = true → false = true) ∧ ((!keptP ((withP x x_6 x_7).getD []) x) = false → (x.length * (40 : Nat) ≤ (140737488351232 : Nat) ∧ ∀ (r : Route), List.Mem r x → r.stops.length * (16 : Nat) ≤ (140737488351232 : Nat)) ∧ (keptP x
  (withoutP x [x_6]) = true → true = true) ∧ (keptP x (withoutP x [x_6]) = !true → false = true))) ∧ ((!keptP x ((withP x x_6 x_7).getD [])) = !false → false = true)) ∧ ((withP x x_6 x_7).isSome = !true → (x.length * (40 : Nat) ≤
  (140737488351232 : Nat) ∧ ∀ (r : Route), List.Mem r x → r.stops.length * (16 : Nat) ≤ (140737488351232 : Nat)) ∧ (keptP x (withoutP x [x_6]) = true → true = true) ∧ (keptP x (withoutP x [x_6]) = !true → false = true))))) ∧ (keptP x x_2 =
  !true → ((!rightP x) = true → ((!keptP x x_2) = true → ((!keptP x_2 x) = true → true = true) ∧ ((!keptP x_2 x) = !true → false = true)) ∧ ((!keptP x x_2) = !true → false = true)) ∧ ((!rightP x) = false → ((withP x x_6 x_7).isSome = true →
  ((!keptP x ((withP x x_6 x_7).getD [])) = false → ((!keptP ((withP x x_6 x_7).getD []) x) = true → false = true) ∧ ((!keptP ((withP x x_6 x_7).getD []) x) = false → (x.length * (40 : Nat) ≤ (140737488351232 : Nat) ∧ ∀ (r : Route), List.Mem
  r x → r.stops.length * (16 : Nat) ≤ (140737488351232 : Nat)) ∧ (keptP x (withoutP x [x_6]) = true → true = true) ∧ (keptP x (withoutP x [x_6]) = !true → false = true))) ∧ ((!keptP x ((withP x x_6 x_7).getD [])) = !false → false = true)) ∧
  ((withP x x_6 x_7).isSome = !true → (x.length * (40 : Nat) ≤ (140737488351232 : Nat) ∧ ∀ (r : Route), List.Mem r x → r.stops.length * (16 : Nat) ≤ (140737488351232 : Nat)) ∧ (keptP x (withoutP x [x_6]) = true → true = true) ∧ (keptP x
  (withoutP x [x_6]) = !true → false = true))))
theorem auditOnward_told (hc : CsOk Try.prog auditOnward_cs) (h : auditOnward_vc) : Told Try.prog 7 auditOnward_con := told (A := auditOnward_la) tabOk mixed hc Try.func7 (by kernel_rfl) (by kernel_rfl) h
end Go.Eng
