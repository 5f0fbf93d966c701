/- The conditions of functions, as print.. of the engine told them. -/
import Derived.Test.YtindbdefjandkaaWithin
import Derived.KernelRfl
set_option linter.unusedVariables false
namespace Go.Eng
open Go Go.Proofs
def bWithin_vc : Prop :=
  ∀ (x x_1 x_2 : Int), x_1 ≤ x_2 ∧ (0 : Int) ≤ x_1 ∧ x_2 ≤ (9223372036854775806 : Int) → wrap (wrap (x_2 - x_1) + (1 : Int)) ≠ (0 : Int) ∧ (decide (x.tmod (wrap (wrap (x_2 - x_1) + (1 : Int))) < (0 : Int)) = true → wrap (x_1 + wrap (wrap
  (wrap (x.tmod (wrap (wrap (x_2 - x_1) + (1 : Int))) + x_2) - x_1) + (1 : Int))) = bwithin x x_1 x_2) ∧ (decide (x.tmod (wrap (wrap (x_2 - x_1) + (1 : Int))) < (0 : Int)) = false → wrap (x_1 + x.tmod (wrap (wrap (x_2 - x_1) + (1 : Int)))) =
  bwithin x x_1 x_2)
theorem bWithin_told (hc : CsOk Try.prog bWithin_cs) (h : bWithin_vc) : Told Try.prog 23 bWithin_con := told (A := bWithin_la) tabOk mixed hc Try.func23 (by kernel_rfl) (by kernel_rfl) h
end Go.Eng
