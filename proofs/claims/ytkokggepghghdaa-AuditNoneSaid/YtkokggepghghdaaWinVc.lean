/- The conditions of functions, as print.. of the engine told them. -/
import Derived.Test.YtkokggepghghdaaWin
import Derived.KernelRfl
set_option linter.unusedVariables false
namespace Go.Eng
open Go Go.Proofs
def right_vc : Prop :=
  ∀ (x : Win), (decide (x.lo ≥ (0 : Int)) = true → (decide (x.lo ≤ x.hi) = true → decide (x.hi ≤ (1000000 : Int)) = right x) ∧ (decide (x.lo ≤ x.hi) = !true → false = right x)) ∧ (decide (x.lo ≥ (0 : Int)) = !true → false = right x)
theorem right_told (hc : CsOk Try.prog right_cs) (h : right_vc) : Told Try.prog 83 right_con := told (A := right_la) tabOk mixed hc Try.func83 (by kernel_rfl) (by kernel_rfl) h
def rRight_vc : Prop :=
  ∀ (x : Win), (decide (x.lo ≥ (0 : Int)) = true → (decide (x.lo ≤ x.hi) = true → decide (x.hi ≤ (1000000 : Int)) = right x) ∧ (decide (x.lo ≤ x.hi) = !true → false = right x)) ∧ (decide (x.lo ≥ (0 : Int)) = !true → false = right x)
theorem rRight_told (hc : CsOk Try.prog rRight_cs) (h : rRight_vc) : Told Try.prog 86 rRight_con := told (A := rRight_la) tabOk mixed hc Try.func86 (by kernel_rfl) (by kernel_rfl) h
def begin_vc : Prop :=
  ∀ (x : Win) (x_1 : Int), ((!right x) = false → (decide (x_1 > x.hi) = true → (0 : Int) = (begin_ x x_1).fst ∧ false = (begin_ x x_1).snd) ∧ (decide (x_1 > x.hi) = false → max x_1 x.lo = (begin_ x x_1).fst ∧ true = (begin_ x x_1).snd)) ∧
  ((!right x) = !false → (0 : Int) = (begin_ x x_1).fst ∧ false = (begin_ x x_1).snd)
theorem begin_told (hc : CsOk Try.prog begin_cs) (h : begin_vc) : Told Try.prog 74 begin_con := told (A := begin_la) tabOk mixed hc Try.func74 (by kernel_rfl) (by kernel_rfl) h
def rBegin_vc : Prop :=
  ∀ (x : Win) (x_1 : Int), ((!right x) = false → (decide (x_1 > x.hi) = true → (0 : Int) = (begin_ x x_1).fst ∧ false = (begin_ x x_1).snd) ∧ (decide (x_1 > x.hi) = false → (decide (x_1 < x.lo) = true → x.lo = (begin_ x x_1).fst ∧ true =
  (begin_ x x_1).snd) ∧ (decide (x_1 < x.lo) = false → x_1 = (begin_ x x_1).fst ∧ true = (begin_ x x_1).snd))) ∧ ((!right x) = !false → (0 : Int) = (begin_ x x_1).fst ∧ false = (begin_ x x_1).snd)
theorem rBegin_told (hc : CsOk Try.prog rBegin_cs) (h : rBegin_vc) : Told Try.prog 79 rBegin_con := told (A := rBegin_la) tabOk mixed hc Try.func79 (by kernel_rfl) (by kernel_rfl) h
end Go.Eng
