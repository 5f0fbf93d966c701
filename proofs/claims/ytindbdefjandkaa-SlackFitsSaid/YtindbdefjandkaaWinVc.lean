/- The conditions of functions, as print.. of the engine told them. -/
import Derived.Test.YtindbdefjandkaaWin
import Derived.KernelRfl
set_option linter.unusedVariables false
namespace Go.Eng
open Go Go.Proofs
def right_vc : Prop :=
  ∀ (x : Win), (decide (x.lo ≥ (0 : Int)) = true → (decide (x.lo ≤ x.hi) = true → decide (x.hi ≤ (1000000 : Int)) = right x) ∧ (decide (x.lo ≤ x.hi) = !true → false = right x)) ∧ (decide (x.lo ≥ (0 : Int)) = !true → false = right x)
theorem right_told (hc : CsOk Try.prog right_cs) (h : right_vc) : Told Try.prog 37 right_con := told (A := right_la) tabOk mixed hc Try.func37 (by kernel_rfl) (by kernel_rfl) h
def rRight_vc : Prop :=
  ∀ (x : Win), (decide (x.lo ≥ (0 : Int)) = true → (decide (x.lo ≤ x.hi) = true → decide (x.hi ≤ (1000000 : Int)) = right x) ∧ (decide (x.lo ≤ x.hi) = !true → false = right x)) ∧ (decide (x.lo ≥ (0 : Int)) = !true → false = right x)
theorem rRight_told (hc : CsOk Try.prog rRight_cs) (h : rRight_vc) : Told Try.prog 42 rRight_con := told (A := rRight_la) tabOk mixed hc Try.func42 (by kernel_rfl) (by kernel_rfl) h
def has_vc : Prop :=
  ∀ (x : Win) (x_1 : Int), (right x = true → (decide (x_1 ≥ x.lo) = true → decide (x_1 ≤ x.hi) = has x x_1) ∧ (decide (x_1 ≥ x.lo) = !true → false = has x x_1)) ∧ (right x = !true → false = has x x_1)
theorem has_told (hc : CsOk Try.prog has_cs) (h : has_vc) : Told Try.prog 24 has_con := told (A := has_la) tabOk mixed hc Try.func24 (by kernel_rfl) (by kernel_rfl) h
def begin_vc : Prop :=
  ∀ (x : Win) (x_1 : Int), ((!right x) = false → (decide (x_1 > x.hi) = true → (0 : Int) = (begin_ x x_1).fst ∧ false = (begin_ x x_1).snd) ∧ (decide (x_1 > x.hi) = false → max x_1 x.lo = (begin_ x x_1).fst ∧ true = (begin_ x x_1).snd)) ∧
  ((!right x) = !false → (0 : Int) = (begin_ x x_1).fst ∧ false = (begin_ x x_1).snd)
theorem begin_told (hc : CsOk Try.prog begin_cs) (h : begin_vc) : Told Try.prog 46 begin_con := told (A := begin_la) tabOk mixed hc Try.func46 (by kernel_rfl) (by kernel_rfl) h
def rBegin_vc : Prop :=
  ∀ (x : Win) (x_1 : Int), ((!right x) = false → (decide (x_1 > x.hi) = true → (0 : Int) = (begin_ x x_1).fst ∧ false = (begin_ x x_1).snd) ∧ (decide (x_1 > x.hi) = false → (decide (x_1 < x.lo) = true → x.lo = (begin_ x x_1).fst ∧ true =
  (begin_ x x_1).snd) ∧ (decide (x_1 < x.lo) = false → x_1 = (begin_ x x_1).fst ∧ true = (begin_ x x_1).snd))) ∧ ((!right x) = !false → (0 : Int) = (begin_ x x_1).fst ∧ false = (begin_ x x_1).snd)
theorem rBegin_told (hc : CsOk Try.prog rBegin_cs) (h : rBegin_vc) : Told Try.prog 49 rBegin_con := told (A := rBegin_la) tabOk mixed hc Try.func49 (by kernel_rfl) (by kernel_rfl) h
def last_vc : Prop :=
  ∀ (x : Win) (x_1 x_2 : Int), ((!right x) = false → (decide (x_1 < (0 : Int)) = false → (decide (x_2 < (0 : Int)) = false → (decide (wrap (x_2 - x_1) < x.lo) = true → (0 : Int) = (last_ x x_1 x_2).fst ∧ false = (last_ x x_1 x_2).snd) ∧
  (decide (wrap (x_2 - x_1) < x.lo) = false → min x.hi (wrap (x_2 - x_1)) = (last_ x x_1 x_2).fst ∧ true = (last_ x x_1 x_2).snd)) ∧ (decide (x_2 < (0 : Int)) = !false → (0 : Int) = (last_ x x_1 x_2).fst ∧ false = (last_ x x_1 x_2).snd)) ∧
  (decide (x_1 < (0 : Int)) = !false → (0 : Int) = (last_ x x_1 x_2).fst ∧ false = (last_ x x_1 x_2).snd)) ∧ ((!right x) = !false → (0 : Int) = (last_ x x_1 x_2).fst ∧ false = (last_ x x_1 x_2).snd)
theorem last_told (hc : CsOk Try.prog last_cs) (h : last_vc) : Told Try.prog 28 last_con := told (A := last_la) tabOk mixed hc Try.func28 (by kernel_rfl) (by kernel_rfl) h
def rLast_vc : Prop :=
  ∀ (x : Win) (x_1 x_2 : Int), ((!right x) = false → (decide (x_1 < (0 : Int)) = false → (decide (x_2 < x_1) = true → (0 : Int) = (lastRef x x_1 x_2).fst ∧ false = (lastRef x x_1 x_2).snd) ∧ (decide (x_2 < x_1) = false → (decide (wrap (x_2 -
  x_1) > x.hi) = true → (decide (x.hi < x.lo) = true → (0 : Int) = (lastRef x x_1 x_2).fst ∧ false = (lastRef x x_1 x_2).snd) ∧ (decide (x.hi < x.lo) = false → x.hi = (lastRef x x_1 x_2).fst ∧ true = (lastRef x x_1 x_2).snd)) ∧ (decide (wrap
  (x_2 - x_1) > x.hi) = false → (decide (wrap (x_2 - x_1) < x.lo) = true → (0 : Int) = (lastRef x x_1 x_2).fst ∧ false = (lastRef x x_1 x_2).snd) ∧ (decide (wrap (x_2 - x_1) < x.lo) = false → wrap (x_2 - x_1) = (lastRef x x_1 x_2).fst ∧ true
  = (lastRef x x_1 x_2).snd)))) ∧ (decide (x_1 < (0 : Int)) = !false → (0 : Int) = (lastRef x x_1 x_2).fst ∧ false = (lastRef x x_1 x_2).snd)) ∧ ((!right x) = !false → (0 : Int) = (lastRef x x_1 x_2).fst ∧ false = (lastRef x x_1 x_2).snd)
theorem rLast_told (hc : CsOk Try.prog rLast_cs) (h : rLast_vc) : Told Try.prog 34 rLast_con := told (A := rLast_la) tabOk mixed hc Try.func34 (by kernel_rfl) (by kernel_rfl) h
end Go.Eng
