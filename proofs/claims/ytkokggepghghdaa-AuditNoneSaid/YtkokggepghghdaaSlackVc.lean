/- The conditions of functions, as print.. of the engine told them. -/
import Derived.Test.YtkokggepghghdaaSlack
import Derived.KernelRfl
set_option linter.unusedVariables false
namespace Go.Eng
open Go Go.Proofs
def sput_vc : Prop :=
  ∀ (x : List Stop), LenOk x.length → ∀ (x_2 x_3 x_4 : Int), x.length * (16 : Nat) ≤ (140737488351232 : Nat) → (decide (x_3 < (0 : Int)) = false → (decide (x_4 < x_3) = false → (decide (x_4 > (↑x.length : Int)) = true → putS x x_2 x_3 x_4 =
  nilOf Stop) ∧ (decide (x_4 > (↑x.length : Int)) = false → ((0 : Int) ≤ (0 : Int) ∧ (0 : Int) ≤ wrap ((↑x.length : Int) + (2 : Int)) ∧ wrap ((↑x.length : Int) + (2 : Int)) * ((8 : Int) * (↑(2 : Nat) : Int)) ≤ (281474976710656 : Int)) ∧ ((0 :
  Int) ≤ (0 : Int) ∧ (0 : Int) ≤ x_3 ∧ x_3 ≤ (↑x.length : Int)) ∧ ((Int.toNat (0 : Int) + (x_3.toNat - Int.toNat (0 : Int))).le x.length ∧ ((List.replicate (Int.toNat (0 : Int)) FK.stop.zero).length + (part x (Int.toNat (0 : Int)) (x_3.toNat
  - Int.toNat (0 : Int))).length) * ((8 : Nat) * (2 : Nat)) ≤ (140737488355328 : Nat)) ∧ (True ∧ ((List.replicate (Int.toNat (0 : Int)) FK.stop.zero ++ part x (Int.toNat (0 : Int)) (x_3.toNat - Int.toNat (0 : Int))).length + [Stop.mk x_2
  false].length) * ((8 : Nat) * (2 : Nat)) ≤ (140737488355328 : Nat)) ∧ ((0 : Int) ≤ x_3 ∧ x_3 ≤ x_4 ∧ x_4 ≤ (↑x.length : Int)) ∧ ((x_3.toNat + (x_4.toNat - x_3.toNat)).le x.length ∧ ((List.replicate (Int.toNat (0 : Int)) FK.stop.zero ++ part
  x (Int.toNat (0 : Int)) (x_3.toNat - Int.toNat (0 : Int)) ++ [Stop.mk x_2 false]).length + (part x x_3.toNat (x_4.toNat - x_3.toNat)).length) * ((8 : Nat) * (2 : Nat)) ≤ (140737488355328 : Nat)) ∧ (True ∧ ((List.replicate (Int.toNat (0 :
  Int)) FK.stop.zero ++ part x (Int.toNat (0 : Int)) (x_3.toNat - Int.toNat (0 : Int)) ++ [Stop.mk x_2 false] ++ part x x_3.toNat (x_4.toNat - x_3.toNat)).length + [Stop.mk x_2 true].length) * ((8 : Nat) * (2 : Nat)) ≤ (140737488355328 :
  Nat)) ∧ ((0 : Int) ≤ x_4 ∧ x_4 ≤ (↑x.length : Int) ∧ (↑x.length : Int) ≤ (↑x.length : Int)) ∧ ((x_4.toNat + ((↑x.length : Int).toNat - x_4.toNat)).le x.length ∧ ((List.replicate (Int.toNat (0 : Int)) FK.stop.zero ++ part x (Int.toNat (0 :
  Int)) (x_3.toNat - Int.toNat (0 : Int)) ++ [Stop.mk x_2 false] ++ part x x_3.toNat (x_4.toNat - x_3.toNat) ++ [Stop.mk x_2 true]).length + (part x x_4.toNat ((↑x.length : Int).toNat - x_4.toNat)).length) * ((8 : Nat) * (2 : Nat)) ≤
  (140737488355328 : Nat)) ∧ List.replicate (Int.toNat (0 : Int)) FK.stop.zero ++ part x (Int.toNat (0 : Int)) (x_3.toNat - Int.toNat (0 : Int)) ++ [Stop.mk x_2 false] ++ part x x_3.toNat (x_4.toNat - x_3.toNat) ++ [Stop.mk x_2 true] ++ part
  x x_4.toNat ((↑x.length : Int).toNat - x_4.toNat) = putS x x_2 x_3 x_4)) ∧ (decide (x_4 < x_3) = !false → putS x x_2 x_3 x_4 = nilOf Stop)) ∧ (decide (x_3 < (0 : Int)) = !false → putS x x_2 x_3 x_4 = nilOf Stop)
theorem sput_told (hc : CsOk Try.prog sput_cs) (h : sput_vc) : Told Try.prog 52 sput_con := told (A := sput_la) tabOk mixed hc Try.func52 (by kernel_rfl) (by kernel_rfl) h
end Go.Eng
