/- The conditions of functions, as print.. of the engine told them. -/
import Derived.Test.YtidneanbjijjjaaSpan
import Derived.KernelRfl
set_option linter.unusedVariables false
namespace Go.Eng
open Go Go.Proofs
def spanTells_vc : Prop :=
  ∀ (x : Win) (x_1 x_2 x_3 : Int),
    Given (pW x ∧ pI x_1 ∧ pI x_2 ∧ pI x_3) →
      ((right x == right x) = true →
          ((has x x_1 == has x x_1) = true →
              (decide ((begin_ x x_1).fst = (begin_ x x_1).fst) = true →
                  (((begin_ x x_1).snd == (begin_ x x_1).snd) = true →
                      (decide ((last_ x x_2 x_3).fst = (lastRef x x_2 x_3).fst) = true →
                          (((last_ x x_2 x_3).snd == (lastRef x x_2 x_3).snd) = true → true = true) ∧
                            (((last_ x x_2 x_3).snd == (lastRef x x_2 x_3).snd) = !true → false = true)) ∧
                        (decide ((last_ x x_2 x_3).fst = (lastRef x x_2 x_3).fst) = !true → false = true)) ∧
                    (((begin_ x x_1).snd == (begin_ x x_1).snd) = !true → false = true)) ∧
                (decide ((begin_ x x_1).fst = (begin_ x x_1).fst) = !true → false = true)) ∧
            ((has x x_1 == has x x_1) = !true → false = true)) ∧
        ((right x == right x) = !true → false = true)
theorem spanTells_told (hc : CsOk Try.prog spanTells_cs) (h : spanTells_vc) : Told Try.prog 5 spanTells_con := told (A := spanTells_la) tabOk mixed hc Try.func5 (by kernel_rfl) (by kernel_rfl) h
def spanMeets_vc : Prop :=
  ∀ (x : List Win),
    LenOk x.length →
      Given (pL (K.f FK.win) x ∧ x.length * (16 : Nat) ≤ (140737488351232 : Nat)) →
        x.length * (16 : Nat) ≤ (140737488351232 : Nat) ∧
          ((0 : Int) ≤ (0 : Int) ∧
              (0 : Int) ≤ (↑x.length : Int) ∧
                (↑x.length : Int) ≤ (↑(roomy x (Win.mk (-3 : Int) (-4 : Int))).length : Int)) ∧
            Int.toNat (0 : Int) + ((↑x.length : Int).toNat - Int.toNat (0 : Int)) ≤
                (roomy x (Win.mk (-3 : Int) (-4 : Int))).length ∧
              ((decide
                        ((meetW
                              (part (roomy x (Win.mk (-3 : Int) (-4 : Int))) (Int.toNat (0 : Int))
                                ((↑x.length : Int).toNat - Int.toNat (0 : Int)))).lo =
                          (meetW x).lo) &&
                      (decide
                          ((meetW
                                (part (roomy x (Win.mk (-3 : Int) (-4 : Int))) (Int.toNat (0 : Int))
                                  ((↑x.length : Int).toNat - Int.toNat (0 : Int)))).hi =
                            (meetW x).hi) &&
                        true)) =
                    true →
                  (((meet
                              (part (roomy x (Win.mk (-3 : Int) (-4 : Int))) (Int.toNat (0 : Int))
                                ((↑x.length : Int).toNat - Int.toNat (0 : Int)))).isSome ==
                          (meet x).isSome) =
                        true →
                      (same (roomy x (Win.mk (-3 : Int) (-4 : Int))) (roomy x (Win.mk (-3 : Int) (-4 : Int))) = true →
                          true = true) ∧
                        (same (roomy x (Win.mk (-3 : Int) (-4 : Int))) (roomy x (Win.mk (-3 : Int) (-4 : Int))) = !true →
                          false = true)) ∧
                    (((meet
                              (part (roomy x (Win.mk (-3 : Int) (-4 : Int))) (Int.toNat (0 : Int))
                                ((↑x.length : Int).toNat - Int.toNat (0 : Int)))).isSome ==
                          (meet x).isSome) =
                        !true →
                      false = true)) ∧
                ((decide
                        ((meetW
                              (part (roomy x (Win.mk (-3 : Int) (-4 : Int))) (Int.toNat (0 : Int))
                                ((↑x.length : Int).toNat - Int.toNat (0 : Int)))).lo =
                          (meetW x).lo) &&
                      (decide
                          ((meetW
                                (part (roomy x (Win.mk (-3 : Int) (-4 : Int))) (Int.toNat (0 : Int))
                                  ((↑x.length : Int).toNat - Int.toNat (0 : Int)))).hi =
                            (meetW x).hi) &&
                        true)) =
                    !true →
                  false = true)
theorem spanMeets_told (hc : CsOk Try.prog spanMeets_cs) (h : spanMeets_vc) : Told Try.prog 4 spanMeets_con := told (A := spanMeets_la) tabOk mixed hc Try.func4 (by kernel_rfl) (by kernel_rfl) h
def spanEarly_vc : Prop :=
  ∀ (x : Win) (x_1 x_2 : Int),
    Given (pW x ∧ pI x_1 ∧ pI x_2) →
      ((!(begin_ x x_1).snd) = true →
          (decide ((begin_ x x_1).fst = (0 : Int)) = true →
              ((!right x) = false →
                  (decide (x_1 > x.hi) = true → true = true) ∧ (decide (x_1 > x.hi) = !true → false = true)) ∧
                ((!right x) = !false → true = true)) ∧
            (decide ((begin_ x x_1).fst = (0 : Int)) = !true → false = true)) ∧
        ((!(begin_ x x_1).snd) = false →
          ((!has x (begin_ x x_1).fst) = false →
              (decide ((begin_ x x_1).fst < x_1) = false →
                  ((!decide ((begin_ x x_1).fst = x_1)) = true →
                      ((!decide ((begin_ x x_1).fst = x.lo)) = true → false = true) ∧
                        ((!decide ((begin_ x x_1).fst = x.lo)) = false →
                          ((begin_ x x_2).snd = true →
                              (decide (x_2 ≥ x_1) = true →
                                  (decide ((begin_ x x_2).fst < (begin_ x x_1).fst) = true → false = true) ∧
                                    (decide ((begin_ x x_2).fst < (begin_ x x_1).fst) = false →
                                      (((begin_ x x_2).snd == decide (x_2 ≤ x.hi)) = true → true = true) ∧
                                        (((begin_ x x_2).snd == decide (x_2 ≤ x.hi)) = !true → false = true))) ∧
                                (decide (x_2 ≥ x_1) = !true →
                                  (((begin_ x x_2).snd == decide (x_2 ≤ x.hi)) = true → true = true) ∧
                                    (((begin_ x x_2).snd == decide (x_2 ≤ x.hi)) = !true → false = true))) ∧
                            ((begin_ x x_2).snd = !true →
                              (((begin_ x x_2).snd == decide (x_2 ≤ x.hi)) = true → true = true) ∧
                                (((begin_ x x_2).snd == decide (x_2 ≤ x.hi)) = !true → false = true)))) ∧
                    ((!decide ((begin_ x x_1).fst = x_1)) = !true →
                      ((begin_ x x_2).snd = true →
                          (decide (x_2 ≥ x_1) = true →
                              (decide ((begin_ x x_2).fst < (begin_ x x_1).fst) = true → false = true) ∧
                                (decide ((begin_ x x_2).fst < (begin_ x x_1).fst) = false →
                                  (((begin_ x x_2).snd == decide (x_2 ≤ x.hi)) = true → true = true) ∧
                                    (((begin_ x x_2).snd == decide (x_2 ≤ x.hi)) = !true → false = true))) ∧
                            (decide (x_2 ≥ x_1) = !true →
                              (((begin_ x x_2).snd == decide (x_2 ≤ x.hi)) = true → true = true) ∧
                                (((begin_ x x_2).snd == decide (x_2 ≤ x.hi)) = !true → false = true))) ∧
                        ((begin_ x x_2).snd = !true →
                          (((begin_ x x_2).snd == decide (x_2 ≤ x.hi)) = true → true = true) ∧
                            (((begin_ x x_2).snd == decide (x_2 ≤ x.hi)) = !true → false = true)))) ∧
                (decide ((begin_ x x_1).fst < x_1) = !false → false = true)) ∧
            ((!has x (begin_ x x_1).fst) = !false → false = true))
theorem spanEarly_told (hc : CsOk Try.prog spanEarly_cs) (h : spanEarly_vc) : Told Try.prog 7 spanEarly_con := told (A := spanEarly_la) tabOk mixed hc Try.func7 (by kernel_rfl) (by kernel_rfl) h
def spanLate_vc : Prop :=
  ∀ (x : Win) (x_1 x_2 : Int),
    Given (pW x ∧ pI x_1 ∧ pI x_2) →
      ((!(last_ x x_1 x_2).snd) = true →
          ((!decide ((last_ x x_1 x_2).fst = (0 : Int))) = true → false = true) ∧
            ((!decide ((last_ x x_1 x_2).fst = (0 : Int))) = false →
              ((!right x) = false →
                  (decide (x_1 < (0 : Int)) = false →
                      (decide (x_1 > (1000000 : Int)) = true → true = true) ∧
                        (decide (x_1 > (1000000 : Int)) = false →
                          (decide (wrap (x.lo + x_1) > x_2) = true → true = true) ∧
                            (decide (wrap (x.lo + x_1) > x_2) = !true → false = true))) ∧
                    (decide (x_1 < (0 : Int)) = !false → true = true)) ∧
                ((!right x) = !false → true = true))) ∧
        ((!(last_ x x_1 x_2).snd) = false →
          ((!has x (last_ x x_1 x_2).fst) = false →
              (decide (x_1 < (0 : Int)) = false →
                  (decide (x_2 < x_1) = false →
                      (decide ((last_ x x_1 x_2).fst > wrap (x_2 - x_1)) = true → false = true) ∧
                        (decide ((last_ x x_1 x_2).fst > wrap (x_2 - x_1)) = false →
                          ((!has x (wrap ((last_ x x_1 x_2).fst + (1 : Int)))) = false →
                              (decide (wrap ((last_ x x_1 x_2).fst + (1 : Int)) > wrap (x_2 - x_1)) = true →
                                  true = true) ∧
                                (decide (wrap ((last_ x x_1 x_2).fst + (1 : Int)) > wrap (x_2 - x_1)) = !true →
                                  false = true)) ∧
                            ((!has x (wrap ((last_ x x_1 x_2).fst + (1 : Int)))) = !false → true = true))) ∧
                    (decide (x_2 < x_1) = !false → false = true)) ∧
                (decide (x_1 < (0 : Int)) = !false → false = true)) ∧
            ((!has x (last_ x x_1 x_2).fst) = !false → false = true))
theorem spanLate_told (hc : CsOk Try.prog spanLate_cs) (h : spanLate_vc) : Told Try.prog 8 spanLate_con := told (A := spanLate_la) tabOk mixed hc Try.func8 (by kernel_rfl) (by kernel_rfl) h
def spanMembers_vc : Prop :=
  ∀ (x : List Win),
    LenOk x.length →
      ∀ (x_2 : Int),
        Given (pL (K.f FK.win) x ∧ pI x_2 ∧ x.length * (16 : Nat) ≤ (140737488351232 : Nat)) →
          (decide (x_2 ≥ (0 : Int)) = true →
              ∃ (inv : Bool → Bool → Int → Prop),
                ∃ (μ : Bool → Bool → Int → Nat),
                  (((x_2 = x_2 ∧
                          decide (x_2 ≤ (1000000 : Int)) = decide (x_2 ≤ (1000000 : Int)) ∧
                            true = true ∧ (0 : Int) = (0 : Int)) ∧
                        x = x) ∧
                      inv (decide (x_2 ≤ (1000000 : Int))) true (0 : Int)) ∧
                    ∀ (x_5 x_6 : Bool) (x_7 : Int),
                      inv x_5 x_6 x_7 →
                        (decide (x_7 < (↑x.length : Int)) = true →
                            (x_6 = true →
                                ((0 : Int) ≤ x_7 ∧ x_7 < (↑x.length : Int)) ∧
                                  x_7.toNat < x.length ∧
                                    (x_5 = true →
                                        ((0 : Int) ≤ x_7 ∧ x_7 < (↑x.length : Int)) ∧
                                          x_7.toNat < x.length ∧
                                            ((x_2 = x_2 ∧
                                                  has (x.getD x_7.toNat (Win.mk (0 : Int) (0 : Int))) x_2 =
                                                      has (x.getD x_7.toNat (Win.mk (0 : Int) (0 : Int))) x_2 ∧
                                                    right (x.getD x_7.toNat (Win.mk (0 : Int) (0 : Int))) =
                                                        right (x.getD x_7.toNat (Win.mk (0 : Int) (0 : Int))) ∧
                                                      wrap (x_7 + (1 : Int)) = wrap (x_7 + (1 : Int))) ∧
                                                x = x) ∧
                                              inv (has (x.getD x_7.toNat (Win.mk (0 : Int) (0 : Int))) x_2)
                                                  (right (x.getD x_7.toNat (Win.mk (0 : Int) (0 : Int))))
                                                  (wrap (x_7 + (1 : Int))) ∧
                                                μ (has (x.getD x_7.toNat (Win.mk (0 : Int) (0 : Int))) x_2)
                                                    (right (x.getD x_7.toNat (Win.mk (0 : Int) (0 : Int))))
                                                    (wrap (x_7 + (1 : Int))) <
                                                  μ x_5 x_6 x_7) ∧
                                      (x_5 = !true →
                                        ((x_2 = x_2 ∧
                                              false = false ∧
                                                right (x.getD x_7.toNat (Win.mk (0 : Int) (0 : Int))) =
                                                    right (x.getD x_7.toNat (Win.mk (0 : Int) (0 : Int))) ∧
                                                  wrap (x_7 + (1 : Int)) = wrap (x_7 + (1 : Int))) ∧
                                            x = x) ∧
                                          inv false (right (x.getD x_7.toNat (Win.mk (0 : Int) (0 : Int))))
                                              (wrap (x_7 + (1 : Int))) ∧
                                            μ false (right (x.getD x_7.toNat (Win.mk (0 : Int) (0 : Int))))
                                                (wrap (x_7 + (1 : Int))) <
                                              μ x_5 x_6 x_7)) ∧
                              (x_6 = !true →
                                (x_5 = true →
                                    ((0 : Int) ≤ x_7 ∧ x_7 < (↑x.length : Int)) ∧
                                      x_7.toNat < x.length ∧
                                        ((x_2 = x_2 ∧
                                              has (x.getD x_7.toNat (Win.mk (0 : Int) (0 : Int))) x_2 =
                                                  has (x.getD x_7.toNat (Win.mk (0 : Int) (0 : Int))) x_2 ∧
                                                false = false ∧ wrap (x_7 + (1 : Int)) = wrap (x_7 + (1 : Int))) ∧
                                            x = x) ∧
                                          inv (has (x.getD x_7.toNat (Win.mk (0 : Int) (0 : Int))) x_2) false
                                              (wrap (x_7 + (1 : Int))) ∧
                                            μ (has (x.getD x_7.toNat (Win.mk (0 : Int) (0 : Int))) x_2) false
                                                (wrap (x_7 + (1 : Int))) <
                                              μ x_5 x_6 x_7) ∧
                                  (x_5 = !true →
                                    ((x_2 = x_2 ∧
                                          false = false ∧
                                            false = false ∧ wrap (x_7 + (1 : Int)) = wrap (x_7 + (1 : Int))) ∧
                                        x = x) ∧
                                      inv false false (wrap (x_7 + (1 : Int))) ∧
                                        μ false false (wrap (x_7 + (1 : Int))) < μ x_5 x_6 x_7))) ∧
                          (decide (x_7 < (↑x.length : Int)) = false →
                            ((!(meet x).isSome) = true →
                                ((decide ((meetW x).lo = (0 : Int)) && (decide ((meetW x).hi = (0 : Int)) && true)) =
                                      true →
                                    ((!x_6) = false → ((!x_5) = true → true = true) ∧ ((!x_5) = !true → false = true)) ∧
                                      ((!x_6) = !false → true = true)) ∧
                                  ((decide ((meetW x).lo = (0 : Int)) && (decide ((meetW x).hi = (0 : Int)) && true)) =
                                      !true →
                                    false = true)) ∧
                              ((!(meet x).isSome) = false →
                                (x_6 = true →
                                    (right (meetW x) = true →
                                        ((has (meetW x) x_2 == x_5) = true → true = true) ∧
                                          ((has (meetW x) x_2 == x_5) = !true → false = true)) ∧
                                      (right (meetW x) = !true → false = true)) ∧
                                  (x_6 = !true → false = true)))) ∧
            (decide (x_2 ≥ (0 : Int)) = !true →
              ∃ (inv : Bool → Bool → Int → Prop),
                ∃ (μ : Bool → Bool → Int → Nat),
                  (((x_2 = x_2 ∧ false = false ∧ true = true ∧ (0 : Int) = (0 : Int)) ∧ x = x) ∧
                      inv false true (0 : Int)) ∧
                    ∀ (x_5 x_6 : Bool) (x_7 : Int),
                      inv x_5 x_6 x_7 →
                        (decide (x_7 < (↑x.length : Int)) = true →
                            (x_6 = true →
                                ((0 : Int) ≤ x_7 ∧ x_7 < (↑x.length : Int)) ∧
                                  x_7.toNat < x.length ∧
                                    (x_5 = true →
                                        ((0 : Int) ≤ x_7 ∧ x_7 < (↑x.length : Int)) ∧
                                          x_7.toNat < x.length ∧
                                            ((x_2 = x_2 ∧
                                                  has (x.getD x_7.toNat (Win.mk (0 : Int) (0 : Int))) x_2 =
                                                      has (x.getD x_7.toNat (Win.mk (0 : Int) (0 : Int))) x_2 ∧
                                                    right (x.getD x_7.toNat (Win.mk (0 : Int) (0 : Int))) =
                                                        right (x.getD x_7.toNat (Win.mk (0 : Int) (0 : Int))) ∧
                                                      wrap (x_7 + (1 : Int)) = wrap (x_7 + (1 : Int))) ∧
                                                x = x) ∧
                                              inv (has (x.getD x_7.toNat (Win.mk (0 : Int) (0 : Int))) x_2)
                                                  (right (x.getD x_7.toNat (Win.mk (0 : Int) (0 : Int))))
                                                  (wrap (x_7 + (1 : Int))) ∧
                                                μ (has (x.getD x_7.toNat (Win.mk (0 : Int) (0 : Int))) x_2)
                                                    (right (x.getD x_7.toNat (Win.mk (0 : Int) (0 : Int))))
                                                    (wrap (x_7 + (1 : Int))) <
                                                  μ x_5 x_6 x_7) ∧
                                      (x_5 = !true →
                                        ((x_2 = x_2 ∧
                                              false = false ∧
                                                right (x.getD x_7.toNat (Win.mk (0 : Int) (0 : Int))) =
                                                    right (x.getD x_7.toNat (Win.mk (0 : Int) (0 : Int))) ∧
                                                  wrap (x_7 + (1 : Int)) = wrap (x_7 + (1 : Int))) ∧
                                            x = x) ∧
                                          inv false (right (x.getD x_7.toNat (Win.mk (0 : Int) (0 : Int))))
                                              (wrap (x_7 + (1 : Int))) ∧
                                            μ false (right (x.getD x_7.toNat (Win.mk (0 : Int) (0 : Int))))
                                                (wrap (x_7 + (1 : Int))) <
                                              μ x_5 x_6 x_7)) ∧
                              (x_6 = !true →
                                (x_5 = true →
                                    ((0 : Int) ≤ x_7 ∧ x_7 < (↑x.length : Int)) ∧
                                      x_7.toNat < x.length ∧
                                        ((x_2 = x_2 ∧
                                              has (x.getD x_7.toNat (Win.mk (0 : Int) (0 : Int))) x_2 =
                                                  has (x.getD x_7.toNat (Win.mk (0 : Int) (0 : Int))) x_2 ∧
                                                false = false ∧ wrap (x_7 + (1 : Int)) = wrap (x_7 + (1 : Int))) ∧
                                            x = x) ∧
                                          inv (has (x.getD x_7.toNat (Win.mk (0 : Int) (0 : Int))) x_2) false
                                              (wrap (x_7 + (1 : Int))) ∧
                                            μ (has (x.getD x_7.toNat (Win.mk (0 : Int) (0 : Int))) x_2) false
                                                (wrap (x_7 + (1 : Int))) <
                                              μ x_5 x_6 x_7) ∧
                                  (x_5 = !true →
                                    ((x_2 = x_2 ∧
                                          false = false ∧
                                            false = false ∧ wrap (x_7 + (1 : Int)) = wrap (x_7 + (1 : Int))) ∧
                                        x = x) ∧
                                      inv false false (wrap (x_7 + (1 : Int))) ∧
                                        μ false false (wrap (x_7 + (1 : Int))) < μ x_5 x_6 x_7))) ∧
                          (decide (x_7 < (↑x.length : Int)) = false →
                            ((!(meet x).isSome) = true →
                                ((decide ((meetW x).lo = (0 : Int)) && (decide ((meetW x).hi = (0 : Int)) && true)) =
                                      true →
                                    ((!x_6) = false → ((!x_5) = true → true = true) ∧ ((!x_5) = !true → false = true)) ∧
                                      ((!x_6) = !false → true = true)) ∧
                                  ((decide ((meetW x).lo = (0 : Int)) && (decide ((meetW x).hi = (0 : Int)) && true)) =
                                      !true →
                                    false = true)) ∧
                              ((!(meet x).isSome) = false →
                                (x_6 = true →
                                    (right (meetW x) = true →
                                        ((has (meetW x) x_2 == x_5) = true → true = true) ∧
                                          ((has (meetW x) x_2 == x_5) = !true → false = true)) ∧
                                      (right (meetW x) = !true → false = true)) ∧
                                  (x_6 = !true → false = true))))
theorem spanMembers_told (hc : CsOk Try.prog spanMembers_cs) (h : spanMembers_vc) : Told Try.prog 6 spanMembers_con := told (A := spanMembers_la) tabOk mixed hc Try.func6 (by kernel_rfl) (by kernel_rfl) h
end Go.Eng
