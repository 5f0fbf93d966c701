/- The conditions of functions, as print.. of the engine told them. -/
import Derived.Test.YtidneanbjijjjaaSpan
import Derived.KernelRfl
set_option linter.unusedVariables false
namespace Go.Eng
open Go Go.Proofs
def right_vc : Prop :=
  ∀ (x : Win),
    (decide (x.lo ≥ (0 : Int)) = true →
        (decide (x.lo ≤ x.hi) = true → decide (x.hi ≤ (1000000 : Int)) = right x) ∧
          (decide (x.lo ≤ x.hi) = !true → false = right x)) ∧
      (decide (x.lo ≥ (0 : Int)) = !true → false = right x)
theorem right_told (hc : CsOk Try.prog right_cs) (h : right_vc) : Told Try.prog 25 right_con := told (A := right_la) tabOk mixed hc Try.func25 (by kernel_rfl) (by kernel_rfl) h
def has_vc : Prop :=
  ∀ (x : Win) (x_1 : Int),
    (right x = true →
        (decide (x_1 ≥ x.lo) = true → decide (x_1 ≤ x.hi) = has x x_1) ∧
          (decide (x_1 ≥ x.lo) = !true → false = has x x_1)) ∧
      (right x = !true → false = has x x_1)
theorem has_told (hc : CsOk Try.prog has_cs) (h : has_vc) : Told Try.prog 27 has_con := told (A := has_la) tabOk mixed hc Try.func27 (by kernel_rfl) (by kernel_rfl) h
def begin_vc : Prop :=
  ∀ (x : Win) (x_1 : Int),
    ((!right x) = false →
        (decide (x_1 > x.hi) = true → (0 : Int) = (begin_ x x_1).fst ∧ false = (begin_ x x_1).snd) ∧
          (decide (x_1 > x.hi) = false → max x_1 x.lo = (begin_ x x_1).fst ∧ true = (begin_ x x_1).snd)) ∧
      ((!right x) = !false → (0 : Int) = (begin_ x x_1).fst ∧ false = (begin_ x x_1).snd)
theorem begin_told (hc : CsOk Try.prog begin_cs) (h : begin_vc) : Told Try.prog 21 begin_con := told (A := begin_la) tabOk mixed hc Try.func21 (by kernel_rfl) (by kernel_rfl) h
def last_vc : Prop :=
  ∀ (x : Win) (x_1 x_2 : Int),
    ((!right x) = false →
        (decide (x_1 < (0 : Int)) = false →
            (decide (x_2 < (0 : Int)) = false →
                (decide (wrap (x_2 - x_1) < x.lo) = true →
                    (0 : Int) = (last_ x x_1 x_2).fst ∧ false = (last_ x x_1 x_2).snd) ∧
                  (decide (wrap (x_2 - x_1) < x.lo) = false →
                    min x.hi (wrap (x_2 - x_1)) = (last_ x x_1 x_2).fst ∧ true = (last_ x x_1 x_2).snd)) ∧
              (decide (x_2 < (0 : Int)) = !false → (0 : Int) = (last_ x x_1 x_2).fst ∧ false = (last_ x x_1 x_2).snd)) ∧
          (decide (x_1 < (0 : Int)) = !false → (0 : Int) = (last_ x x_1 x_2).fst ∧ false = (last_ x x_1 x_2).snd)) ∧
      ((!right x) = !false → (0 : Int) = (last_ x x_1 x_2).fst ∧ false = (last_ x x_1 x_2).snd)
theorem last_told (hc : CsOk Try.prog last_cs) (h : last_vc) : Told Try.prog 23 last_con := told (A := last_la) tabOk mixed hc Try.func23 (by kernel_rfl) (by kernel_rfl) h
def meet_vc : Prop :=
  ∀ (x : List Win),
    LenOk x.length →
      ∃ (inv : Int → Int → Int → Prop),
        ∃ (μ : Int → Int → Int → Nat),
          ((((↑x.length : Int) = (↑x.length : Int) ∧ (0 : Int) = (0 : Int)) ∧
                (((0 : Int) = (0 : Int) ∧ (0 : Int) = (0 : Int)) ∧
                    (0 : Int) = (0 : Int) ∧ (1000000 : Int) = (1000000 : Int)) ∧
                  x = x) ∧
              inv (0 : Int) (0 : Int) (1000000 : Int)) ∧
            ∀ (x_2 x_3 x_4 : Int),
              inv x_2 x_3 x_4 →
                (decide (x_2 < (↑x.length : Int)) = true →
                    ((0 : Int) ≤ x_2 ∧ x_2 < (↑x.length : Int)) ∧
                      x_2.toNat < x.length ∧
                        ((!right (x.getD x_2.toNat (Win.mk (0 : Int) (0 : Int)))) = true →
                            ((0 : Int) = (meetW x).lo ∧ (0 : Int) = (meetW x).hi) ∧ false = (meet x).isSome) ∧
                          ((!right (x.getD x_2.toNat (Win.mk (0 : Int) (0 : Int)))) = false →
                            (((↑x.length : Int) = (↑x.length : Int) ∧ wrap (x_2 + (1 : Int)) = wrap (x_2 + (1 : Int))) ∧
                                (((0 : Int) = (0 : Int) ∧ (0 : Int) = (0 : Int)) ∧
                                    max x_3 (x.getD x_2.toNat (Win.mk (0 : Int) (0 : Int))).lo =
                                        max x_3 (x.getD x_2.toNat (Win.mk (0 : Int) (0 : Int))).lo ∧
                                      min x_4 (x.getD x_2.toNat (Win.mk (0 : Int) (0 : Int))).hi =
                                        min x_4 (x.getD x_2.toNat (Win.mk (0 : Int) (0 : Int))).hi) ∧
                                  x = x) ∧
                              inv (wrap (x_2 + (1 : Int))) (max x_3 (x.getD x_2.toNat (Win.mk (0 : Int) (0 : Int))).lo)
                                  (min x_4 (x.getD x_2.toNat (Win.mk (0 : Int) (0 : Int))).hi) ∧
                                μ (wrap (x_2 + (1 : Int))) (max x_3 (x.getD x_2.toNat (Win.mk (0 : Int) (0 : Int))).lo)
                                    (min x_4 (x.getD x_2.toNat (Win.mk (0 : Int) (0 : Int))).hi) <
                                  μ x_2 x_3 x_4)) ∧
                  (decide (x_2 < (↑x.length : Int)) = false →
                    (decide (x_3 > x_4) = true →
                        ((0 : Int) = (meetW x).lo ∧ (0 : Int) = (meetW x).hi) ∧ false = (meet x).isSome) ∧
                      (decide (x_3 > x_4) = false → (x_3 = (meetW x).lo ∧ x_4 = (meetW x).hi) ∧ true = (meet x).isSome))
theorem meet_told (hc : CsOk Try.prog meet_cs) (h : meet_vc) : Told Try.prog 15 meet_con := told (A := meet_la) tabOk mixed hc Try.func15 (by kernel_rfl) (by kernel_rfl) h
def begins_vc : Prop :=
  ∀ (x : Win) (x_1 x_2 : Int) (x_3 : Bool),
    (decide ((begin_ x x_1).fst = x_2) = true → ((begin_ x x_1).snd == x_3) = decide (begin_ x x_1 = (x_2, x_3))) ∧
      (decide ((begin_ x x_1).fst = x_2) = !true → false = decide (begin_ x x_1 = (x_2, x_3)))
theorem begins_told (hc : CsOk Try.prog begins_cs) (h : begins_vc) : Told Try.prog 16 begins_con := told (A := begins_la) tabOk mixed hc Try.func16 (by kernel_rfl) (by kernel_rfl) h
def lasts_vc : Prop :=
  ∀ (x : Win) (x_1 x_2 x_3 : Int) (x_4 : Bool),
    (decide ((last_ x x_1 x_2).fst = x_3) = true →
        ((last_ x x_1 x_2).snd == x_4) = decide (last_ x x_1 x_2 = (x_3, x_4))) ∧
      (decide ((last_ x x_1 x_2).fst = x_3) = !true → false = decide (last_ x x_1 x_2 = (x_3, x_4)))
theorem lasts_told (hc : CsOk Try.prog lasts_cs) (h : lasts_vc) : Told Try.prog 17 lasts_con := told (A := lasts_la) tabOk mixed hc Try.func17 (by kernel_rfl) (by kernel_rfl) h
def spanRuns_vc : Prop :=
  ((!(decide ((meetW []).lo = (0 : Int)) && (decide ((meetW []).hi = (1000000 : Int)) && true))) = false →
      ((!(meet []).isSome) = false →
          ((!(decide ((meetW [Win.mk (3 : Int) (9 : Int), Win.mk (5 : Int) (12 : Int)]).lo = (5 : Int)) &&
                    (decide ((meetW [Win.mk (3 : Int) (9 : Int), Win.mk (5 : Int) (12 : Int)]).hi = (9 : Int)) &&
                      true))) =
                false →
              ((!(meet [Win.mk (3 : Int) (9 : Int), Win.mk (5 : Int) (12 : Int)]).isSome) = false →
                  ((!(decide ((meetW [Win.mk (3 : Int) (4 : Int), Win.mk (5 : Int) (6 : Int)]).lo = (0 : Int)) &&
                            (decide ((meetW [Win.mk (3 : Int) (4 : Int), Win.mk (5 : Int) (6 : Int)]).hi = (0 : Int)) &&
                              true))) =
                        false →
                      ((meet [Win.mk (3 : Int) (4 : Int), Win.mk (5 : Int) (6 : Int)]).isSome = false →
                          ((meet [Win.mk (5 : Int) (3 : Int)]).isSome = true → false = true) ∧
                            ((meet [Win.mk (5 : Int) (3 : Int)]).isSome = false →
                              (decide (begin_ (Win.mk (3 : Int) (9 : Int)) (1 : Int) = ((3 : Int), true)) = true →
                                  (decide (begin_ (Win.mk (3 : Int) (9 : Int)) (5 : Int) = ((5 : Int), true)) = true →
                                      (decide (begin_ (Win.mk (3 : Int) (9 : Int)) (10 : Int) = ((0 : Int), false)) =
                                            true →
                                          (decide
                                                  (begin_ (Win.mk (3 : Int) (9 : Int)) (-9223372036854775808 : Int) =
                                                    ((3 : Int), true)) =
                                                true →
                                              (decide
                                                      (last_ (Win.mk (3 : Int) (9 : Int)) (4 : Int) (20 : Int) =
                                                        ((9 : Int), true)) =
                                                    true →
                                                  (decide
                                                          (last_ (Win.mk (3 : Int) (9 : Int)) (4 : Int) (10 : Int) =
                                                            ((6 : Int), true)) =
                                                        true →
                                                      (decide
                                                              (last_ (Win.mk (3 : Int) (9 : Int)) (4 : Int) (6 : Int) =
                                                                ((0 : Int), false)) =
                                                            true →
                                                          decide
                                                              (last_ (Win.mk (3 : Int) (9 : Int)) (-1 : Int) (20 : Int) =
                                                                ((0 : Int), false)) =
                                                            true) ∧
                                                        (decide
                                                              (last_ (Win.mk (3 : Int) (9 : Int)) (4 : Int) (6 : Int) =
                                                                ((0 : Int), false)) =
                                                            !true →
                                                          false = true)) ∧
                                                    (decide
                                                          (last_ (Win.mk (3 : Int) (9 : Int)) (4 : Int) (10 : Int) =
                                                            ((6 : Int), true)) =
                                                        !true →
                                                      false = true)) ∧
                                                (decide
                                                      (last_ (Win.mk (3 : Int) (9 : Int)) (4 : Int) (20 : Int) =
                                                        ((9 : Int), true)) =
                                                    !true →
                                                  false = true)) ∧
                                            (decide
                                                  (begin_ (Win.mk (3 : Int) (9 : Int)) (-9223372036854775808 : Int) =
                                                    ((3 : Int), true)) =
                                                !true →
                                              false = true)) ∧
                                        (decide (begin_ (Win.mk (3 : Int) (9 : Int)) (10 : Int) = ((0 : Int), false)) =
                                            !true →
                                          false = true)) ∧
                                    (decide (begin_ (Win.mk (3 : Int) (9 : Int)) (5 : Int) = ((5 : Int), true)) = !true →
                                      false = true)) ∧
                                (decide (begin_ (Win.mk (3 : Int) (9 : Int)) (1 : Int) = ((3 : Int), true)) = !true →
                                  false = true))) ∧
                        ((meet [Win.mk (3 : Int) (4 : Int), Win.mk (5 : Int) (6 : Int)]).isSome = !false →
                          false = true)) ∧
                    ((!(decide ((meetW [Win.mk (3 : Int) (4 : Int), Win.mk (5 : Int) (6 : Int)]).lo = (0 : Int)) &&
                            (decide ((meetW [Win.mk (3 : Int) (4 : Int), Win.mk (5 : Int) (6 : Int)]).hi = (0 : Int)) &&
                              true))) =
                        !false →
                      false = true)) ∧
                ((!(meet [Win.mk (3 : Int) (9 : Int), Win.mk (5 : Int) (12 : Int)]).isSome) = !false → false = true)) ∧
            ((!(decide ((meetW [Win.mk (3 : Int) (9 : Int), Win.mk (5 : Int) (12 : Int)]).lo = (5 : Int)) &&
                    (decide ((meetW [Win.mk (3 : Int) (9 : Int), Win.mk (5 : Int) (12 : Int)]).hi = (9 : Int)) &&
                      true))) =
                !false →
              false = true)) ∧
        ((!(meet []).isSome) = !false → false = true)) ∧
    ((!(decide ((meetW []).lo = (0 : Int)) && (decide ((meetW []).hi = (1000000 : Int)) && true))) = !false →
      false = true)
theorem spanRuns_told (hc : CsOk Try.prog spanRuns_cs) (h : spanRuns_vc) : Told Try.prog 3 spanRuns_con := told (A := spanRuns_la) tabOk mixed hc Try.func3 (by kernel_rfl) (by kernel_rfl) h
end Go.Eng
