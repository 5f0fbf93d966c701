/- The conditions of functions, as print.. of the engine told them. -/
import Derived.Test.YtidneanbjijjjaaSpan
import Derived.KernelRfl
set_option linter.unusedVariables false
namespace Go.Eng
open Go Go.Proofs
def rRight_vc : Prop :=
  ∀ (x : Win),
    (decide (x.lo ≥ (0 : Int)) = true →
        (decide (x.lo ≤ x.hi) = true → decide (x.hi ≤ (1000000 : Int)) = right x) ∧
          (decide (x.lo ≤ x.hi) = !true → false = right x)) ∧
      (decide (x.lo ≥ (0 : Int)) = !true → false = right x)
theorem rRight_told (hc : CsOk Try.prog rRight_cs) (h : rRight_vc) : Told Try.prog 26 rRight_con := told (A := rRight_la) tabOk mixed hc Try.func26 (by kernel_rfl) (by kernel_rfl) h
def rHas_vc : Prop :=
  ∀ (x : Win) (x_1 : Int),
    (right x = true →
        (decide (x_1 ≥ x.lo) = true → decide (x_1 ≤ x.hi) = has x x_1) ∧
          (decide (x_1 ≥ x.lo) = !true → false = has x x_1)) ∧
      (right x = !true → false = has x x_1)
theorem rHas_told (hc : CsOk Try.prog rHas_cs) (h : rHas_vc) : Told Try.prog 28 rHas_con := told (A := rHas_la) tabOk mixed hc Try.func28 (by kernel_rfl) (by kernel_rfl) h
def rBegin_vc : Prop :=
  ∀ (x : Win) (x_1 : Int),
    ((!right x) = false →
        (decide (x_1 > x.hi) = true → (0 : Int) = (begin_ x x_1).fst ∧ false = (begin_ x x_1).snd) ∧
          (decide (x_1 > x.hi) = false →
            (decide (x_1 < x.lo) = true → x.lo = (begin_ x x_1).fst ∧ true = (begin_ x x_1).snd) ∧
              (decide (x_1 < x.lo) = false → x_1 = (begin_ x x_1).fst ∧ true = (begin_ x x_1).snd))) ∧
      ((!right x) = !false → (0 : Int) = (begin_ x x_1).fst ∧ false = (begin_ x x_1).snd)
theorem rBegin_told (hc : CsOk Try.prog rBegin_cs) (h : rBegin_vc) : Told Try.prog 22 rBegin_con := told (A := rBegin_la) tabOk mixed hc Try.func22 (by kernel_rfl) (by kernel_rfl) h
def rLast_vc : Prop :=
  ∀ (x : Win) (x_1 x_2 : Int),
    ((!right x) = false →
        (decide (x_1 < (0 : Int)) = false →
            (decide (x_2 < x_1) = true → (0 : Int) = (lastRef x x_1 x_2).fst ∧ false = (lastRef x x_1 x_2).snd) ∧
              (decide (x_2 < x_1) = false →
                (decide (wrap (x_2 - x_1) > x.hi) = true →
                    (decide (x.hi < x.lo) = true →
                        (0 : Int) = (lastRef x x_1 x_2).fst ∧ false = (lastRef x x_1 x_2).snd) ∧
                      (decide (x.hi < x.lo) = false → x.hi = (lastRef x x_1 x_2).fst ∧ true = (lastRef x x_1 x_2).snd)) ∧
                  (decide (wrap (x_2 - x_1) > x.hi) = false →
                    (decide (wrap (x_2 - x_1) < x.lo) = true →
                        (0 : Int) = (lastRef x x_1 x_2).fst ∧ false = (lastRef x x_1 x_2).snd) ∧
                      (decide (wrap (x_2 - x_1) < x.lo) = false →
                        wrap (x_2 - x_1) = (lastRef x x_1 x_2).fst ∧ true = (lastRef x x_1 x_2).snd)))) ∧
          (decide (x_1 < (0 : Int)) = !false → (0 : Int) = (lastRef x x_1 x_2).fst ∧ false = (lastRef x x_1 x_2).snd)) ∧
      ((!right x) = !false → (0 : Int) = (lastRef x x_1 x_2).fst ∧ false = (lastRef x x_1 x_2).snd)
theorem rLast_told (hc : CsOk Try.prog rLast_cs) (h : rLast_vc) : Told Try.prog 24 rLast_con := told (A := rLast_la) tabOk mixed hc Try.func24 (by kernel_rfl) (by kernel_rfl) h
def rMeet_vc : Prop :=
  ∀ (x : List Win),
    LenOk x.length →
      ∃ (inv : Int → Int → Int → Prop),
        ∃ (μ : Int → Int → Int → Nat),
          (((0 : Int) = (0 : Int) ∧
                (((0 : Int) = (0 : Int) ∧ (0 : Int) = (0 : Int)) ∧
                    (0 : Int) = (0 : Int) ∧ (1000000 : Int) = (1000000 : Int)) ∧
                  x = x) ∧
              inv (0 : Int) (0 : Int) (1000000 : Int)) ∧
            ∀ (x_2 x_3 x_4 : Int),
              inv x_2 x_3 x_4 →
                (decide (x_2 < (↑x.length : Int)) = true →
                    ((0 : Int) ≤ x_2 ∧ x_2 < (↑x.length : Int)) ∧
                      x_2.toNat < x.length ∧
                        ((!right (x.getD x_2.toNat (Win.mk (0 : Int) (0 : Int)))) = true →
                            ((0 : Int) = (meetW x).lo ∧ (0 : Int) = (meetW x).hi) ∧ false = (meet x).isSome) ∧
                          ((!right (x.getD x_2.toNat (Win.mk (0 : Int) (0 : Int)))) = false →
                            ((0 : Int) ≤ x_2 ∧ x_2 < (↑x.length : Int)) ∧
                              x_2.toNat < x.length ∧
                                (decide ((x.getD x_2.toNat (Win.mk (0 : Int) (0 : Int))).lo > x_3) = true →
                                    ((0 : Int) ≤ x_2 ∧ x_2 < (↑x.length : Int)) ∧
                                      x_2.toNat < x.length ∧
                                        ((0 : Int) ≤ x_2 ∧ x_2 < (↑x.length : Int)) ∧
                                          x_2.toNat < x.length ∧
                                            (decide ((x.getD x_2.toNat (Win.mk (0 : Int) (0 : Int))).hi < x_4) = true →
                                                ((0 : Int) ≤ x_2 ∧ x_2 < (↑x.length : Int)) ∧
                                                  x_2.toNat < x.length ∧
                                                    (wrap (x_2 + (1 : Int)) = wrap (x_2 + (1 : Int)) ∧
                                                        (((0 : Int) = (0 : Int) ∧ (0 : Int) = (0 : Int)) ∧
                                                            (x.getD x_2.toNat (Win.mk (0 : Int) (0 : Int))).lo =
                                                                (x.getD x_2.toNat (Win.mk (0 : Int) (0 : Int))).lo ∧
                                                              (x.getD x_2.toNat (Win.mk (0 : Int) (0 : Int))).hi =
                                                                (x.getD x_2.toNat (Win.mk (0 : Int) (0 : Int))).hi) ∧
                                                          x = x) ∧
                                                      inv (wrap (x_2 + (1 : Int)))
                                                          (x.getD x_2.toNat (Win.mk (0 : Int) (0 : Int))).lo
                                                          (x.getD x_2.toNat (Win.mk (0 : Int) (0 : Int))).hi ∧
                                                        μ (wrap (x_2 + (1 : Int)))
                                                            (x.getD x_2.toNat (Win.mk (0 : Int) (0 : Int))).lo
                                                            (x.getD x_2.toNat (Win.mk (0 : Int) (0 : Int))).hi <
                                                          μ x_2 x_3 x_4) ∧
                                              (decide ((x.getD x_2.toNat (Win.mk (0 : Int) (0 : Int))).hi < x_4) = false →
                                                (wrap (x_2 + (1 : Int)) = wrap (x_2 + (1 : Int)) ∧
                                                    (((0 : Int) = (0 : Int) ∧ (0 : Int) = (0 : Int)) ∧
                                                        (x.getD x_2.toNat (Win.mk (0 : Int) (0 : Int))).lo =
                                                            (x.getD x_2.toNat (Win.mk (0 : Int) (0 : Int))).lo ∧
                                                          x_4 = x_4) ∧
                                                      x = x) ∧
                                                  inv (wrap (x_2 + (1 : Int)))
                                                      (x.getD x_2.toNat (Win.mk (0 : Int) (0 : Int))).lo x_4 ∧
                                                    μ (wrap (x_2 + (1 : Int)))
                                                        (x.getD x_2.toNat (Win.mk (0 : Int) (0 : Int))).lo x_4 <
                                                      μ x_2 x_3 x_4)) ∧
                                  (decide ((x.getD x_2.toNat (Win.mk (0 : Int) (0 : Int))).lo > x_3) = false →
                                    ((0 : Int) ≤ x_2 ∧ x_2 < (↑x.length : Int)) ∧
                                      x_2.toNat < x.length ∧
                                        (decide ((x.getD x_2.toNat (Win.mk (0 : Int) (0 : Int))).hi < x_4) = true →
                                            ((0 : Int) ≤ x_2 ∧ x_2 < (↑x.length : Int)) ∧
                                              x_2.toNat < x.length ∧
                                                (wrap (x_2 + (1 : Int)) = wrap (x_2 + (1 : Int)) ∧
                                                    (((0 : Int) = (0 : Int) ∧ (0 : Int) = (0 : Int)) ∧
                                                        x_3 = x_3 ∧
                                                          (x.getD x_2.toNat (Win.mk (0 : Int) (0 : Int))).hi =
                                                            (x.getD x_2.toNat (Win.mk (0 : Int) (0 : Int))).hi) ∧
                                                      x = x) ∧
                                                  inv (wrap (x_2 + (1 : Int))) x_3
                                                      (x.getD x_2.toNat (Win.mk (0 : Int) (0 : Int))).hi ∧
                                                    μ (wrap (x_2 + (1 : Int))) x_3
                                                        (x.getD x_2.toNat (Win.mk (0 : Int) (0 : Int))).hi <
                                                      μ x_2 x_3 x_4) ∧
                                          (decide ((x.getD x_2.toNat (Win.mk (0 : Int) (0 : Int))).hi < x_4) = false →
                                            (wrap (x_2 + (1 : Int)) = wrap (x_2 + (1 : Int)) ∧
                                                (((0 : Int) = (0 : Int) ∧ (0 : Int) = (0 : Int)) ∧
                                                    x_3 = x_3 ∧ x_4 = x_4) ∧
                                                  x = x) ∧
                                              inv (wrap (x_2 + (1 : Int))) x_3 x_4 ∧
                                                μ (wrap (x_2 + (1 : Int))) x_3 x_4 < μ x_2 x_3 x_4)))) ∧
                  (decide (x_2 < (↑x.length : Int)) = false →
                    (decide (x_3 > x_4) = true →
                        ((0 : Int) = (meetW x).lo ∧ (0 : Int) = (meetW x).hi) ∧ false = (meet x).isSome) ∧
                      (decide (x_3 > x_4) = false → (x_3 = (meetW x).lo ∧ x_4 = (meetW x).hi) ∧ true = (meet x).isSome))
theorem rMeet_told (hc : CsOk Try.prog rMeet_cs) (h : rMeet_vc) : Told Try.prog 19 rMeet_con := told (A := rMeet_la) tabOk mixed hc Try.func19 (by kernel_rfl) (by kernel_rfl) h
def roomyW_vc : Prop :=
  ∀ (x : List Win),
    LenOk x.length →
      ∀ (x_2 : Win),
        x.length * (16 : Nat) ≤ (140737488351232 : Nat) →
          ((0 : Int) ≤ wrap ((↑x.length : Int) + (80 : Int)) ∧
              wrap ((↑x.length : Int) + (80 : Int)) ≤ wrap ((↑x.length : Int) + (80 : Int)) ∧
                wrap ((↑x.length : Int) + (80 : Int)) * ((8 : Int) * (↑(2 : Nat) : Int)) ≤ (140737488355328 : Int)) ∧
            True ∧
              ∃ (inv : Int → List Win → Prop),
                ∃ (μ : Int → List Win → Nat),
                  (((↑x.length : Int) = (↑x.length : Int) ∧
                        (x_2.lo = x_2.lo ∧ x_2.hi = x_2.hi) ∧
                          List.take
                                (List.replicate (wrap ((↑x.length : Int) + (80 : Int))).toNat
                                    (Win.mk (0 : Int) (0 : Int))).length
                                x ++
                              List.drop x.length
                                (List.replicate (wrap ((↑x.length : Int) + (80 : Int))).toNat
                                  (Win.mk (0 : Int) (0 : Int))) =
                            List.take
                                (List.replicate (wrap ((↑x.length : Int) + (80 : Int))).toNat
                                    (Win.mk (0 : Int) (0 : Int))).length
                                x ++
                              List.drop x.length
                                (List.replicate (wrap ((↑x.length : Int) + (80 : Int))).toNat
                                  (Win.mk (0 : Int) (0 : Int)))) ∧
                      inv (↑x.length : Int)
                        (List.take
                            (List.replicate (wrap ((↑x.length : Int) + (80 : Int))).toNat
                                (Win.mk (0 : Int) (0 : Int))).length
                            x ++
                          List.drop x.length
                            (List.replicate (wrap ((↑x.length : Int) + (80 : Int))).toNat
                              (Win.mk (0 : Int) (0 : Int))))) ∧
                    ∀ (x_4 : Int) (x_5 : List Win),
                      inv x_4 x_5 →
                        (decide (x_4 < (↑x_5.length : Int)) = true →
                            ((0 : Int) ≤ x_4 ∧ x_4 < (↑x_5.length : Int)) ∧
                              x_4.toNat < x_5.length ∧
                                (wrap (x_4 + (1 : Int)) = wrap (x_4 + (1 : Int)) ∧
                                    (x_2.lo = x_2.lo ∧ x_2.hi = x_2.hi) ∧ x_5.set x_4.toNat x_2 = x_5.set x_4.toNat x_2) ∧
                                  inv (wrap (x_4 + (1 : Int))) (x_5.set x_4.toNat x_2) ∧
                                    μ (wrap (x_4 + (1 : Int))) (x_5.set x_4.toNat x_2) < μ x_4 x_5) ∧
                          (decide (x_4 < (↑x_5.length : Int)) = false → x_5 = roomy x x_2)
theorem roomyW_told (hc : CsOk Try.prog roomyW_cs) (h : roomyW_vc) : Told Try.prog 18 roomyW_con := told (A := roomyW_la) tabOk mixed hc Try.func18 (by kernel_rfl) (by kernel_rfl) h
def sameW_vc : Prop :=
  ∀ (x : List Win),
    LenOk x.length →
      ∀ (x_2 : List Win),
        LenOk x_2.length →
          ((!decide ((↑x.length : Int) = (↑x_2.length : Int))) = true → false = same x x_2) ∧
            ((!decide ((↑x.length : Int) = (↑x_2.length : Int))) = false →
              ∃ (inv : Int → Prop),
                ∃ (μ : Int → Nat),
                  (((0 : Int) = (0 : Int) ∧ x_2 = x_2 ∧ x = x) ∧ inv (0 : Int)) ∧
                    ∀ (x_5 : Int),
                      inv x_5 →
                        (decide (x_5 < (↑x.length : Int)) = true →
                            ((0 : Int) ≤ x_5 ∧ x_5 < (↑x.length : Int)) ∧
                              x_5.toNat < x.length ∧
                                ((0 : Int) ≤ x_5 ∧ x_5 < (↑x_2.length : Int)) ∧
                                  x_5.toNat < x_2.length ∧
                                    ((!(decide
                                                ((x.getD x_5.toNat (Win.mk (0 : Int) (0 : Int))).lo =
                                                  (x_2.getD x_5.toNat (Win.mk (0 : Int) (0 : Int))).lo) &&
                                              (decide
                                                  ((x.getD x_5.toNat (Win.mk (0 : Int) (0 : Int))).hi =
                                                    (x_2.getD x_5.toNat (Win.mk (0 : Int) (0 : Int))).hi) &&
                                                true))) =
                                          true →
                                        false = same x x_2) ∧
                                      ((!(decide
                                                ((x.getD x_5.toNat (Win.mk (0 : Int) (0 : Int))).lo =
                                                  (x_2.getD x_5.toNat (Win.mk (0 : Int) (0 : Int))).lo) &&
                                              (decide
                                                  ((x.getD x_5.toNat (Win.mk (0 : Int) (0 : Int))).hi =
                                                    (x_2.getD x_5.toNat (Win.mk (0 : Int) (0 : Int))).hi) &&
                                                true))) =
                                          false →
                                        (wrap (x_5 + (1 : Int)) = wrap (x_5 + (1 : Int)) ∧ x_2 = x_2 ∧ x = x) ∧
                                          inv (wrap (x_5 + (1 : Int))) ∧ μ (wrap (x_5 + (1 : Int))) < μ x_5)) ∧
                          (decide (x_5 < (↑x.length : Int)) = false → true = same x x_2))
theorem sameW_told (hc : CsOk Try.prog sameW_cs) (h : sameW_vc) : Told Try.prog 48 sameW_con := told (A := sameW_la) tabOk mixed hc Try.func48 (by kernel_rfl) (by kernel_rfl) h
def intactW_vc : Prop :=
  ∀ (x : List Win),
    LenOk x.length →
      ∀ (x_2 : List Win),
        LenOk x_2.length →
          ∀ (x_4 : Win),
            ((!decide ((↑x.length : Int) = wrap ((↑x_2.length : Int) + (80 : Int)))) = false →
                ((0 : Int) ≤ (0 : Int) ∧ (0 : Int) ≤ (↑x_2.length : Int) ∧ (↑x_2.length : Int) ≤ (↑x.length : Int)) ∧
                  Int.toNat (0 : Int) + ((↑x_2.length : Int).toNat - Int.toNat (0 : Int)) ≤ x.length ∧
                    ((!same (part x (Int.toNat (0 : Int)) ((↑x_2.length : Int).toNat - Int.toNat (0 : Int))) x_2) = true →
                        false = same x (roomy x_2 x_4)) ∧
                      ((!same (part x (Int.toNat (0 : Int)) ((↑x_2.length : Int).toNat - Int.toNat (0 : Int))) x_2) =
                          false →
                        ∃ (inv : Int → Prop),
                          ∃ (μ : Int → Nat),
                            (((↑x_2.length : Int) = (↑x_2.length : Int) ∧ (x_4.lo = x_4.lo ∧ x_4.hi = x_4.hi) ∧ x = x) ∧
                                inv (↑x_2.length : Int)) ∧
                              ∀ (x_7 : Int),
                                inv x_7 →
                                  (decide (x_7 < (↑x.length : Int)) = true →
                                      ((0 : Int) ≤ x_7 ∧ x_7 < (↑x.length : Int)) ∧
                                        x_7.toNat < x.length ∧
                                          ((!(decide ((x.getD x_7.toNat (Win.mk (0 : Int) (0 : Int))).lo = x_4.lo) &&
                                                    (decide
                                                        ((x.getD x_7.toNat (Win.mk (0 : Int) (0 : Int))).hi = x_4.hi) &&
                                                      true))) =
                                                true →
                                              false = same x (roomy x_2 x_4)) ∧
                                            ((!(decide ((x.getD x_7.toNat (Win.mk (0 : Int) (0 : Int))).lo = x_4.lo) &&
                                                    (decide
                                                        ((x.getD x_7.toNat (Win.mk (0 : Int) (0 : Int))).hi = x_4.hi) &&
                                                      true))) =
                                                false →
                                              (wrap (x_7 + (1 : Int)) = wrap (x_7 + (1 : Int)) ∧
                                                  (x_4.lo = x_4.lo ∧ x_4.hi = x_4.hi) ∧ x = x) ∧
                                                inv (wrap (x_7 + (1 : Int))) ∧ μ (wrap (x_7 + (1 : Int))) < μ x_7)) ∧
                                    (decide (x_7 < (↑x.length : Int)) = false → true = same x (roomy x_2 x_4)))) ∧
              ((!decide ((↑x.length : Int) = wrap ((↑x_2.length : Int) + (80 : Int)))) = !false →
                false = same x (roomy x_2 x_4))
theorem intactW_told (hc : CsOk Try.prog intactW_cs) (h : intactW_vc) : Told Try.prog 20 intactW_con := told (A := intactW_la) tabOk mixed hc Try.func20 (by kernel_rfl) (by kernel_rfl) h
end Go.Eng
