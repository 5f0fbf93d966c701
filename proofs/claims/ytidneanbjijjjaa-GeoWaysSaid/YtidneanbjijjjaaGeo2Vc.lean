/- The conditions of functions, as print.. of the engine told them. -/
import Derived.Test.YtidneanbjijjjaaGeo2
import Derived.KernelRfl
set_option linter.unusedVariables false
namespace Go.Eng
open Go Go.Proofs
def rClosed_vc : Prop :=
  ∀ (x : MapD), LenOk x.l.length → MapOk x → (True ∧ ((0 : Nat) + x.l.length) * ((8 : Nat) * (1 : Nat)) ≤ (140737488355328 : Nat)) ∧ ∃ (inv : Bool → List Int → Prop), ∃ (μ : Bool → List Int → Nat), ((true = true ∧ (x.n = x.n ∧ x.n = x.n) ∧ []
  ++ x.l = [] ++ x.l ∧ x.l = x.l) ∧ inv true ([] ++ x.l)) ∧ ∀ (x_3 : Bool) (x_4 : List Int), inv x_3 x_4 → (x_3 = true → ∃ (inv_1 : Bool → Int → List Int → Prop), ∃ (μ_1 : Bool → Int → List Int → Nat), (((false = false ∧ (0 : Int) = (0 :
  Int)) ∧ (x.n = x.n ∧ x.n = x.n) ∧ x_4 = x_4 ∧ x.l = x.l) ∧ inv_1 false (0 : Int) x_4) ∧ ∀ (x_7 : Bool) (x_8 : Int) (x_9 : List Int), inv_1 x_7 x_8 x_9 → (decide (x_8 < x.n) = true → ∃ (inv : Bool → Int → List Int → Prop), ∃ (μ : Bool → Int
  → List Int → Nat), (((x_7 = x_7 ∧ x_8 = x_8 ∧ (0 : Int) = (0 : Int)) ∧ (x.n = x.n ∧ x.n = x.n) ∧ x_9 = x_9 ∧ x.l = x.l) ∧ inv x_7 (0 : Int) x_9) ∧ ∀ (x_12 : Bool) (x_13 : Int) (x_14 : List Int), inv x_12 x_13 x_14 → (decide (x_13 < x.n) =
  true → ∃ (inv_2 : Bool → Int → List Int → Prop), ∃ (μ_2 : Bool → Int → List Int → Nat), (((x_12 = x_12 ∧ x_8 = x_8 ∧ x_13 = x_13 ∧ (0 : Int) = (0 : Int)) ∧ (x.n = x.n ∧ x.n = x.n) ∧ x_14 = x_14 ∧ x.l = x.l) ∧ inv_2 x_12 (0 : Int) x_14) ∧ ∀
  (x_17 : Bool) (x_18 : Int) (x_19 : List Int), inv_2 x_17 x_18 x_19 → (decide (x_18 < x.n) = true → ((0 : Int) ≤ wrap (wrap (x_8 * x.n) + x_18) ∧ wrap (wrap (x_8 * x.n) + x_18) < (↑x_19.length : Int)) ∧ (wrap (wrap (x_8 * x.n) + x_18)).toNat
  < x_19.length ∧ ((0 : Int) ≤ wrap (wrap (x_18 * x.n) + x_13) ∧ wrap (wrap (x_18 * x.n) + x_13) < (↑x_19.length : Int)) ∧ (wrap (wrap (x_18 * x.n) + x_13)).toNat < x_19.length ∧ ((0 : Int) ≤ wrap (wrap (x_8 * x.n) + x_13) ∧ wrap (wrap (x_8 *
  x.n) + x_13) < (↑x_19.length : Int)) ∧ (wrap (wrap (x_8 * x.n) + x_13)).toNat < x_19.length ∧ (decide (wrap (x_19.getD (wrap (wrap (x_8 * x.n) + x_18)).toNat (Int.ofNat (0 : Nat)) + x_19.getD (wrap (wrap (x_18 * x.n) + x_13)).toNat
  (Int.ofNat (0 : Nat))) < x_19.getD (wrap (wrap (x_8 * x.n) + x_13)).toNat (Int.ofNat (0 : Nat))) = true → ((0 : Int) ≤ wrap (wrap (x_8 * x.n) + x_13) ∧ wrap (wrap (x_8 * x.n) + x_13) < (↑x_19.length : Int)) ∧ (wrap (wrap (x_8 * x.n) +
  x_13)).toNat < x_19.length ∧ ((true = true ∧ x_8 = x_8 ∧ x_13 = x_13 ∧ wrap (x_18 + (1 : Int)) = wrap (x_18 + (1 : Int))) ∧ (x.n = x.n ∧ x.n = x.n) ∧ x_19.set (wrap (wrap (x_8 * x.n) + x_13)).toNat (wrap (x_19.getD (wrap (wrap (x_8 * x.n) +
  x_18)).toNat (Int.ofNat (0 : Nat)) + x_19.getD (wrap (wrap (x_18 * x.n) + x_13)).toNat (Int.ofNat (0 : Nat)))) = x_19.set (wrap (wrap (x_8 * x.n) + x_13)).toNat (wrap (x_19.getD (wrap (wrap (x_8 * x.n) + x_18)).toNat (Int.ofNat (0 : Nat)) +
  x_19.getD (wrap (wrap (x_18 * x.n) + x_13)).toNat (Int.ofNat (0 : Nat)))) ∧ x.l = x.l) ∧ inv_2 true (wrap (x_18 + (1 : Int))) (x_19.set (wrap (wrap (x_8 * x.n) + x_13)).toNat (wrap (x_19.getD (wrap (wrap (x_8 * x.n) + x_18)).toNat
  (Int.ofNat (0 : Nat)) + x_19.getD (wrap (wrap (x_18 * x.n) + x_13)).toNat (Int.ofNat (0 : Nat))))) ∧ μ_2 true (wrap (x_18 + (1 : Int))) (x_19.set (wrap (wrap (x_8 * x.n) + x_13)).toNat (wrap (x_19.getD (wrap (wrap (x_8 * x.n) + x_18)).toNat
  (Int.ofNat (0 : Nat)) + x_19.getD (wrap (wrap (x_18 * x.n) + x_13)).toNat (Int.ofNat (0 : Nat))))) < μ_2 x_17 x_18 x_19) ∧ (decide (wrap (x_19.getD (wrap (wrap (x_8 * x.n) + x_18)).toNat (Int.ofNat (0 : Nat)) + x_19.getD (wrap (wrap (x_18 *
  x.n) + x_13)).toNat (Int.ofNat (0 : Nat))) < x_19.getD (wrap (wrap (x_8 * x.n) + x_13)).toNat (Int.ofNat (0 : Nat))) = false → ((x_17 = x_17 ∧ x_8 = x_8 ∧ x_13 = x_13 ∧ wrap (x_18 + (1 : Int)) = wrap (x_18 + (1 : Int))) ∧ (x.n = x.n ∧ x.n =
  x.n) ∧ x_19 = x_19 ∧ x.l = x.l) ∧ inv_2 x_17 (wrap (x_18 + (1 : Int))) x_19 ∧ μ_2 x_17 (wrap (x_18 + (1 : Int))) x_19 < μ_2 x_17 x_18 x_19)) ∧ (decide (x_18 < x.n) = false → ((x_17 = x_17 ∧ x_8 = x_8 ∧ wrap (x_13 + (1 : Int)) = wrap (x_13 +
  (1 : Int))) ∧ (x.n = x.n ∧ x.n = x.n) ∧ x_19 = x_19 ∧ x.l = x.l) ∧ inv x_17 (wrap (x_13 + (1 : Int))) x_19 ∧ μ x_17 (wrap (x_13 + (1 : Int))) x_19 < μ x_12 x_13 x_14)) ∧ (decide (x_13 < x.n) = false → ((x_12 = x_12 ∧ wrap (x_8 + (1 : Int))
  = wrap (x_8 + (1 : Int))) ∧ (x.n = x.n ∧ x.n = x.n) ∧ x_14 = x_14 ∧ x.l = x.l) ∧ inv_1 x_12 (wrap (x_8 + (1 : Int))) x_14 ∧ μ_1 x_12 (wrap (x_8 + (1 : Int))) x_14 < μ_1 x_7 x_8 x_9)) ∧ (decide (x_8 < x.n) = false → (x_7 = x_7 ∧ (x.n = x.n ∧
  x.n = x.n) ∧ x_9 = x_9 ∧ x.l = x.l) ∧ inv x_7 x_9 ∧ μ x_7 x_9 < μ x_3 x_4)) ∧ (x_3 = false → x.n = x.n ∧ x_4 = fw x.n.toNat x.l)
theorem rClosed_told (hc : CsOk Try.prog rClosed_cs) (h : rClosed_vc) : Told Try.prog 43 rClosed_con := told (A := rClosed_la) tabOk mixed hc Try.func43 (by kernel_rfl) (by kernel_rfl) h
def rEven_vc : Prop :=
  ∀ (x : MapD), LenOk x.l.length → MapOk x → ∃ (inv : Int → Prop), ∃ (μ : Int → Nat), (((0 : Int) = (0 : Int) ∧ x.n = x.n ∧ x.l = x.l) ∧ inv (0 : Int)) ∧ ∀ (x_3 : Int), inv x_3 → (decide (x_3 < x.n) = true → ∃ (inv_1 : Int → Prop), ∃ (μ_1 :
  Int → Nat), (((x_3 = x_3 ∧ (0 : Int) = (0 : Int)) ∧ x.n = x.n ∧ x.l = x.l) ∧ inv_1 (0 : Int)) ∧ ∀ (x_6 : Int), inv_1 x_6 → (decide (x_6 < x.n) = true → ∃ (inv : Int → Prop), ∃ (μ : Int → Nat), (((x_3 = x_3 ∧ x_6 = x_6 ∧ (0 : Int) = (0 :
  Int)) ∧ x.n = x.n ∧ x.l = x.l) ∧ inv (0 : Int)) ∧ ∀ (x_9 : Int), inv x_9 → (decide (x_9 < x.n) = true → ((0 : Int) ≤ wrap (wrap (x_3 * x.n) + x_9) ∧ wrap (wrap (x_3 * x.n) + x_9) < (↑x.l.length : Int)) ∧ (wrap (wrap (x_3 * x.n) +
  x_9)).toNat < x.l.length ∧ ((0 : Int) ≤ wrap (wrap (x_3 * x.n) + x_6) ∧ wrap (wrap (x_3 * x.n) + x_6) < (↑x.l.length : Int)) ∧ (wrap (wrap (x_3 * x.n) + x_6)).toNat < x.l.length ∧ ((0 : Int) ≤ wrap (wrap (x_6 * x.n) + x_9) ∧ wrap (wrap (x_6
  * x.n) + x_9) < (↑x.l.length : Int)) ∧ (wrap (wrap (x_6 * x.n) + x_9)).toNat < x.l.length ∧ (decide (x.l.getD (wrap (wrap (x_3 * x.n) + x_9)).toNat (Int.ofNat (0 : Nat)) > wrap (x.l.getD (wrap (wrap (x_3 * x.n) + x_6)).toNat (Int.ofNat (0 :
  Nat)) + x.l.getD (wrap (wrap (x_6 * x.n) + x_9)).toNat (Int.ofNat (0 : Nat)))) = true → false = even (some x)) ∧ (decide (x.l.getD (wrap (wrap (x_3 * x.n) + x_9)).toNat (Int.ofNat (0 : Nat)) > wrap (x.l.getD (wrap (wrap (x_3 * x.n) +
  x_6)).toNat (Int.ofNat (0 : Nat)) + x.l.getD (wrap (wrap (x_6 * x.n) + x_9)).toNat (Int.ofNat (0 : Nat)))) = false → ((x_3 = x_3 ∧ x_6 = x_6 ∧ wrap (x_9 + (1 : Int)) = wrap (x_9 + (1 : Int))) ∧ x.n = x.n ∧ x.l = x.l) ∧ inv (wrap (x_9 + (1 :
  Int))) ∧ μ (wrap (x_9 + (1 : Int))) < μ x_9)) ∧ (decide (x_9 < x.n) = false → ((x_3 = x_3 ∧ wrap (x_6 + (1 : Int)) = wrap (x_6 + (1 : Int))) ∧ x.n = x.n ∧ x.l = x.l) ∧ inv_1 (wrap (x_6 + (1 : Int))) ∧ μ_1 (wrap (x_6 + (1 : Int))) < μ_1
  x_6)) ∧ (decide (x_6 < x.n) = false → (wrap (x_3 + (1 : Int)) = wrap (x_3 + (1 : Int)) ∧ x.n = x.n ∧ x.l = x.l) ∧ inv (wrap (x_3 + (1 : Int))) ∧ μ (wrap (x_3 + (1 : Int))) < μ x_3)) ∧ (decide (x_3 < x.n) = false → true = even (some x))
theorem rEven_told (hc : CsOk Try.prog rEven_cs) (h : rEven_vc) : Told Try.prog 44 rEven_con := told (A := rEven_la) tabOk mixed hc Try.func44 (by kernel_rfl) (by kernel_rfl) h
def both_vc : Prop :=
  ∀ (x : Int) (x_1 : List Int), LenOk x_1.length → (newE x x_1 ≠ (0 : Int) → (newE x x_1 ≠ (0 : Int) → (decide (newE x x_1 = newE x x_1) = true → newE x x_1 ≠ (0 : Int) ∧ (true == true) = true ∨ Bad (nat_lit 18) (List SW) [SW.c SC.nlp, SW.c
  SC.nlp, SW.c (SC.b true)]) ∧ (decide (newE x x_1 = newE x x_1) = !true → newE x x_1 ≠ (0 : Int) ∧ false = true ∨ Bad (nat_lit 18) (List SW) [SW.c SC.nlp, SW.c SC.nlp, SW.c (SC.l false)])) ∧ (newE x x_1 = (0 : Int) → (decide (newE x x_1 = (0
  : Int)) = true → Bad (nat_lit 18) (List SW) [SW.c SC.nlp, SW.c (SC.p (nat_lit 1) (nat_lit 0)), SW.c (SC.b false)] ∨ Bad (nat_lit 18) (List SW) [SW.c SC.nlp, SW.c (SC.p (nat_lit 1) (nat_lit 0)), SW.c (SC.b false)]) ∧ (decide (newE x x_1 = (0
  : Int)) = !true → Bad (nat_lit 18) (List SW) [SW.c SC.nlp, SW.c (SC.p (nat_lit 1) (nat_lit 0)), SW.c (SC.l false)] ∨ Bad (nat_lit 18) (List SW) [SW.c SC.nlp, SW.c (SC.p (nat_lit 1) (nat_lit 0)), SW.c (SC.l false)]))) ∧ (newE x x_1 = (0 :
  Int) → (newE x x_1 ≠ (0 : Int) → (decide ((0 : Int) = newE x x_1) = true → Bad (nat_lit 18) (List SW) [SW.c (SC.p (nat_lit 1) (nat_lit 0)), SW.c SC.nlp, SW.c (SC.b false)] ∨ Bad (nat_lit 18) (List SW) [SW.c (SC.p (nat_lit 1) (nat_lit 0)),
  SW.c SC.nlp, SW.c (SC.b false)]) ∧ (decide ((0 : Int) = newE x x_1) = !true → Bad (nat_lit 18) (List SW) [SW.c (SC.p (nat_lit 1) (nat_lit 0)), SW.c SC.nlp, SW.c (SC.l false)] ∨ Bad (nat_lit 18) (List SW) [SW.c (SC.p (nat_lit 1) (nat_lit
  0)), SW.c SC.nlp, SW.c (SC.l false)])) ∧ (newE x x_1 = (0 : Int) → (decide ((0 : Int) = (0 : Int)) = true → Bad (nat_lit 18) (List SW) [SW.c (SC.p (nat_lit 1) (nat_lit 0)), SW.c (SC.p (nat_lit 3) (nat_lit 0)), SW.c (SC.b true)] ∨ newE x x_1
  = (0 : Int) ∧ (false == false) = true ∧ (x = x ∧ x = x) ∧ x_1 = x_1 ∧ x_1 = x_1) ∧ (decide ((0 : Int) = (0 : Int)) = !true → Bad (nat_lit 18) (List SW) [SW.c (SC.p (nat_lit 1) (nat_lit 0)), SW.c (SC.p (nat_lit 3) (nat_lit 0)), SW.c (SC.l
  false)] ∨ newE x x_1 = (0 : Int) ∧ false = true ∧ (x = x ∧ x = x) ∧ x_1 = x_1 ∧ x_1 = x_1)))
theorem both_told (hc : CsOk Try.prog both_cs) (h : both_vc) : Told Try.prog 42 both_con := told (A := both_la) tabOk mixed hc Try.func42 (by kernel_rfl) (by kernel_rfl) h
def alike_vc : Prop :=
  (∀ (x : MapD), LenOk x.l.length → (∀ (x : MapD), none = some x → MapOk x) → (decide (places none = x.n) = true → (∀ (x : MapD), none = some x → MapOk x) ∧ same (times none) x.l = (decide (places none = x.n) && same (times none) x.l)) ∧
  (decide (places none = x.n) = !true → false = (decide (places none = x.n) && same (times none) x.l))) ∧ ∀ (x : MapD), LenOk x.l.length → ∀ (x_2 : MapD), LenOk x_2.l.length → (∀ (x_4 : MapD), some x = some x_4 → MapOk x_4) → (decide (places
  (some x) = x_2.n) = true → (∀ (x_6 : MapD), some x = some x_6 → MapOk x_6) ∧ same (times (some x)) x_2.l = (decide (places (some x) = x_2.n) && same (times (some x)) x_2.l)) ∧ (decide (places (some x) = x_2.n) = !true → false = (decide
  (places (some x) = x_2.n) && same (times (some x)) x_2.l))
theorem alike_told (hc : CsOk Try.prog alike_cs) (h : alike_vc) : Told Try.prog 41 alike_con := told (A := alike_la) tabOk mixed hc Try.func41 (by kernel_rfl) (by kernel_rfl) h
end Go.Eng
