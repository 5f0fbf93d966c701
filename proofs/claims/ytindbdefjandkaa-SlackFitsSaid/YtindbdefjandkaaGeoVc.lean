/- The conditions of functions, as print.. of the engine told them. -/
import Derived.Test.YtindbdefjandkaaGeo
import Derived.KernelRfl
set_option linter.unusedVariables false
namespace Go.Eng
open Go Go.Proofs
def new_vc : Prop :=
  ∀ (x : Int) (x_1 : List Int), LenOk x_1.length → (decide (x < (1 : Int)) = false → (decide (x > (12 : Int)) = true → newE x x_1 ≠ (0 : Int) ∧ (1 : Int) = newE x x_1 ∨ Bad (nat_lit 18) (List SW) [SW.c SC.nlp, SW.c (SC.i (Int.ofNat (nat_lit
  1)))]) ∧ (decide (x > (12 : Int)) = false → ((!decide ((↑x_1.length : Int) = wrap (x * x))) = true → newE x x_1 ≠ (0 : Int) ∧ (2 : Int) = newE x x_1 ∨ Bad (nat_lit 18) (List SW) [SW.c SC.nlp, SW.c (SC.i (Int.ofNat (nat_lit 2)))]) ∧
  ((!decide ((↑x_1.length : Int) = wrap (x * x))) = false → ∃ (inv : Int → Prop), ∃ (μ : Int → Nat), (((x = x ∧ (↑x_1.length : Int) = (↑x_1.length : Int) ∧ (0 : Int) = (0 : Int)) ∧ x_1 = x_1) ∧ inv (0 : Int)) ∧ ∀ (x_6 : Int), inv x_6 →
  (decide (x_6 < (↑x_1.length : Int)) = true → ((0 : Int) ≤ x_6 ∧ x_6 < (↑x_1.length : Int)) ∧ x_6.toNat < x_1.length ∧ (decide (x_1.getD x_6.toNat (Int.ofNat (0 : Nat)) < (0 : Int)) = false → (decide (x_1.getD x_6.toNat (Int.ofNat (0 : Nat))
  > (1000000 : Int)) = true → newE x x_1 ≠ (0 : Int) ∧ (7 : Int) = newE x x_1 ∨ Bad (nat_lit 18) (List SW) [SW.c SC.nlp, SW.c (SC.i (Int.ofNat (nat_lit 7)))]) ∧ (decide (x_1.getD x_6.toNat (Int.ofNat (0 : Nat)) > (1000000 : Int)) = false →
  ((x = x ∧ (↑x_1.length : Int) = (↑x_1.length : Int) ∧ wrap (x_6 + (1 : Int)) = wrap (x_6 + (1 : Int))) ∧ x_1 = x_1) ∧ inv (wrap (x_6 + (1 : Int))) ∧ μ (wrap (x_6 + (1 : Int))) < μ x_6)) ∧ (decide (x_1.getD x_6.toNat (Int.ofNat (0 : Nat)) <
  (0 : Int)) = !false → newE x x_1 ≠ (0 : Int) ∧ (7 : Int) = newE x x_1 ∨ Bad (nat_lit 18) (List SW) [SW.c SC.nlp, SW.c (SC.i (Int.ofNat (nat_lit 7)))])) ∧ (decide (x_6 < (↑x_1.length : Int)) = false → ∃ (inv : Int → Prop), ∃ (μ : Int → Nat),
  (((x = x ∧ x = x ∧ (0 : Int) = (0 : Int)) ∧ x_1 = x_1) ∧ inv (0 : Int)) ∧ ∀ (x_9 : Int), inv x_9 → (decide (x_9 < x) = true → ((0 : Int) ≤ wrap (wrap (x_9 * x) + x_9) ∧ wrap (wrap (x_9 * x) + x_9) < (↑x_1.length : Int)) ∧ (wrap (wrap (x_9 *
  x) + x_9)).toNat < x_1.length ∧ ((!decide (x_1.getD (wrap (wrap (x_9 * x) + x_9)).toNat (Int.ofNat (0 : Nat)) = (0 : Int))) = true → newE x x_1 ≠ (0 : Int) ∧ (4 : Int) = newE x x_1 ∨ Bad (nat_lit 18) (List SW) [SW.c SC.nlp, SW.c (SC.i
  (Int.ofNat (nat_lit 4)))]) ∧ ((!decide (x_1.getD (wrap (wrap (x_9 * x) + x_9)).toNat (Int.ofNat (0 : Nat)) = (0 : Int))) = false → ((x = x ∧ x = x ∧ wrap (x_9 + (1 : Int)) = wrap (x_9 + (1 : Int))) ∧ x_1 = x_1) ∧ inv (wrap (x_9 + (1 :
  Int))) ∧ μ (wrap (x_9 + (1 : Int))) < μ x_9)) ∧ (decide (x_9 < x) = false → (True ∧ x_1.length * ((8 : Nat) * (1 : Nat)) ≤ (140737488355328 : Nat)) ∧ (Bad (nat_lit 18) (List SW) [SW.c (SC.p (nat_lit 2) (nat_lit 0)), SW.c (SC.i (Int.ofNat
  (nat_lit 0)))] ∨ newE x x_1 = (0 : Int) ∧ (0 : Int) = (0 : Int) ∧ x = x ∧ x_1 = x_1)))))) ∧ (decide (x < (1 : Int)) = !false → newE x x_1 ≠ (0 : Int) ∧ (1 : Int) = newE x x_1 ∨ Bad (nat_lit 18) (List SW) [SW.c SC.nlp, SW.c (SC.i (Int.ofNat
  (nat_lit 1)))])
theorem new_told (hc : CsOk Try.prog new_cs) (h : new_vc) : Told Try.prog 9 new_con := told (A := new_la) tabOk mixed hc Try.func9 (by kernel_rfl) (by kernel_rfl) h
def rNew_vc : Prop :=
  ∀ (x : Int) (x_1 : List Int), LenOk x_1.length → (decide (x < (1 : Int)) = false → (decide (x > (12 : Int)) = true → newE x x_1 ≠ (0 : Int) ∧ (1 : Int) = newE x x_1 ∨ Bad (nat_lit 18) (List SW) [SW.c SC.nlp, SW.c (SC.i (Int.ofNat (nat_lit
  1)))]) ∧ (decide (x > (12 : Int)) = false → ((!decide ((↑x_1.length : Int) = wrap (x * x))) = true → newE x x_1 ≠ (0 : Int) ∧ (2 : Int) = newE x x_1 ∨ Bad (nat_lit 18) (List SW) [SW.c SC.nlp, SW.c (SC.i (Int.ofNat (nat_lit 2)))]) ∧
  ((!decide ((↑x_1.length : Int) = wrap (x * x))) = false → ∃ (inv : Int → Prop), ∃ (μ : Int → Nat), (((x = x ∧ (0 : Int) = (0 : Int)) ∧ x_1 = x_1) ∧ inv (0 : Int)) ∧ ∀ (x_6 : Int), inv x_6 → (decide (x_6 < (↑x_1.length : Int)) = true → ((0 :
  Int) ≤ x_6 ∧ x_6 < (↑x_1.length : Int)) ∧ x_6.toNat < x_1.length ∧ (decide (x_1.getD x_6.toNat (Int.ofNat (0 : Nat)) < (0 : Int)) = false → ((0 : Int) ≤ x_6 ∧ x_6 < (↑x_1.length : Int)) ∧ x_6.toNat < x_1.length ∧ (decide (x_1.getD x_6.toNat
  (Int.ofNat (0 : Nat)) > (1000000 : Int)) = true → newE x x_1 ≠ (0 : Int) ∧ (7 : Int) = newE x x_1 ∨ Bad (nat_lit 18) (List SW) [SW.c SC.nlp, SW.c (SC.i (Int.ofNat (nat_lit 7)))]) ∧ (decide (x_1.getD x_6.toNat (Int.ofNat (0 : Nat)) >
  (1000000 : Int)) = false → ((x = x ∧ wrap (x_6 + (1 : Int)) = wrap (x_6 + (1 : Int))) ∧ x_1 = x_1) ∧ inv (wrap (x_6 + (1 : Int))) ∧ μ (wrap (x_6 + (1 : Int))) < μ x_6)) ∧ (decide (x_1.getD x_6.toNat (Int.ofNat (0 : Nat)) < (0 : Int)) =
  !false → newE x x_1 ≠ (0 : Int) ∧ (7 : Int) = newE x x_1 ∨ Bad (nat_lit 18) (List SW) [SW.c SC.nlp, SW.c (SC.i (Int.ofNat (nat_lit 7)))])) ∧ (decide (x_6 < (↑x_1.length : Int)) = false → ∃ (inv : Int → Prop), ∃ (μ : Int → Nat), (((x = x ∧
  (0 : Int) = (0 : Int)) ∧ x_1 = x_1) ∧ inv (0 : Int)) ∧ ∀ (x_9 : Int), inv x_9 → (decide (x_9 < x) = true → ((0 : Int) ≤ wrap (wrap (x_9 * x) + x_9) ∧ wrap (wrap (x_9 * x) + x_9) < (↑x_1.length : Int)) ∧ (wrap (wrap (x_9 * x) + x_9)).toNat <
  x_1.length ∧ ((!decide (x_1.getD (wrap (wrap (x_9 * x) + x_9)).toNat (Int.ofNat (0 : Nat)) = (0 : Int))) = true → newE x x_1 ≠ (0 : Int) ∧ (4 : Int) = newE x x_1 ∨ Bad (nat_lit 18) (List SW) [SW.c SC.nlp, SW.c (SC.i (Int.ofNat (nat_lit
  4)))]) ∧ ((!decide (x_1.getD (wrap (wrap (x_9 * x) + x_9)).toNat (Int.ofNat (0 : Nat)) = (0 : Int))) = false → ((x = x ∧ wrap (x_9 + (1 : Int)) = wrap (x_9 + (1 : Int))) ∧ x_1 = x_1) ∧ inv (wrap (x_9 + (1 : Int))) ∧ μ (wrap (x_9 + (1 :
  Int))) < μ x_9)) ∧ (decide (x_9 < x) = false → (True ∧ ((0 : Nat) + x_1.length) * ((8 : Nat) * (1 : Nat)) ≤ (140737488355328 : Nat)) ∧ (Bad (nat_lit 18) (List SW) [SW.c (SC.p (nat_lit 3) (nat_lit 0)), SW.c (SC.i (Int.ofNat (nat_lit 0)))] ∨
  newE x x_1 = (0 : Int) ∧ (0 : Int) = (0 : Int) ∧ x = x ∧ [] ++ x_1 = x_1)))))) ∧ (decide (x < (1 : Int)) = !false → newE x x_1 ≠ (0 : Int) ∧ (1 : Int) = newE x x_1 ∨ Bad (nat_lit 18) (List SW) [SW.c SC.nlp, SW.c (SC.i (Int.ofNat (nat_lit
  1)))])
theorem rNew_told (hc : CsOk Try.prog rNew_cs) (h : rNew_vc) : Told Try.prog 29 rNew_con := told (A := rNew_la) tabOk mixed hc Try.func29 (by kernel_rfl) (by kernel_rfl) h
def time_vc : Prop :=
  (∀ (x x_1 : Int), (∀ (x : MapD), none = some x → MapOk x) → (0 : Int) = (mtime none x x_1).fst ∧ false = (mtime none x x_1).snd) ∧ ∀ (x : MapD), LenOk x.l.length → ∀ (x_2 x_3 : Int), (∀ (x_4 : MapD), some x = some x_4 → MapOk x_4) → (decide
  (x_2 < (0 : Int)) = false → (decide (x_3 < (0 : Int)) = false → (decide (x_2 ≥ x.n) = false → (decide (x_3 ≥ x.n) = true → (0 : Int) = (mtime (some x) x_2 x_3).fst ∧ false = (mtime (some x) x_2 x_3).snd) ∧ (decide (x_3 ≥ x.n) = false → ((0
  : Int) ≤ wrap (wrap (x_2 * x.n) + x_3) ∧ wrap (wrap (x_2 * x.n) + x_3) < (↑x.l.length : Int)) ∧ (wrap (wrap (x_2 * x.n) + x_3)).toNat < x.l.length ∧ x.l.getD (wrap (wrap (x_2 * x.n) + x_3)).toNat (Int.ofNat (0 : Nat)) = (mtime (some x) x_2
  x_3).fst ∧ true = (mtime (some x) x_2 x_3).snd)) ∧ (decide (x_2 ≥ x.n) = !false → (0 : Int) = (mtime (some x) x_2 x_3).fst ∧ false = (mtime (some x) x_2 x_3).snd)) ∧ (decide (x_3 < (0 : Int)) = !false → (0 : Int) = (mtime (some x) x_2
  x_3).fst ∧ false = (mtime (some x) x_2 x_3).snd)) ∧ (decide (x_2 < (0 : Int)) = !false → (0 : Int) = (mtime (some x) x_2 x_3).fst ∧ false = (mtime (some x) x_2 x_3).snd)
theorem time_told (hc : CsOk Try.prog time_cs) (h : time_vc) : Told Try.prog 27 time_con := told (A := time_la) tabOk mixed hc Try.func27 (by kernel_rfl) (by kernel_rfl) h
def rTime_vc : Prop :=
  ∀ (x : MapD), LenOk x.l.length → ∀ (x_2 x_3 : Int), MapOk x → (decide (x_2 < (0 : Int)) = false → (decide (x_2 ≥ x.n) = false → (decide (x_3 < (0 : Int)) = false → (decide (x_3 ≥ x.n) = true → (0 : Int) = (mtime (some x) x_2 x_3).fst ∧
  false = (mtime (some x) x_2 x_3).snd) ∧ (decide (x_3 ≥ x.n) = false → ((0 : Int) ≤ wrap (wrap (x_2 * x.n) + x_3) ∧ wrap (wrap (x_2 * x.n) + x_3) < (↑x.l.length : Int)) ∧ (wrap (wrap (x_2 * x.n) + x_3)).toNat < x.l.length ∧ x.l.getD (wrap
  (wrap (x_2 * x.n) + x_3)).toNat (Int.ofNat (0 : Nat)) = (mtime (some x) x_2 x_3).fst ∧ true = (mtime (some x) x_2 x_3).snd)) ∧ (decide (x_3 < (0 : Int)) = !false → (0 : Int) = (mtime (some x) x_2 x_3).fst ∧ false = (mtime (some x) x_2
  x_3).snd)) ∧ (decide (x_2 ≥ x.n) = !false → (0 : Int) = (mtime (some x) x_2 x_3).fst ∧ false = (mtime (some x) x_2 x_3).snd)) ∧ (decide (x_2 < (0 : Int)) = !false → (0 : Int) = (mtime (some x) x_2 x_3).fst ∧ false = (mtime (some x) x_2
  x_3).snd)
theorem rTime_told (hc : CsOk Try.prog rTime_cs) (h : rTime_vc) : Told Try.prog 33 rTime_con := told (A := rTime_la) tabOk mixed hc Try.func33 (by kernel_rfl) (by kernel_rfl) h
def places_vc : Prop :=
  (0 : Int) = places none ∧ ∀ (x : MapD), LenOk x.l.length → x.n = places (some x)
theorem places_told (hc : CsOk Try.prog places_cs) (h : places_vc) : Told Try.prog 54 places_con := told (A := places_la) tabOk mixed hc Try.func54 (by kernel_rfl) (by kernel_rfl) h
def even_vc : Prop :=
  False
theorem even_told (hc : CsOk Try.prog even_cs) (h : even_vc) : Told Try.prog 70 even_con := told (A := even_la) tabOk mixed hc Try.func70 (by kernel_rfl) (by kernel_rfl) h
end Go.Eng
