/- The conditions of functions, as print.. of the engine told them. -/
import Derived.Test.YtkokggepghghdaaZ1LawCertMakes
import Derived.KernelRfl
set_option linter.unusedVariables false
namespace Go.Eng
open Go Go.Proofs
def sidx_vc : Prop :=
  ∀ (x : List Stop), LenOk x.length → ∀ (x_2 : Stop), ∃ (inv : Int → Prop), ∃ (μ : Int → Nat), ((((↑x.length : Int) = (↑x.length : Int) ∧ (0 : Int) = (0 : Int)) ∧ (x_2.order = x_2.order ∧ x_2.drop = x_2.drop) ∧ x = x) ∧ inv (0 : Int)) ∧ ∀
  (x_3 : Int), inv x_3 → (decide (x_3 < (↑x.length : Int)) = true → ((0 : Int) ≤ x_3 ∧ x_3 < (↑x.length : Int)) ∧ x_3.toNat < x.length ∧ ((decide (x_2.order = (x.getD x_3.toNat FK.stop.zero).order) && (x_2.drop == (x.getD x_3.toNat
  FK.stop.zero).drop && true)) = true → x_3 = whereS x_2 x) ∧ ((decide (x_2.order = (x.getD x_3.toNat FK.stop.zero).order) && (x_2.drop == (x.getD x_3.toNat FK.stop.zero).drop && true)) = false → (((↑x.length : Int) = (↑x.length : Int) ∧ wrap
  (x_3 + (1 : Int)) = wrap (x_3 + (1 : Int))) ∧ (x_2.order = x_2.order ∧ x_2.drop = x_2.drop) ∧ x = x) ∧ inv (wrap (x_3 + (1 : Int))) ∧ μ (wrap (x_3 + (1 : Int))) < μ x_3)) ∧ (decide (x_3 < (↑x.length : Int)) = false → (-1 : Int) = whereS x_2
  x)
theorem sidx_told (hc : CsOk Try.prog sidx_cs) (h : sidx_vc) : Told Try.prog 50 sidx_con := told (A := sidx_la) tabOk mixed hc Try.func50 (by kernel_rfl) (by kernel_rfl) h
def rWhere_vc : Prop :=
  ∀ (x : List Stop), LenOk x.length → ∀ (x_2 : Stop), ∃ (inv : Int → Prop), ∃ (μ : Int → Nat), (((0 : Int) = (0 : Int) ∧ (x_2.order = x_2.order ∧ x_2.drop = x_2.drop) ∧ x = x) ∧ inv (0 : Int)) ∧ ∀ (x_3 : Int), inv x_3 → (decide (x_3 <
  (↑x.length : Int)) = true → ((0 : Int) ≤ x_3 ∧ x_3 < (↑x.length : Int)) ∧ x_3.toNat < x.length ∧ ((decide ((x.getD x_3.toNat FK.stop.zero).order = x_2.order) && ((x.getD x_3.toNat FK.stop.zero).drop == x_2.drop && true)) = true → x_3 =
  whereS x_2 x) ∧ ((decide ((x.getD x_3.toNat FK.stop.zero).order = x_2.order) && ((x.getD x_3.toNat FK.stop.zero).drop == x_2.drop && true)) = false → (wrap (x_3 + (1 : Int)) = wrap (x_3 + (1 : Int)) ∧ (x_2.order = x_2.order ∧ x_2.drop =
  x_2.drop) ∧ x = x) ∧ inv (wrap (x_3 + (1 : Int))) ∧ μ (wrap (x_3 + (1 : Int))) < μ x_3)) ∧ (decide (x_3 < (↑x.length : Int)) = false → (-1 : Int) = whereS x_2 x)
theorem rWhere_told (hc : CsOk Try.prog rWhere_cs) (h : rWhere_vc) : Told Try.prog 68 rWhere_con := told (A := rWhere_la) tabOk mixed hc Try.func68 (by kernel_rfl) (by kernel_rfl) h
def pright_vc : Prop :=
  ∀ (x : List Route), (LenOk x.length ∧ ∀ (r : Route), List.Mem r x → LenOk r.stops.length) → (decide ((↑x.length : Int) > (8 : Int)) = true → false = rightP x) ∧ (decide ((↑x.length : Int) > (8 : Int)) = false → ∃ (inv : Int → Int →
  (MK.stop.T → Int) → Prop), ∃ (μ : Int → Int → (MK.stop.T → Int) → Nat), ((((0 : Int) = (0 : Int) ∧ (↑x.length : Int) = (↑x.length : Int) ∧ (0 : Int) = (0 : Int)) ∧ x = x ∧ noF MK.stop.T = noF MK.stop.T) ∧ inv (0 : Int) (0 : Int) (noF
  MK.stop.T)) ∧ ∀ (x_3 x_4 : Int) (x_5 : MK.stop.T → Int), inv x_3 x_4 x_5 → (decide (x_4 < (↑x.length : Int)) = true → ((0 : Int) ≤ x_4 ∧ x_4 < (↑x.length : Int)) ∧ x_4.toNat < x.length ∧ (decide ((x.getD x_4.toNat (Route.mk (0 : Int) (0 :
  Int) [])).driver ≤ x_3) = false → (decide ((x.getD x_4.toNat (Route.mk (0 : Int) (0 : Int) [])).driver > (1000000 : Int)) = false → (decide ((↑(x.getD x_4.toNat (Route.mk (0 : Int) (0 : Int) [])).stops.length : Int) > (80 : Int)) = false →
  (decide ((x.getD x_4.toNat (Route.mk (0 : Int) (0 : Int) [])).served < (0 : Int)) = false → (decide ((x.getD x_4.toNat (Route.mk (0 : Int) (0 : Int) [])).served > (↑(x.getD x_4.toNat (Route.mk (0 : Int) (0 : Int) [])).stops.length : Int)) =
  true → false = rightP x) ∧ (decide ((x.getD x_4.toNat (Route.mk (0 : Int) (0 : Int) [])).served > (↑(x.getD x_4.toNat (Route.mk (0 : Int) (0 : Int) [])).stops.length : Int)) = false → ∃ (inv_1 : Int → (MK.stop.T → Int) → Prop), ∃ (μ_1 : Int
  → (MK.stop.T → Int) → Nat), ((((x.getD x_4.toNat (Route.mk (0 : Int) (0 : Int) [])).driver = (x.getD x_4.toNat (Route.mk (0 : Int) (0 : Int) [])).driver ∧ (↑x.length : Int) = (↑x.length : Int) ∧ x_4 = x_4 ∧ (↑(x.getD x_4.toNat (Route.mk (0
  : Int) (0 : Int) [])).stops.length : Int) = (↑(x.getD x_4.toNat (Route.mk (0 : Int) (0 : Int) [])).stops.length : Int) ∧ (0 : Int) = (0 : Int)) ∧ (x.getD x_4.toNat (Route.mk (0 : Int) (0 : Int) [])).stops = (x.getD x_4.toNat (Route.mk (0 :
  Int) (0 : Int) [])).stops ∧ x = x ∧ x_5 = x_5) ∧ inv_1 (0 : Int) x_5) ∧ ∀ (x_13 : Int) (x_14 : MK.stop.T → Int), inv_1 x_13 x_14 → (decide (x_13 < (↑(x.getD x_4.toNat (Route.mk (0 : Int) (0 : Int) [])).stops.length : Int)) = true → ((0 :
  Int) ≤ x_13 ∧ x_13 < (↑(x.getD x_4.toNat (Route.mk (0 : Int) (0 : Int) [])).stops.length : Int)) ∧ x_13.toNat < (x.getD x_4.toNat (Route.mk (0 : Int) (0 : Int) [])).stops.length ∧ (decide (((x.getD x_4.toNat (Route.mk (0 : Int) (0 : Int)
  [])).stops.getD x_13.toNat FK.stop.zero).order < (1 : Int)) = false → (decide (((x.getD x_4.toNat (Route.mk (0 : Int) (0 : Int) [])).stops.getD x_13.toNat FK.stop.zero).order > (1000000 : Int)) = false → (decide (x_14 ((x.getD x_4.toNat
  (Route.mk (0 : Int) (0 : Int) [])).stops.getD x_13.toNat FK.stop.zero) > (0 : Int)) = true → false = rightP x) ∧ (decide (x_14 ((x.getD x_4.toNat (Route.mk (0 : Int) (0 : Int) [])).stops.getD x_13.toNat FK.stop.zero) > (0 : Int)) = false →
  (((x.getD x_4.toNat (Route.mk (0 : Int) (0 : Int) [])).driver = (x.getD x_4.toNat (Route.mk (0 : Int) (0 : Int) [])).driver ∧ (↑x.length : Int) = (↑x.length : Int) ∧ x_4 = x_4 ∧ (↑(x.getD x_4.toNat (Route.mk (0 : Int) (0 : Int)
  [])).stops.length : Int) = (↑(x.getD x_4.toNat (Route.mk (0 : Int) (0 : Int) [])).stops.length : Int) ∧ wrap (x_13 + (1 : Int)) = wrap (x_13 + (1 : Int))) ∧ (x.getD x_4.toNat (Route.mk (0 : Int) (0 : Int) [])).stops = (x.getD x_4.toNat
  (Route.mk (0 : Int) (0 : Int) [])).stops ∧ x = x ∧ upF x_14 ((x.getD x_4.toNat (Route.mk (0 : Int) (0 : Int) [])).stops.getD x_13.toNat FK.stop.zero) (wrap (x_14 ((x.getD x_4.toNat (Route.mk (0 : Int) (0 : Int) [])).stops.getD x_13.toNat
  FK.stop.zero) + (1 : Int))) = upF x_14 ((x.getD x_4.toNat (Route.mk (0 : Int) (0 : Int) [])).stops.getD x_13.toNat FK.stop.zero) (wrap (x_14 ((x.getD x_4.toNat (Route.mk (0 : Int) (0 : Int) [])).stops.getD x_13.toNat FK.stop.zero) + (1 :
  Int)))) ∧ inv_1 (wrap (x_13 + (1 : Int))) (upF x_14 ((x.getD x_4.toNat (Route.mk (0 : Int) (0 : Int) [])).stops.getD x_13.toNat FK.stop.zero) (wrap (x_14 ((x.getD x_4.toNat (Route.mk (0 : Int) (0 : Int) [])).stops.getD x_13.toNat
  FK.stop.zero) + (1 : Int)))) ∧ μ_1 (wrap (x_13 + (1 : Int))) (upF x_14 ((x.getD x_4.toNat (Route.mk (0 : Int) (0 : Int) [])).stops.getD x_13.toNat FK.stop.zero) (wrap (x_14 ((x.getD x_4.toNat (Route.mk (0 : Int) (0 : Int) [])).stops.getD
  x_13.toNat FK.stop.zero) + (1 : Int)))) < μ_1 x_13 x_14)) ∧ (decide (((x.getD x_4.toNat (Route.mk (0 : Int) (0 : Int) [])).stops.getD x_13.toNat FK.stop.zero).order > (1000000 : Int)) = !false → false = rightP x)) ∧ (decide (((x.getD
  x_4.toNat (Route.mk (0 : Int) (0 : Int) [])).stops.getD x_13.toNat FK.stop.zero).order < (1 : Int)) = !false → false = rightP x)) ∧ (decide (x_13 < (↑(x.getD x_4.toNat (Route.mk (0 : Int) (0 : Int) [])).stops.length : Int)) = false →
  (((x.getD x_4.toNat (Route.mk (0 : Int) (0 : Int) [])).driver = (x.getD x_4.toNat (Route.mk (0 : Int) (0 : Int) [])).driver ∧ (↑x.length : Int) = (↑x.length : Int) ∧ wrap (x_4 + (1 : Int)) = wrap (x_4 + (1 : Int))) ∧ x = x ∧ x_14 = x_14) ∧
  inv (x.getD x_4.toNat (Route.mk (0 : Int) (0 : Int) [])).driver (wrap (x_4 + (1 : Int))) x_14 ∧ μ (x.getD x_4.toNat (Route.mk (0 : Int) (0 : Int) [])).driver (wrap (x_4 + (1 : Int))) x_14 < μ x_3 x_4 x_5))) ∧ (decide ((x.getD x_4.toNat
  (Route.mk (0 : Int) (0 : Int) [])).served < (0 : Int)) = !false → false = rightP x)) ∧ (decide ((↑(x.getD x_4.toNat (Route.mk (0 : Int) (0 : Int) [])).stops.length : Int) > (80 : Int)) = !false → false = rightP x)) ∧ (decide ((x.getD
  x_4.toNat (Route.mk (0 : Int) (0 : Int) [])).driver > (1000000 : Int)) = !false → false = rightP x)) ∧ (decide ((x.getD x_4.toNat (Route.mk (0 : Int) (0 : Int) [])).driver ≤ x_3) = !false → false = rightP x)) ∧ (decide (x_4 < (↑x.length :
  Int)) = false → true = rightP x))
theorem pright_told (hc : CsOk Try.prog pright_cs) (h : pright_vc) : Told Try.prog 26 pright_con := told (A := pright_la) tabOk mixed hc Try.func26 (by kernel_rfl) (by kernel_rfl) h
def rPright_vc : Prop :=
  ∀ (x : List Route), (LenOk x.length ∧ ∀ (r : Route), List.Mem r x → LenOk r.stops.length) → (decide ((↑x.length : Int) > (8 : Int)) = true → false = rightP x) ∧ (decide ((↑x.length : Int) > (8 : Int)) = false → ∃ (inv : List Stop → Int →
  Prop), ∃ (μ : List Stop → Int → Nat), (((0 : Int) = (0 : Int) ∧ nilOf Stop = nilOf Stop ∧ x = x) ∧ inv [] (0 : Int)) ∧ ∀ (x_3 : List Stop) (x_4 : Int), inv x_3 x_4 → (decide (x_4 < (↑x.length : Int)) = true → ((0 : Int) ≤ x_4 ∧ x_4 <
  (↑x.length : Int)) ∧ x_4.toNat < x.length ∧ (decide ((x.getD x_4.toNat (Route.mk (0 : Int) (0 : Int) [])).driver < (1 : Int)) = false → (decide ((x.getD x_4.toNat (Route.mk (0 : Int) (0 : Int) [])).driver > (1000000 : Int)) = false →
  (decide (x_4 > (0 : Int)) = true → ((0 : Int) ≤ wrap (x_4 - (1 : Int)) ∧ wrap (x_4 - (1 : Int)) < (↑x.length : Int)) ∧ (wrap (x_4 - (1 : Int))).toNat < x.length ∧ (decide ((x.getD (wrap (x_4 - (1 : Int))).toNat (Route.mk (0 : Int) (0 : Int)
  [])).driver ≥ (x.getD x_4.toNat (Route.mk (0 : Int) (0 : Int) [])).driver) = false → (decide ((↑(x.getD x_4.toNat (Route.mk (0 : Int) (0 : Int) [])).stops.length : Int) > (80 : Int)) = false → (decide ((x.getD x_4.toNat (Route.mk (0 : Int)
  (0 : Int) [])).served < (0 : Int)) = false → (decide ((x.getD x_4.toNat (Route.mk (0 : Int) (0 : Int) [])).served > (↑(x.getD x_4.toNat (Route.mk (0 : Int) (0 : Int) [])).stops.length : Int)) = true → false = rightP x) ∧ (decide ((x.getD
  x_4.toNat (Route.mk (0 : Int) (0 : Int) [])).served > (↑(x.getD x_4.toNat (Route.mk (0 : Int) (0 : Int) [])).stops.length : Int)) = false → ∃ (inv_1 : List Stop → Int → Prop), ∃ (μ_1 : List Stop → Int → Nat), (((x_4 = x_4 ∧ (0 : Int) = (0 :
  Int)) ∧ ((x.getD x_4.toNat (Route.mk (0 : Int) (0 : Int) [])).driver = (x.getD x_4.toNat (Route.mk (0 : Int) (0 : Int) [])).driver ∧ (x.getD x_4.toNat (Route.mk (0 : Int) (0 : Int) [])).served = (x.getD x_4.toNat (Route.mk (0 : Int) (0 :
  Int) [])).served) ∧ (x.getD x_4.toNat (Route.mk (0 : Int) (0 : Int) [])).stops = (x.getD x_4.toNat (Route.mk (0 : Int) (0 : Int) [])).stops ∧ x_3 = x_3 ∧ x = x) ∧ inv_1 x_3 (0 : Int)) ∧ ∀ (x_14 : List Stop) (x_15 : Int), inv_1 x_14 x_15 →
  (decide (x_15 < (↑(x.getD x_4.toNat (Route.mk (0 : Int) (0 : Int) [])).stops.length : Int)) = true → ((0 : Int) ≤ x_15 ∧ x_15 < (↑(x.getD x_4.toNat (Route.mk (0 : Int) (0 : Int) [])).stops.length : Int)) ∧ x_15.toNat < (x.getD x_4.toNat
  (Route.mk (0 : Int) (0 : Int) [])).stops.length ∧ (decide (((x.getD x_4.toNat (Route.mk (0 : Int) (0 : Int) [])).stops.getD x_15.toNat FK.stop.zero).order < (1 : Int)) = false → (decide (((x.getD x_4.toNat (Route.mk (0 : Int) (0 : Int)
  [])).stops.getD x_15.toNat FK.stop.zero).order > (1000000 : Int)) = true → false = rightP x) ∧ (decide (((x.getD x_4.toNat (Route.mk (0 : Int) (0 : Int) [])).stops.getD x_15.toNat FK.stop.zero).order > (1000000 : Int)) = false → ∃ (inv :
  Int → Prop), ∃ (μ : Int → Nat), (((x_4 = x_4 ∧ x_15 = x_15 ∧ (0 : Int) = (0 : Int)) ∧ (((x.getD x_4.toNat (Route.mk (0 : Int) (0 : Int) [])).driver = (x.getD x_4.toNat (Route.mk (0 : Int) (0 : Int) [])).driver ∧ (x.getD x_4.toNat (Route.mk
  (0 : Int) (0 : Int) [])).served = (x.getD x_4.toNat (Route.mk (0 : Int) (0 : Int) [])).served) ∧ ((x.getD x_4.toNat (Route.mk (0 : Int) (0 : Int) [])).stops.getD x_15.toNat FK.stop.zero).order = ((x.getD x_4.toNat (Route.mk (0 : Int) (0 :
  Int) [])).stops.getD x_15.toNat FK.stop.zero).order ∧ ((x.getD x_4.toNat (Route.mk (0 : Int) (0 : Int) [])).stops.getD x_15.toNat FK.stop.zero).drop = ((x.getD x_4.toNat (Route.mk (0 : Int) (0 : Int) [])).stops.getD x_15.toNat
  FK.stop.zero).drop) ∧ (x.getD x_4.toNat (Route.mk (0 : Int) (0 : Int) [])).stops = (x.getD x_4.toNat (Route.mk (0 : Int) (0 : Int) [])).stops ∧ x_14 = x_14 ∧ x = x) ∧ inv (0 : Int)) ∧ ∀ (x_20 : Int), inv x_20 → (decide (x_20 < (↑x_14.length
  : Int)) = true → ((0 : Int) ≤ x_20 ∧ x_20 < (↑x_14.length : Int)) ∧ x_20.toNat < x_14.length ∧ ((decide ((x_14.getD x_20.toNat FK.stop.zero).order = ((x.getD x_4.toNat (Route.mk (0 : Int) (0 : Int) [])).stops.getD x_15.toNat
  FK.stop.zero).order) && ((x_14.getD x_20.toNat FK.stop.zero).drop == ((x.getD x_4.toNat (Route.mk (0 : Int) (0 : Int) [])).stops.getD x_15.toNat FK.stop.zero).drop && true)) = true → false = rightP x) ∧ ((decide ((x_14.getD x_20.toNat
  FK.stop.zero).order = ((x.getD x_4.toNat (Route.mk (0 : Int) (0 : Int) [])).stops.getD x_15.toNat FK.stop.zero).order) && ((x_14.getD x_20.toNat FK.stop.zero).drop == ((x.getD x_4.toNat (Route.mk (0 : Int) (0 : Int) [])).stops.getD
  x_15.toNat FK.stop.zero).drop && true)) = false → ((x_4 = x_4 ∧ x_15 = x_15 ∧ wrap (x_20 + (1 : Int)) = wrap (x_20 + (1 : Int))) ∧ (((x.getD x_4.toNat (Route.mk (0 : Int) (0 : Int) [])).driver = (x.getD x_4.toNat (Route.mk (0 : Int) (0 :
  Int) [])).driver ∧ (x.getD x_4.toNat (Route.mk (0 : Int) (0 : Int) [])).served = (x.getD x_4.toNat (Route.mk (0 : Int) (0 : Int) [])).served) ∧ ((x.getD x_4.toNat (Route.mk (0 : Int) (0 : Int) [])).stops.getD x_15.toNat FK.stop.zero).order
  = ((x.getD x_4.toNat (Route.mk (0 : Int) (0 : Int) [])).stops.getD x_15.toNat FK.stop.zero).order ∧ ((x.getD x_4.toNat (Route.mk (0 : Int) (0 : Int) [])).stops.getD x_15.toNat FK.stop.zero).drop = ((x.getD x_4.toNat (Route.mk (0 : Int) (0 :
  Int) [])).stops.getD x_15.toNat FK.stop.zero).drop) ∧ (x.getD x_4.toNat (Route.mk (0 : Int) (0 : Int) [])).stops = (x.getD x_4.toNat (Route.mk (0 : Int) (0 : Int) [])).stops ∧ x_14 = x_14 ∧ x = x) ∧ inv (wrap (x_20 + (1 : Int))) ∧ μ (wrap
  (x_20 + (1 : Int))) < μ x_20)) ∧ (decide (x_20 < (↑x_14.length : Int)) = false → (True ∧ (x_14.length + [(x.getD x_4.toNat (Route.mk (0 : Int) (0 : Int) [])).stops.getD x_15.toNat FK.stop.zero].length) * ((8 : Nat) * (2 : Nat)) ≤
  (140737488355328 : Nat)) ∧ ((x_4 = x_4 ∧ wrap (x_15 + (1 : Int)) = wrap (x_15 + (1 : Int))) ∧ ((x.getD x_4.toNat (Route.mk (0 : Int) (0 : Int) [])).driver = (x.getD x_4.toNat (Route.mk (0 : Int) (0 : Int) [])).driver ∧ (x.getD x_4.toNat
  (Route.mk (0 : Int) (0 : Int) [])).served = (x.getD x_4.toNat (Route.mk (0 : Int) (0 : Int) [])).served) ∧ (x.getD x_4.toNat (Route.mk (0 : Int) (0 : Int) [])).stops = (x.getD x_4.toNat (Route.mk (0 : Int) (0 : Int) [])).stops ∧ x_14 ++
  [(x.getD x_4.toNat (Route.mk (0 : Int) (0 : Int) [])).stops.getD x_15.toNat FK.stop.zero] = x_14 ++ [(x.getD x_4.toNat (Route.mk (0 : Int) (0 : Int) [])).stops.getD x_15.toNat FK.stop.zero] ∧ x = x) ∧ inv_1 (x_14 ++ [(x.getD x_4.toNat
  (Route.mk (0 : Int) (0 : Int) [])).stops.getD x_15.toNat FK.stop.zero]) (wrap (x_15 + (1 : Int))) ∧ μ_1 (x_14 ++ [(x.getD x_4.toNat (Route.mk (0 : Int) (0 : Int) [])).stops.getD x_15.toNat FK.stop.zero]) (wrap (x_15 + (1 : Int))) < μ_1 x_14
  x_15))) ∧ (decide (((x.getD x_4.toNat (Route.mk (0 : Int) (0 : Int) [])).stops.getD x_15.toNat FK.stop.zero).order < (1 : Int)) = !false → false = rightP x)) ∧ (decide (x_15 < (↑(x.getD x_4.toNat (Route.mk (0 : Int) (0 : Int)
  [])).stops.length : Int)) = false → (wrap (x_4 + (1 : Int)) = wrap (x_4 + (1 : Int)) ∧ x_14 = x_14 ∧ x = x) ∧ inv x_14 (wrap (x_4 + (1 : Int))) ∧ μ x_14 (wrap (x_4 + (1 : Int))) < μ x_3 x_4))) ∧ (decide ((x.getD x_4.toNat (Route.mk (0 :
  Int) (0 : Int) [])).served < (0 : Int)) = !false → false = rightP x)) ∧ (decide ((↑(x.getD x_4.toNat (Route.mk (0 : Int) (0 : Int) [])).stops.length : Int) > (80 : Int)) = !false → false = rightP x)) ∧ (decide ((x.getD (wrap (x_4 - (1 :
  Int))).toNat (Route.mk (0 : Int) (0 : Int) [])).driver ≥ (x.getD x_4.toNat (Route.mk (0 : Int) (0 : Int) [])).driver) = !false → false = rightP x)) ∧ (decide (x_4 > (0 : Int)) = !true → (decide ((↑(x.getD x_4.toNat (Route.mk (0 : Int) (0 :
  Int) [])).stops.length : Int) > (80 : Int)) = false → (decide ((x.getD x_4.toNat (Route.mk (0 : Int) (0 : Int) [])).served < (0 : Int)) = false → (decide ((x.getD x_4.toNat (Route.mk (0 : Int) (0 : Int) [])).served > (↑(x.getD x_4.toNat
  (Route.mk (0 : Int) (0 : Int) [])).stops.length : Int)) = true → false = rightP x) ∧ (decide ((x.getD x_4.toNat (Route.mk (0 : Int) (0 : Int) [])).served > (↑(x.getD x_4.toNat (Route.mk (0 : Int) (0 : Int) [])).stops.length : Int)) = false
  → ∃ (inv_1 : List Stop → Int → Prop), ∃ (μ_1 : List Stop → Int → Nat), (((x_4 = x_4 ∧ (0 : Int) = (0 : Int)) ∧ ((x.getD x_4.toNat (Route.mk (0 : Int) (0 : Int) [])).driver = (x.getD x_4.toNat (Route.mk (0 : Int) (0 : Int) [])).driver ∧
  (x.getD x_4.toNat (Route.mk (0 : Int) (0 : Int) [])).served = (x.getD x_4.toNat (Route.mk (0 : Int) (0 : Int) [])).served) ∧ (x.getD x_4.toNat (Route.mk (0 : Int) (0 : Int) [])).stops = (x.getD x_4.toNat (Route.mk (0 : Int) (0 : Int)
  [])).stops ∧ x_3 = x_3 ∧ x = x) ∧ inv_1 x_3 (0 : Int)) ∧ ∀ (x_13 : List Stop) (x_14 : Int), inv_1 x_13 x_14 → (decide (x_14 < (↑(x.getD x_4.toNat (Route.mk (0 : Int) (0 : Int) [])).stops.length : Int)) = true → ((0 : Int) ≤ x_14 ∧ x_14 <
  (↑(x.getD x_4.toNat (Route.mk (0 : Int) (0 : Int) [])).stops.length : Int)) ∧ x_14.toNat < (x.getD x_4.toNat (Route.mk (0 : Int) (0 : Int) [])).stops.length ∧ (decide (((x.getD x_4.toNat (Route.mk (0 : Int) (0 : Int) [])).stops.getD
  x_14.toNat FK.stop.zero).order < (1 : Int)) = false → (decide (((x.getD x_4.toNat (Route.mk (0 : Int) (0 : Int) [])).stops.getD x_14.toNat FK.stop.zero).order > (1000000 : Int)) = true → false = rightP x) ∧ (decide (((x.getD x_4.toNat
  (Route.mk (0 : Int) (0 : Int) [])).stops.getD x_14.toNat FK.stop.zero).order > (1000000 : Int)) = false → ∃ (inv : Int → Prop), ∃ (μ : Int → Nat), (((x_4 = x_4 ∧ x_14 = x_14 ∧ (0 : Int) = (0 : Int)) ∧ (((x.getD x_4.toNat (Route.mk (0 : Int)
  (0 : Int) [])).driver = (x.getD x_4.toNat (Route.mk (0 : Int) (0 : Int) [])).driver ∧ (x.getD x_4.toNat (Route.mk (0 : Int) (0 : Int) [])).served = (x.getD x_4.toNat (Route.mk (0 : Int) (0 : Int) [])).served) ∧ ((x.getD x_4.toNat (Route.mk
  (0 : Int) (0 : Int) [])).stops.getD x_14.toNat FK.stop.zero).order = ((x.getD x_4.toNat (Route.mk (0 : Int) (0 : Int) [])).stops.getD x_14.toNat FK.stop.zero).order ∧ ((x.getD x_4.toNat (Route.mk (0 : Int) (0 : Int) [])).stops.getD
  x_14.toNat FK.stop.zero).drop = ((x.getD x_4.toNat (Route.mk (0 : Int) (0 : Int) [])).stops.getD x_14.toNat FK.stop.zero).drop) ∧ (x.getD x_4.toNat (Route.mk (0 : Int) (0 : Int) [])).stops = (x.getD x_4.toNat (Route.mk (0 : Int) (0 : Int)
  [])).stops ∧ x_13 = x_13 ∧ x = x) ∧ inv (0 : Int)) ∧ ∀ (x_19 : Int), inv x_19 → (decide (x_19 < (↑x_13.length : Int)) = true → ((0 : Int) ≤ x_19 ∧ x_19 < (↑x_13.length : Int)) ∧ x_19.toNat < x_13.length ∧ ((decide ((x_13.getD x_19.toNat
  FK.stop.zero).order = ((x.getD x_4.toNat (Route.mk (0 : Int) (0 : Int) [])).stops.getD x_14.toNat FK.stop.zero).order) && ((x_13.getD x_19.toNat FK.stop.zero).drop == ((x.getD x_4.toNat (Route.mk (0 : Int) (0 : Int) [])).stops.getD
  x_14.toNat FK.stop.zero).drop && true)) = true → false = rightP x) ∧ ((decide ((x_13.getD x_19.toNat FK.stop.zero).order = ((x.getD x_4.toNat (Route.mk (0 : Int) (0 : Int) [])).stops.getD x_14.toNat FK.stop.zero).order) && ((x_13.getD
  x_19.toNat FK.stop.zero).drop == ((x.getD x_4.toNat (Route.mk (0 : Int) (0 : Int) [])).stops.getD x_14.toNat FK.stop.zero).drop && true)) = false → ((x_4 = x_4 ∧ x_14 = x_14 ∧ wrap (x_19 + (1 : Int)) = wrap (x_19 + (1 : Int))) ∧ (((x.getD
  x_4.toNat (Route.mk (0 : Int) (0 : Int) [])).driver = (x.getD x_4.toNat (Route.mk (0 : Int) (0 : Int) [])).driver ∧ (x.getD x_4.toNat (Route.mk (0 : Int) (0 : Int) [])).served = (x.getD x_4.toNat (Route.mk (0 : Int) (0 : Int) [])).served) ∧
  ((x.getD x_4.toNat (Route.mk (0 : Int) (0 : Int) [])).stops.getD x_14.toNat FK.stop.zero).order = ((x.getD x_4.toNat (Route.mk (0 : Int) (0 : Int) [])).stops.getD x_14.toNat FK.stop.zero).order ∧ ((x.getD x_4.toNat (Route.mk (0 : Int) (0 :
  Int) [])).stops.getD x_14.toNat FK.stop.zero).drop = ((x.getD x_4.toNat (Route.mk (0 : Int) (0 : Int) [])).stops.getD x_14.toNat FK.stop.zero).drop) ∧ (x.getD x_4.toNat (Route.mk (0 : Int) (0 : Int) [])).stops = (x.getD x_4.toNat (Route.mk
  (0 : Int) (0 : Int) [])).stops ∧ x_13 = x_13 ∧ x = x) ∧ inv (wrap (x_19 + (1 : Int))) ∧ μ (wrap (x_19 + (1 : Int))) < μ x_19)) ∧ (decide (x_19 < (↑x_13.length : Int)) = false → (True ∧ (x_13.length + [(x.getD x_4.toNat (Route.mk (0 : Int)
  (0 : Int) [])).stops.getD x_14.toNat FK.stop.zero].length) * ((8 : Nat) * (2 : Nat)) ≤ (140737488355328 : Nat)) ∧ ((x_4 = x_4 ∧ wrap (x_14 + (1 : Int)) = wrap (x_14 + (1 : Int))) ∧ ((x.getD x_4.toNat (Route.mk (0 : Int) (0 : Int)
  [])).driver = (x.getD x_4.toNat (Route.mk (0 : Int) (0 : Int) [])).driver ∧ (x.getD x_4.toNat (Route.mk (0 : Int) (0 : Int) [])).served = (x.getD x_4.toNat (Route.mk (0 : Int) (0 : Int) [])).served) ∧ (x.getD x_4.toNat (Route.mk (0 : Int)
  (0 : Int) [])).stops = (x.getD x_4.toNat (Route.mk (0 : Int) (0 : Int) [])).stops ∧ x_13 ++ [(x.getD x_4.toNat (Route.mk (0 : Int) (0 : Int) [])).stops.getD x_14.toNat FK.stop.zero] = x_13 ++ [(x.getD x_4.toNat (Route.mk (0 : Int) (0 : Int)
  [])).stops.getD x_14.toNat FK.stop.zero] ∧ x = x) ∧ inv_1 (x_13 ++ [(x.getD x_4.toNat (Route.mk (0 : Int) (0 : Int) [])).stops.getD x_14.toNat FK.stop.zero]) (wrap (x_14 + (1 : Int))) ∧ μ_1 (x_13 ++ [(x.getD x_4.toNat (Route.mk (0 : Int) (0
  : Int) [])).stops.getD x_14.toNat FK.stop.zero]) (wrap (x_14 + (1 : Int))) < μ_1 x_13 x_14))) ∧ (decide (((x.getD x_4.toNat (Route.mk (0 : Int) (0 : Int) [])).stops.getD x_14.toNat FK.stop.zero).order < (1 : Int)) = !false → false = rightP
  x)) ∧ (decide (x_14 < (↑(x.getD x_4.toNat (Route.mk (0 : Int) (0 : Int) [])).stops.length : Int)) = false → (wrap (x_4 + (1 : Int)) = wrap (x_4 + (1 : Int)) ∧ x_13 = x_13 ∧ x = x) ∧ inv x_13 (wrap (x_4 + (1 : Int))) ∧ μ x_13 (wrap (x_4 + (1
  : Int))) < μ x_3 x_4))) ∧ (decide ((x.getD x_4.toNat (Route.mk (0 : Int) (0 : Int) [])).served < (0 : Int)) = !false → false = rightP x)) ∧ (decide ((↑(x.getD x_4.toNat (Route.mk (0 : Int) (0 : Int) [])).stops.length : Int) > (80 : Int)) =
  !false → false = rightP x))) ∧ (decide ((x.getD x_4.toNat (Route.mk (0 : Int) (0 : Int) [])).driver > (1000000 : Int)) = !false → false = rightP x)) ∧ (decide ((x.getD x_4.toNat (Route.mk (0 : Int) (0 : Int) [])).driver < (1 : Int)) =
  !false → false = rightP x)) ∧ (decide (x_4 < (↑x.length : Int)) = false → true = rightP x))
theorem rPright_told (hc : CsOk Try.prog rPright_cs) (h : rPright_vc) : Told Try.prog 24 rPright_con := told (A := rPright_la) tabOk mixed hc Try.func24 (by kernel_rfl) (by kernel_rfl) h
def pfind_vc : Prop :=
  ∀ (x : List Route), (LenOk x.length ∧ ∀ (r : Route), List.Mem r x → LenOk r.stops.length) → ∀ (x_2 : Int), ∃ (inv : Int → Prop), ∃ (μ : Int → Nat), (((x_2 = x_2 ∧ (↑x.length : Int) = (↑x.length : Int) ∧ (0 : Int) = (0 : Int)) ∧ ((0 : Int) =
  (0 : Int) ∧ (0 : Int) = (0 : Int) ∧ (0 : Int) = (0 : Int) ∧ (0 : Int) = (0 : Int)) ∧ x = x) ∧ inv (0 : Int)) ∧ ∀ (x_3 : Int), inv x_3 → (decide (x_3 < (↑x.length : Int)) = true → ((0 : Int) ≤ x_3 ∧ x_3 < (↑x.length : Int)) ∧ x_3.toNat <
  x.length ∧ (decide (whereS (Stop.mk x_2 false) (x.getD x_3.toNat (Route.mk (0 : Int) (0 : Int) [])).stops ≥ (0 : Int)) = false → (decide (whereS (Stop.mk x_2 true) (x.getD x_3.toNat (Route.mk (0 : Int) (0 : Int) [])).stops ≥ (0 : Int)) =
  true → ((x.getD x_3.toNat (Route.mk (0 : Int) (0 : Int) [])).driver = ((findP x_2 x).getD FK.spot.zero).driver ∧ whereS (Stop.mk x_2 false) (x.getD x_3.toNat (Route.mk (0 : Int) (0 : Int) [])).stops = ((findP x_2 x).getD FK.spot.zero).pick
  ∧ whereS (Stop.mk x_2 true) (x.getD x_3.toNat (Route.mk (0 : Int) (0 : Int) [])).stops = ((findP x_2 x).getD FK.spot.zero).drop ∧ (0 : Int) = ((findP x_2 x).getD FK.spot.zero).cost) ∧ true = (findP x_2 x).isSome) ∧ (decide (whereS (Stop.mk
  x_2 true) (x.getD x_3.toNat (Route.mk (0 : Int) (0 : Int) [])).stops ≥ (0 : Int)) = false → ((x_2 = x_2 ∧ (↑x.length : Int) = (↑x.length : Int) ∧ wrap (x_3 + (1 : Int)) = wrap (x_3 + (1 : Int))) ∧ ((0 : Int) = (0 : Int) ∧ (0 : Int) = (0 :
  Int) ∧ (0 : Int) = (0 : Int) ∧ (0 : Int) = (0 : Int)) ∧ x = x) ∧ inv (wrap (x_3 + (1 : Int))) ∧ μ (wrap (x_3 + (1 : Int))) < μ x_3)) ∧ (decide (whereS (Stop.mk x_2 false) (x.getD x_3.toNat (Route.mk (0 : Int) (0 : Int) [])).stops ≥ (0 :
  Int)) = !false → ((x.getD x_3.toNat (Route.mk (0 : Int) (0 : Int) [])).driver = ((findP x_2 x).getD FK.spot.zero).driver ∧ whereS (Stop.mk x_2 false) (x.getD x_3.toNat (Route.mk (0 : Int) (0 : Int) [])).stops = ((findP x_2 x).getD
  FK.spot.zero).pick ∧ whereS (Stop.mk x_2 true) (x.getD x_3.toNat (Route.mk (0 : Int) (0 : Int) [])).stops = ((findP x_2 x).getD FK.spot.zero).drop ∧ (0 : Int) = ((findP x_2 x).getD FK.spot.zero).cost) ∧ true = (findP x_2 x).isSome)) ∧
  (decide (x_3 < (↑x.length : Int)) = false → ((0 : Int) = ((findP x_2 x).getD FK.spot.zero).driver ∧ (0 : Int) = ((findP x_2 x).getD FK.spot.zero).pick ∧ (0 : Int) = ((findP x_2 x).getD FK.spot.zero).drop ∧ (0 : Int) = ((findP x_2 x).getD
  FK.spot.zero).cost) ∧ false = (findP x_2 x).isSome)
theorem pfind_told (hc : CsOk Try.prog pfind_cs) (h : pfind_vc) : Told Try.prog 25 pfind_con := told (A := pfind_la) tabOk mixed hc Try.func25 (by kernel_rfl) (by kernel_rfl) h
def rPfind_vc : Prop :=
  ∀ (x : List Route), (LenOk x.length ∧ ∀ (r : Route), List.Mem r x → LenOk r.stops.length) → ∀ (x_2 : Int), ∃ (inv : Int → Prop), ∃ (μ : Int → Nat), (((x_2 = x_2 ∧ (0 : Int) = (0 : Int)) ∧ ((0 : Int) = (0 : Int) ∧ (0 : Int) = (0 : Int) ∧ (0
  : Int) = (0 : Int) ∧ (0 : Int) = (0 : Int)) ∧ x = x) ∧ inv (0 : Int)) ∧ ∀ (x_3 : Int), inv x_3 → (decide (x_3 < (↑x.length : Int)) = true → ((0 : Int) ≤ x_3 ∧ x_3 < (↑x.length : Int)) ∧ x_3.toNat < x.length ∧ ((0 : Int) ≤ x_3 ∧ x_3 <
  (↑x.length : Int)) ∧ x_3.toNat < x.length ∧ (decide (whereS (Stop.mk x_2 false) (x.getD x_3.toNat (Route.mk (0 : Int) (0 : Int) [])).stops ≥ (0 : Int)) = false → (decide (whereS (Stop.mk x_2 true) (x.getD x_3.toNat (Route.mk (0 : Int) (0 :
  Int) [])).stops ≥ (0 : Int)) = true → ((0 : Int) ≤ x_3 ∧ x_3 < (↑x.length : Int)) ∧ x_3.toNat < x.length ∧ ((x.getD x_3.toNat (Route.mk (0 : Int) (0 : Int) [])).driver = ((findP x_2 x).getD FK.spot.zero).driver ∧ whereS (Stop.mk x_2 false)
  (x.getD x_3.toNat (Route.mk (0 : Int) (0 : Int) [])).stops = ((findP x_2 x).getD FK.spot.zero).pick ∧ whereS (Stop.mk x_2 true) (x.getD x_3.toNat (Route.mk (0 : Int) (0 : Int) [])).stops = ((findP x_2 x).getD FK.spot.zero).drop ∧ (0 : Int)
  = ((findP x_2 x).getD FK.spot.zero).cost) ∧ true = (findP x_2 x).isSome) ∧ (decide (whereS (Stop.mk x_2 true) (x.getD x_3.toNat (Route.mk (0 : Int) (0 : Int) [])).stops ≥ (0 : Int)) = false → ((x_2 = x_2 ∧ wrap (x_3 + (1 : Int)) = wrap (x_3
  + (1 : Int))) ∧ ((0 : Int) = (0 : Int) ∧ (0 : Int) = (0 : Int) ∧ (0 : Int) = (0 : Int) ∧ (0 : Int) = (0 : Int)) ∧ x = x) ∧ inv (wrap (x_3 + (1 : Int))) ∧ μ (wrap (x_3 + (1 : Int))) < μ x_3)) ∧ (decide (whereS (Stop.mk x_2 false) (x.getD
  x_3.toNat (Route.mk (0 : Int) (0 : Int) [])).stops ≥ (0 : Int)) = !false → ((0 : Int) ≤ x_3 ∧ x_3 < (↑x.length : Int)) ∧ x_3.toNat < x.length ∧ ((x.getD x_3.toNat (Route.mk (0 : Int) (0 : Int) [])).driver = ((findP x_2 x).getD
  FK.spot.zero).driver ∧ whereS (Stop.mk x_2 false) (x.getD x_3.toNat (Route.mk (0 : Int) (0 : Int) [])).stops = ((findP x_2 x).getD FK.spot.zero).pick ∧ whereS (Stop.mk x_2 true) (x.getD x_3.toNat (Route.mk (0 : Int) (0 : Int) [])).stops =
  ((findP x_2 x).getD FK.spot.zero).drop ∧ (0 : Int) = ((findP x_2 x).getD FK.spot.zero).cost) ∧ true = (findP x_2 x).isSome)) ∧ (decide (x_3 < (↑x.length : Int)) = false → ((0 : Int) = ((findP x_2 x).getD FK.spot.zero).driver ∧ (0 : Int) =
  ((findP x_2 x).getD FK.spot.zero).pick ∧ (0 : Int) = ((findP x_2 x).getD FK.spot.zero).drop ∧ (0 : Int) = ((findP x_2 x).getD FK.spot.zero).cost) ∧ false = (findP x_2 x).isSome)
theorem rPfind_told (hc : CsOk Try.prog rPfind_cs) (h : rPfind_vc) : Told Try.prog 47 rPfind_con := told (A := rPfind_la) tabOk mixed hc Try.func47 (by kernel_rfl) (by kernel_rfl) h
def cdriver_vc : Prop :=
  ∀ (x : List Driver), LenOk x.length → ∀ (x_2 : Int), ∃ (inv : Int → Prop), ∃ (μ : Int → Nat), (((x_2 = x_2 ∧ (↑x.length : Int) = (↑x.length : Int) ∧ (0 : Int) = (0 : Int)) ∧ ((0 : Int) = (0 : Int) ∧ (0 : Int) = (0 : Int) ∧ (0 : Int) = (0 :
  Int) ∧ (0 : Int) = (0 : Int) ∧ (0 : Int) = (0 : Int)) ∧ x = x) ∧ inv (0 : Int)) ∧ ∀ (x_3 : Int), inv x_3 → (decide (x_3 < (↑x.length : Int)) = true → ((0 : Int) ≤ x_3 ∧ x_3 < (↑x.length : Int)) ∧ x_3.toNat < x.length ∧ (decide ((x.getD
  x_3.toNat FK.driver.zero).id = x_2) = true → ((x.getD x_3.toNat FK.driver.zero).id = ((findD x_2 x).getD FK.driver.zero).id ∧ (x.getD x_3.toNat FK.driver.zero).room = ((findD x_2 x).getD FK.driver.zero).room ∧ (x.getD x_3.toNat
  FK.driver.zero).home = ((findD x_2 x).getD FK.driver.zero).home ∧ (x.getD x_3.toNat FK.driver.zero).lo = ((findD x_2 x).getD FK.driver.zero).lo ∧ (x.getD x_3.toNat FK.driver.zero).hi = ((findD x_2 x).getD FK.driver.zero).hi ∧ (x.getD
  x_3.toNat FK.driver.zero).retired = ((findD x_2 x).getD FK.driver.zero).retired) ∧ true = (findD x_2 x).isSome) ∧ (decide ((x.getD x_3.toNat FK.driver.zero).id = x_2) = false → ((x_2 = x_2 ∧ (↑x.length : Int) = (↑x.length : Int) ∧ wrap (x_3
  + (1 : Int)) = wrap (x_3 + (1 : Int))) ∧ ((0 : Int) = (0 : Int) ∧ (0 : Int) = (0 : Int) ∧ (0 : Int) = (0 : Int) ∧ (0 : Int) = (0 : Int) ∧ (0 : Int) = (0 : Int)) ∧ x = x) ∧ inv (wrap (x_3 + (1 : Int))) ∧ μ (wrap (x_3 + (1 : Int))) < μ x_3))
  ∧ (decide (x_3 < (↑x.length : Int)) = false → ((0 : Int) = ((findD x_2 x).getD FK.driver.zero).id ∧ (0 : Int) = ((findD x_2 x).getD FK.driver.zero).room ∧ (0 : Int) = ((findD x_2 x).getD FK.driver.zero).home ∧ (0 : Int) = ((findD x_2
  x).getD FK.driver.zero).lo ∧ (0 : Int) = ((findD x_2 x).getD FK.driver.zero).hi ∧ false = ((findD x_2 x).getD FK.driver.zero).retired) ∧ false = (findD x_2 x).isSome)
theorem cdriver_told (hc : CsOk Try.prog cdriver_cs) (h : cdriver_vc) : Told Try.prog 40 cdriver_con := told (A := cdriver_la) tabOk mixed hc Try.func40 (by kernel_rfl) (by kernel_rfl) h
def rCdriver_vc : Prop :=
  ∀ (x : List Driver), LenOk x.length → ∀ (x_2 : Int), ∃ (inv : Int → Prop), ∃ (μ : Int → Nat), (((x_2 = x_2 ∧ (0 : Int) = (0 : Int)) ∧ ((0 : Int) = (0 : Int) ∧ (0 : Int) = (0 : Int) ∧ (0 : Int) = (0 : Int) ∧ (0 : Int) = (0 : Int) ∧ (0 : Int)
  = (0 : Int)) ∧ x = x) ∧ inv (0 : Int)) ∧ ∀ (x_3 : Int), inv x_3 → (decide (x_3 < (↑x.length : Int)) = true → ((0 : Int) ≤ x_3 ∧ x_3 < (↑x.length : Int)) ∧ x_3.toNat < x.length ∧ (decide ((x.getD x_3.toNat FK.driver.zero).id = x_2) = true →
  ((0 : Int) ≤ x_3 ∧ x_3 < (↑x.length : Int)) ∧ x_3.toNat < x.length ∧ ((x.getD x_3.toNat FK.driver.zero).id = ((findD x_2 x).getD FK.driver.zero).id ∧ (x.getD x_3.toNat FK.driver.zero).room = ((findD x_2 x).getD FK.driver.zero).room ∧
  (x.getD x_3.toNat FK.driver.zero).home = ((findD x_2 x).getD FK.driver.zero).home ∧ (x.getD x_3.toNat FK.driver.zero).lo = ((findD x_2 x).getD FK.driver.zero).lo ∧ (x.getD x_3.toNat FK.driver.zero).hi = ((findD x_2 x).getD
  FK.driver.zero).hi ∧ (x.getD x_3.toNat FK.driver.zero).retired = ((findD x_2 x).getD FK.driver.zero).retired) ∧ true = (findD x_2 x).isSome) ∧ (decide ((x.getD x_3.toNat FK.driver.zero).id = x_2) = false → ((x_2 = x_2 ∧ wrap (x_3 + (1 :
  Int)) = wrap (x_3 + (1 : Int))) ∧ ((0 : Int) = (0 : Int) ∧ (0 : Int) = (0 : Int) ∧ (0 : Int) = (0 : Int) ∧ (0 : Int) = (0 : Int) ∧ (0 : Int) = (0 : Int)) ∧ x = x) ∧ inv (wrap (x_3 + (1 : Int))) ∧ μ (wrap (x_3 + (1 : Int))) < μ x_3)) ∧
  (decide (x_3 < (↑x.length : Int)) = false → ((0 : Int) = ((findD x_2 x).getD FK.driver.zero).id ∧ (0 : Int) = ((findD x_2 x).getD FK.driver.zero).room ∧ (0 : Int) = ((findD x_2 x).getD FK.driver.zero).home ∧ (0 : Int) = ((findD x_2 x).getD
  FK.driver.zero).lo ∧ (0 : Int) = ((findD x_2 x).getD FK.driver.zero).hi ∧ false = ((findD x_2 x).getD FK.driver.zero).retired) ∧ false = (findD x_2 x).isSome)
theorem rCdriver_told (hc : CsOk Try.prog rCdriver_cs) (h : rCdriver_vc) : Told Try.prog 45 rCdriver_con := told (A := rCdriver_la) tabOk mixed hc Try.func45 (by kernel_rfl) (by kernel_rfl) h
def ctog_vc : Prop :=
  (∀ (x : List Driver), LenOk x.length → ∀ (x_2 : List Order), LenOk x_2.length → ∀ (x_4 : List Route), (LenOk x_4.length ∧ ∀ (r : Route), List.Mem r x_4 → LenOk r.stops.length) → (∀ (x : MapD), none = some x → MapOk x) → false = wellP none x
  x_2 x_4) ∧ ∀ (x : MapD), LenOk x.l.length → ∀ (x_2 : List Driver), LenOk x_2.length → ∀ (x_4 : List Order), LenOk x_4.length → ∀ (x_6 : List Route), (LenOk x_6.length ∧ ∀ (r : Route), List.Mem r x_6 → LenOk r.stops.length) → (∀ (x_8 :
  MapD), some x = some x_8 → MapOk x_8) → (decide ((↑x_2.length : Int) > (8 : Int)) = false → (∀ (x_10 : MapD), some x = some x_10 → MapOk x_10) ∧ ((!knownO (some x) x_4) = false → ((!rightP x_6) = true → false = wellP (some x) x_2 x_4 x_6) ∧
  ((!rightP x_6) = false → ∃ (inv : Int → Prop), ∃ (μ : Int → Nat), ((((↑x_2.length : Int) = (↑x_2.length : Int) ∧ (0 : Int) = (0 : Int)) ∧ x.n = x.n ∧ x.l = x.l ∧ x_2 = x_2) ∧ inv (0 : Int)) ∧ ∀ (x_12 : Int), inv x_12 → (decide (x_12 <
  (↑x_2.length : Int)) = true → ((0 : Int) ≤ x_12 ∧ x_12 < (↑x_2.length : Int)) ∧ x_12.toNat < x_2.length ∧ ((0 : Int) ≤ (0 : Int) ∧ (0 : Int) ≤ x_12 ∧ x_12 ≤ (↑x_2.length : Int)) ∧ Int.toNat (0 : Int) + (x_12.toNat - Int.toNat (0 : Int)) ≤
  x_2.length ∧ ((findD (x_2.getD x_12.toNat FK.driver.zero).id (part x_2 (Int.toNat (0 : Int)) (x_12.toNat - Int.toNat (0 : Int)))).isSome = false → (∀ (x_16 : MapD), some x = some x_16 → MapOk x_16) ∧ ((!decide (driverE (some x) (x_2.getD
  x_12.toNat FK.driver.zero) = (0 : Int))) = true → false = wellP (some x) x_2 x_4 x_6) ∧ ((!decide (driverE (some x) (x_2.getD x_12.toNat FK.driver.zero) = (0 : Int))) = false → (((↑x_2.length : Int) = (↑x_2.length : Int) ∧ wrap (x_12 + (1 :
  Int)) = wrap (x_12 + (1 : Int))) ∧ x.n = x.n ∧ x.l = x.l ∧ x_2 = x_2) ∧ inv (wrap (x_12 + (1 : Int))) ∧ μ (wrap (x_12 + (1 : Int))) < μ x_12)) ∧ ((findD (x_2.getD x_12.toNat FK.driver.zero).id (part x_2 (Int.toNat (0 : Int)) (x_12.toNat -
  Int.toNat (0 : Int)))).isSome = !false → false = wellP (some x) x_2 x_4 x_6)) ∧ (decide (x_12 < (↑x_2.length : Int)) = false → true = wellP (some x) x_2 x_4 x_6))) ∧ ((!knownO (some x) x_4) = !false → false = wellP (some x) x_2 x_4 x_6)) ∧
  (decide ((↑x_2.length : Int) > (8 : Int)) = !false → false = wellP (some x) x_2 x_4 x_6)
theorem ctog_told (hc : CsOk Try.prog ctog_cs) (h : ctog_vc) : Told Try.prog 39 ctog_con := told (A := ctog_la) tabOk mixed hc Try.func39 (by kernel_rfl) (by kernel_rfl) h
def rWell_vc : Prop :=
  (∀ (x : List Driver), LenOk x.length → ∀ (x_2 : List Order), LenOk x_2.length → ∀ (x_4 : List Route), (LenOk x_4.length ∧ ∀ (r : Route), List.Mem r x_4 → LenOk r.stops.length) → (∀ (x : MapD), none = some x → MapOk x) → false = wellP none x
  x_2 x_4) ∧ ∀ (x : MapD), LenOk x.l.length → ∀ (x_2 : List Driver), LenOk x_2.length → ∀ (x_4 : List Order), LenOk x_4.length → ∀ (x_6 : List Route), (LenOk x_6.length ∧ ∀ (r : Route), List.Mem r x_6 → LenOk r.stops.length) → (∀ (x_8 :
  MapD), some x = some x_8 → MapOk x_8) → (decide ((↑x_2.length : Int) > (8 : Int)) = false → ((!knownO (some x) x_4) = false → ((!rightP x_6) = true → false = wellP (some x) x_2 x_4 x_6) ∧ ((!rightP x_6) = false → ∃ (inv : Int → Prop), ∃ (μ
  : Int → Nat), (((0 : Int) = (0 : Int) ∧ x.n = x.n ∧ x.l = x.l ∧ x_2 = x_2) ∧ inv (0 : Int)) ∧ ∀ (x_12 : Int), inv x_12 → (decide (x_12 < (↑x_2.length : Int)) = true → ((0 : Int) ≤ x_12 ∧ x_12 < (↑x_2.length : Int)) ∧ x_12.toNat < x_2.length
  ∧ ((!decide (driverE (some x) (x_2.getD x_12.toNat FK.driver.zero) = (0 : Int))) = true → false = wellP (some x) x_2 x_4 x_6) ∧ ((!decide (driverE (some x) (x_2.getD x_12.toNat FK.driver.zero) = (0 : Int))) = false → ∃ (inv_1 : Int → Prop),
  ∃ (μ_1 : Int → Nat), (((x_12 = x_12 ∧ (0 : Int) = (0 : Int)) ∧ x.n = x.n ∧ x.l = x.l ∧ x_2 = x_2) ∧ inv_1 (0 : Int)) ∧ ∀ (x_16 : Int), inv_1 x_16 → (decide (x_16 < x_12) = true → ((0 : Int) ≤ x_16 ∧ x_16 < (↑x_2.length : Int)) ∧ x_16.toNat
  < x_2.length ∧ ((0 : Int) ≤ x_12 ∧ x_12 < (↑x_2.length : Int)) ∧ x_12.toNat < x_2.length ∧ (decide ((x_2.getD x_16.toNat FK.driver.zero).id = (x_2.getD x_12.toNat FK.driver.zero).id) = true → false = wellP (some x) x_2 x_4 x_6) ∧ (decide
  ((x_2.getD x_16.toNat FK.driver.zero).id = (x_2.getD x_12.toNat FK.driver.zero).id) = false → ((x_12 = x_12 ∧ wrap (x_16 + (1 : Int)) = wrap (x_16 + (1 : Int))) ∧ x.n = x.n ∧ x.l = x.l ∧ x_2 = x_2) ∧ inv_1 (wrap (x_16 + (1 : Int))) ∧ μ_1
  (wrap (x_16 + (1 : Int))) < μ_1 x_16)) ∧ (decide (x_16 < x_12) = false → (wrap (x_12 + (1 : Int)) = wrap (x_12 + (1 : Int)) ∧ x.n = x.n ∧ x.l = x.l ∧ x_2 = x_2) ∧ inv (wrap (x_12 + (1 : Int))) ∧ μ (wrap (x_12 + (1 : Int))) < μ x_12))) ∧
  (decide (x_12 < (↑x_2.length : Int)) = false → true = wellP (some x) x_2 x_4 x_6))) ∧ ((!knownO (some x) x_4) = !false → false = wellP (some x) x_2 x_4 x_6)) ∧ (decide ((↑x_2.length : Int) > (8 : Int)) = !false → false = wellP (some x) x_2
  x_4 x_6)
theorem rWell_told (hc : CsOk Try.prog rWell_cs) (h : rWell_vc) : Told Try.prog 44 rWell_con := told (A := rWell_la) tabOk mixed hc Try.func44 (by kernel_rfl) (by kernel_rfl) h
def rNumber_vc : Prop :=
  ∀ (x : List Route), (LenOk x.length ∧ ∀ (r : Route), List.Mem r x → LenOk r.stops.length) → ∀ (x_2 : Int), ∃ (inv : Int → Prop), ∃ (μ : Int → Nat), (((x_2 = x_2 ∧ (0 : Int) = (0 : Int)) ∧ x = x) ∧ inv (0 : Int)) ∧ ∀ (x_3 : Int), inv x_3 →
  (decide (x_3 < (↑x.length : Int)) = true → ((0 : Int) ≤ x_3 ∧ x_3 < (↑x.length : Int)) ∧ x_3.toNat < x.length ∧ (decide ((x.getD x_3.toNat (Route.mk (0 : Int) (0 : Int) [])).driver = x_2) = true → x_3 = numberP x_2 x) ∧ (decide ((x.getD
  x_3.toNat (Route.mk (0 : Int) (0 : Int) [])).driver = x_2) = false → ((x_2 = x_2 ∧ wrap (x_3 + (1 : Int)) = wrap (x_3 + (1 : Int))) ∧ x = x) ∧ inv (wrap (x_3 + (1 : Int))) ∧ μ (wrap (x_3 + (1 : Int))) < μ x_3)) ∧ (decide (x_3 < (↑x.length :
  Int)) = false → (-1 : Int) = numberP x_2 x)
theorem rNumber_told (hc : CsOk Try.prog rNumber_cs) (h : rNumber_vc) : Told Try.prog 49 rNumber_con := told (A := rNumber_la) tabOk mixed hc Try.func49 (by kernel_rfl) (by kernel_rfl) h
def akept_vc : Prop :=
  ∀ (x : List Route), (LenOk x.length ∧ ∀ (r : Route), List.Mem r x → LenOk r.stops.length) → ∀ (x_2 : List Route), (LenOk x_2.length ∧ ∀ (r : Route), List.Mem r x_2 → LenOk r.stops.length) → ((!rightP x) = false → ((!rightP x_2) = true →
  false = keptP x x_2) ∧ ((!rightP x_2) = false → ∃ (inv : Int → Prop), ∃ (μ : Int → Nat), ((((↑x.length : Int) = (↑x.length : Int) ∧ (0 : Int) = (0 : Int)) ∧ x_2 = x_2 ∧ x = x) ∧ inv (0 : Int)) ∧ ∀ (x_6 : Int), inv x_6 → (decide (x_6 <
  (↑x.length : Int)) = true → ((0 : Int) ≤ x_6 ∧ x_6 < (↑x.length : Int)) ∧ x_6.toNat < x.length ∧ ∃ (inv_1 : Int → Prop), ∃ (μ_1 : Int → Nat), ((((x.getD x_6.toNat (Route.mk (0 : Int) (0 : Int) [])).driver = (x.getD x_6.toNat (Route.mk (0 :
  Int) (0 : Int) [])).driver ∧ (↑x_2.length : Int) = (↑x_2.length : Int) ∧ (0 : Int) = (0 : Int)) ∧ (((x.getD x_6.toNat (Route.mk (0 : Int) (0 : Int) [])).driver = (x.getD x_6.toNat (Route.mk (0 : Int) (0 : Int) [])).driver ∧ (x.getD
  x_6.toNat (Route.mk (0 : Int) (0 : Int) [])).served = (x.getD x_6.toNat (Route.mk (0 : Int) (0 : Int) [])).served) ∧ (0 : Int) = (0 : Int) ∧ (0 : Int) = (0 : Int)) ∧ (x.getD x_6.toNat (Route.mk (0 : Int) (0 : Int) [])).stops = (x.getD
  x_6.toNat (Route.mk (0 : Int) (0 : Int) [])).stops ∧ x_2 = x_2 ∧ x = x) ∧ inv_1 (0 : Int)) ∧ ∀ (x_9 : Int), inv_1 x_9 → (decide (x_9 < (↑x_2.length : Int)) = true → ((0 : Int) ≤ x_9 ∧ x_9 < (↑x_2.length : Int)) ∧ x_9.toNat < x_2.length ∧
  (decide ((x_2.getD x_9.toNat (Route.mk (0 : Int) (0 : Int) [])).driver = (x.getD x_6.toNat (Route.mk (0 : Int) (0 : Int) [])).driver) = true → (((↑x.length : Int) = (↑x.length : Int) ∧ wrap (x_6 + (1 : Int)) = wrap (x_6 + (1 : Int))) ∧ x_2
  = x_2 ∧ x = x) ∧ inv (wrap (x_6 + (1 : Int))) ∧ μ (wrap (x_6 + (1 : Int))) < μ x_6) ∧ (decide ((x_2.getD x_9.toNat (Route.mk (0 : Int) (0 : Int) [])).driver = (x.getD x_6.toNat (Route.mk (0 : Int) (0 : Int) [])).driver) = false → (((x.getD
  x_6.toNat (Route.mk (0 : Int) (0 : Int) [])).driver = (x.getD x_6.toNat (Route.mk (0 : Int) (0 : Int) [])).driver ∧ (↑x_2.length : Int) = (↑x_2.length : Int) ∧ wrap (x_9 + (1 : Int)) = wrap (x_9 + (1 : Int))) ∧ (((x.getD x_6.toNat (Route.mk
  (0 : Int) (0 : Int) [])).driver = (x.getD x_6.toNat (Route.mk (0 : Int) (0 : Int) [])).driver ∧ (x.getD x_6.toNat (Route.mk (0 : Int) (0 : Int) [])).served = (x.getD x_6.toNat (Route.mk (0 : Int) (0 : Int) [])).served) ∧ (0 : Int) = (0 :
  Int) ∧ (0 : Int) = (0 : Int)) ∧ (x.getD x_6.toNat (Route.mk (0 : Int) (0 : Int) [])).stops = (x.getD x_6.toNat (Route.mk (0 : Int) (0 : Int) [])).stops ∧ x_2 = x_2 ∧ x = x) ∧ inv_1 (wrap (x_9 + (1 : Int))) ∧ μ_1 (wrap (x_9 + (1 : Int))) <
  μ_1 x_9)) ∧ (decide (x_9 < (↑x_2.length : Int)) = false → false = keptP x x_2)) ∧ (decide (x_6 < (↑x.length : Int)) = false → ∃ (inv : Int → Prop), ∃ (μ : Int → Nat), ((((↑x_2.length : Int) = (↑x_2.length : Int) ∧ (0 : Int) = (0 : Int)) ∧
  x_2 = x_2 ∧ x = x) ∧ inv (0 : Int)) ∧ ∀ (x_9 : Int), inv x_9 → (decide (x_9 < (↑x_2.length : Int)) = true → ((0 : Int) ≤ x_9 ∧ x_9 < (↑x_2.length : Int)) ∧ x_9.toNat < x_2.length ∧ ∃ (inv_1 : Int → Prop), ∃ (μ_1 : Int → Nat), ((((x_2.getD
  x_9.toNat (Route.mk (0 : Int) (0 : Int) [])).driver = (x_2.getD x_9.toNat (Route.mk (0 : Int) (0 : Int) [])).driver ∧ (↑x.length : Int) = (↑x.length : Int) ∧ (0 : Int) = (0 : Int)) ∧ (((x_2.getD x_9.toNat (Route.mk (0 : Int) (0 : Int)
  [])).driver = (x_2.getD x_9.toNat (Route.mk (0 : Int) (0 : Int) [])).driver ∧ (x_2.getD x_9.toNat (Route.mk (0 : Int) (0 : Int) [])).served = (x_2.getD x_9.toNat (Route.mk (0 : Int) (0 : Int) [])).served) ∧ (0 : Int) = (0 : Int) ∧ (0 : Int)
  = (0 : Int)) ∧ (x_2.getD x_9.toNat (Route.mk (0 : Int) (0 : Int) [])).stops = (x_2.getD x_9.toNat (Route.mk (0 : Int) (0 : Int) [])).stops ∧ x_2 = x_2 ∧ x = x) ∧ inv_1 (0 : Int)) ∧ ∀ (x_12 : Int), inv_1 x_12 → (decide (x_12 < (↑x.length :
  Int)) = true → ((0 : Int) ≤ x_12 ∧ x_12 < (↑x.length : Int)) ∧ x_12.toNat < x.length ∧ (decide ((x.getD x_12.toNat (Route.mk (0 : Int) (0 : Int) [])).driver = (x_2.getD x_9.toNat (Route.mk (0 : Int) (0 : Int) [])).driver) = true → ((!decide
  ((x_2.getD x_9.toNat (Route.mk (0 : Int) (0 : Int) [])).served = (x.getD x_12.toNat (Route.mk (0 : Int) (0 : Int) [])).served)) = true → false = keptP x x_2) ∧ ((!decide ((x_2.getD x_9.toNat (Route.mk (0 : Int) (0 : Int) [])).served =
  (x.getD x_12.toNat (Route.mk (0 : Int) (0 : Int) [])).served)) = false → ∃ (inv_2 : Int → Prop), ∃ (μ_2 : Int → Nat), ((((↑x_2.length : Int) = (↑x_2.length : Int) ∧ x_9 = x_9 ∧ (x_2.getD x_9.toNat (Route.mk (0 : Int) (0 : Int) [])).served =
  (x_2.getD x_9.toNat (Route.mk (0 : Int) (0 : Int) [])).served ∧ (0 : Int) = (0 : Int)) ∧ (((x_2.getD x_9.toNat (Route.mk (0 : Int) (0 : Int) [])).driver = (x_2.getD x_9.toNat (Route.mk (0 : Int) (0 : Int) [])).driver ∧ (x_2.getD x_9.toNat
  (Route.mk (0 : Int) (0 : Int) [])).served = (x_2.getD x_9.toNat (Route.mk (0 : Int) (0 : Int) [])).served) ∧ (x.getD x_12.toNat (Route.mk (0 : Int) (0 : Int) [])).driver = (x.getD x_12.toNat (Route.mk (0 : Int) (0 : Int) [])).driver ∧
  (x.getD x_12.toNat (Route.mk (0 : Int) (0 : Int) [])).served = (x.getD x_12.toNat (Route.mk (0 : Int) (0 : Int) [])).served) ∧ (x.getD x_12.toNat (Route.mk (0 : Int) (0 : Int) [])).stops = (x.getD x_12.toNat (Route.mk (0 : Int) (0 : Int)
  [])).stops ∧ (x_2.getD x_9.toNat (Route.mk (0 : Int) (0 : Int) [])).stops = (x_2.getD x_9.toNat (Route.mk (0 : Int) (0 : Int) [])).stops ∧ x_2 = x_2 ∧ x = x) ∧ inv_2 (0 : Int)) ∧ ∀ (x_17 : Int), inv_2 x_17 → (decide (x_17 < (x_2.getD
  x_9.toNat (Route.mk (0 : Int) (0 : Int) [])).served) = true → ((0 : Int) ≤ x_17 ∧ x_17 < (↑(x_2.getD x_9.toNat (Route.mk (0 : Int) (0 : Int) [])).stops.length : Int)) ∧ x_17.toNat < (x_2.getD x_9.toNat (Route.mk (0 : Int) (0 : Int)
  [])).stops.length ∧ ((0 : Int) ≤ x_17 ∧ x_17 < (↑(x.getD x_12.toNat (Route.mk (0 : Int) (0 : Int) [])).stops.length : Int)) ∧ x_17.toNat < (x.getD x_12.toNat (Route.mk (0 : Int) (0 : Int) [])).stops.length ∧ ((!(decide (((x_2.getD x_9.toNat
  (Route.mk (0 : Int) (0 : Int) [])).stops.getD x_17.toNat FK.stop.zero).order = ((x.getD x_12.toNat (Route.mk (0 : Int) (0 : Int) [])).stops.getD x_17.toNat FK.stop.zero).order) && (((x_2.getD x_9.toNat (Route.mk (0 : Int) (0 : Int)
  [])).stops.getD x_17.toNat FK.stop.zero).drop == ((x.getD x_12.toNat (Route.mk (0 : Int) (0 : Int) [])).stops.getD x_17.toNat FK.stop.zero).drop && true))) = true → false = keptP x x_2) ∧ ((!(decide (((x_2.getD x_9.toNat (Route.mk (0 : Int)
  (0 : Int) [])).stops.getD x_17.toNat FK.stop.zero).order = ((x.getD x_12.toNat (Route.mk (0 : Int) (0 : Int) [])).stops.getD x_17.toNat FK.stop.zero).order) && (((x_2.getD x_9.toNat (Route.mk (0 : Int) (0 : Int) [])).stops.getD x_17.toNat
  FK.stop.zero).drop == ((x.getD x_12.toNat (Route.mk (0 : Int) (0 : Int) [])).stops.getD x_17.toNat FK.stop.zero).drop && true))) = false → (((↑x_2.length : Int) = (↑x_2.length : Int) ∧ x_9 = x_9 ∧ (x_2.getD x_9.toNat (Route.mk (0 : Int) (0
  : Int) [])).served = (x_2.getD x_9.toNat (Route.mk (0 : Int) (0 : Int) [])).served ∧ wrap (x_17 + (1 : Int)) = wrap (x_17 + (1 : Int))) ∧ (((x_2.getD x_9.toNat (Route.mk (0 : Int) (0 : Int) [])).driver = (x_2.getD x_9.toNat (Route.mk (0 :
  Int) (0 : Int) [])).driver ∧ (x_2.getD x_9.toNat (Route.mk (0 : Int) (0 : Int) [])).served = (x_2.getD x_9.toNat (Route.mk (0 : Int) (0 : Int) [])).served) ∧ (x.getD x_12.toNat (Route.mk (0 : Int) (0 : Int) [])).driver = (x.getD x_12.toNat
  (Route.mk (0 : Int) (0 : Int) [])).driver ∧ (x.getD x_12.toNat (Route.mk (0 : Int) (0 : Int) [])).served = (x.getD x_12.toNat (Route.mk (0 : Int) (0 : Int) [])).served) ∧ (x.getD x_12.toNat (Route.mk (0 : Int) (0 : Int) [])).stops = (x.getD
  x_12.toNat (Route.mk (0 : Int) (0 : Int) [])).stops ∧ (x_2.getD x_9.toNat (Route.mk (0 : Int) (0 : Int) [])).stops = (x_2.getD x_9.toNat (Route.mk (0 : Int) (0 : Int) [])).stops ∧ x_2 = x_2 ∧ x = x) ∧ inv_2 (wrap (x_17 + (1 : Int))) ∧ μ_2
  (wrap (x_17 + (1 : Int))) < μ_2 x_17)) ∧ (decide (x_17 < (x_2.getD x_9.toNat (Route.mk (0 : Int) (0 : Int) [])).served) = false → (((↑x_2.length : Int) = (↑x_2.length : Int) ∧ wrap (x_9 + (1 : Int)) = wrap (x_9 + (1 : Int))) ∧ x_2 = x_2 ∧ x
  = x) ∧ inv (wrap (x_9 + (1 : Int))) ∧ μ (wrap (x_9 + (1 : Int))) < μ x_9))) ∧ (decide ((x.getD x_12.toNat (Route.mk (0 : Int) (0 : Int) [])).driver = (x_2.getD x_9.toNat (Route.mk (0 : Int) (0 : Int) [])).driver) = false → (((x_2.getD
  x_9.toNat (Route.mk (0 : Int) (0 : Int) [])).driver = (x_2.getD x_9.toNat (Route.mk (0 : Int) (0 : Int) [])).driver ∧ (↑x.length : Int) = (↑x.length : Int) ∧ wrap (x_12 + (1 : Int)) = wrap (x_12 + (1 : Int))) ∧ (((x_2.getD x_9.toNat
  (Route.mk (0 : Int) (0 : Int) [])).driver = (x_2.getD x_9.toNat (Route.mk (0 : Int) (0 : Int) [])).driver ∧ (x_2.getD x_9.toNat (Route.mk (0 : Int) (0 : Int) [])).served = (x_2.getD x_9.toNat (Route.mk (0 : Int) (0 : Int) [])).served) ∧ (0
  : Int) = (0 : Int) ∧ (0 : Int) = (0 : Int)) ∧ (x_2.getD x_9.toNat (Route.mk (0 : Int) (0 : Int) [])).stops = (x_2.getD x_9.toNat (Route.mk (0 : Int) (0 : Int) [])).stops ∧ x_2 = x_2 ∧ x = x) ∧ inv_1 (wrap (x_12 + (1 : Int))) ∧ μ_1 (wrap
  (x_12 + (1 : Int))) < μ_1 x_12)) ∧ (decide (x_12 < (↑x.length : Int)) = false → ((!decide ((x_2.getD x_9.toNat (Route.mk (0 : Int) (0 : Int) [])).served = (0 : Int))) = true → false = keptP x x_2) ∧ ((!decide ((x_2.getD x_9.toNat (Route.mk
  (0 : Int) (0 : Int) [])).served = (0 : Int))) = false → ∃ (inv_2 : Int → Prop), ∃ (μ_2 : Int → Nat), ((((↑x_2.length : Int) = (↑x_2.length : Int) ∧ x_9 = x_9 ∧ (x_2.getD x_9.toNat (Route.mk (0 : Int) (0 : Int) [])).served = (x_2.getD
  x_9.toNat (Route.mk (0 : Int) (0 : Int) [])).served ∧ (0 : Int) = (0 : Int)) ∧ (((x_2.getD x_9.toNat (Route.mk (0 : Int) (0 : Int) [])).driver = (x_2.getD x_9.toNat (Route.mk (0 : Int) (0 : Int) [])).driver ∧ (x_2.getD x_9.toNat (Route.mk
  (0 : Int) (0 : Int) [])).served = (x_2.getD x_9.toNat (Route.mk (0 : Int) (0 : Int) [])).served) ∧ (0 : Int) = (0 : Int) ∧ (0 : Int) = (0 : Int)) ∧ (x_2.getD x_9.toNat (Route.mk (0 : Int) (0 : Int) [])).stops = (x_2.getD x_9.toNat (Route.mk
  (0 : Int) (0 : Int) [])).stops ∧ x_2 = x_2 ∧ x = x) ∧ inv_2 (0 : Int)) ∧ ∀ (x_16 : Int), inv_2 x_16 → (decide (x_16 < (x_2.getD x_9.toNat (Route.mk (0 : Int) (0 : Int) [])).served) = true → ((0 : Int) ≤ x_16 ∧ x_16 < (↑(x_2.getD x_9.toNat
  (Route.mk (0 : Int) (0 : Int) [])).stops.length : Int)) ∧ x_16.toNat < (x_2.getD x_9.toNat (Route.mk (0 : Int) (0 : Int) [])).stops.length ∧ Bad (nat_lit 9) Oper (Oper.mk (some (nat_lit 69)) (Op.indexAddr (nat_lit 38) (Operand.tmp (nat_lit
  67)) (Operand.tmp (nat_lit 68))) (nat_lit 0) "audit.go:126" (Array.mk [Edge.mk (nat_lit 6) Ground.data, Edge.mk (nat_lit 7) Ground.data]) none)) ∧ (decide (x_16 < (x_2.getD x_9.toNat (Route.mk (0 : Int) (0 : Int) [])).served) = false →
  (((↑x_2.length : Int) = (↑x_2.length : Int) ∧ wrap (x_9 + (1 : Int)) = wrap (x_9 + (1 : Int))) ∧ x_2 = x_2 ∧ x = x) ∧ inv (wrap (x_9 + (1 : Int))) ∧ μ (wrap (x_9 + (1 : Int))) < μ x_9)))) ∧ (decide (x_9 < (↑x_2.length : Int)) = false → true
  = keptP x x_2)))) ∧ ((!rightP x) = !false → false = keptP x x_2)
theorem akept_told (hc : CsOk Try.prog akept_cs) (hi : InlsOk Try.prog akept_in) (h : akept_vc) : Told Try.prog 18 akept_con := toldI (A := akept_la) tabOk mixed hc hi Try.func18 (by kernel_rfl) (by kernel_rfl) h
def rAkept_vc : Prop :=
  ∀ (x : List Route), (LenOk x.length ∧ ∀ (r : Route), List.Mem r x → LenOk r.stops.length) → ∀ (x_2 : List Route), (LenOk x_2.length ∧ ∀ (r : Route), List.Mem r x_2 → LenOk r.stops.length) → ((!rightP x) = false → ((!rightP x_2) = true →
  false = keptP x x_2) ∧ ((!rightP x_2) = false → ∃ (inv : Int → Prop), ∃ (μ : Int → Nat), (((0 : Int) = (0 : Int) ∧ x_2 = x_2 ∧ x = x) ∧ inv (0 : Int)) ∧ ∀ (x_6 : Int), inv x_6 → (decide (x_6 < (↑x.length : Int)) = true → ((0 : Int) ≤ x_6 ∧
  x_6 < (↑x.length : Int)) ∧ x_6.toNat < x.length ∧ (decide (numberP (x.getD x_6.toNat (Route.mk (0 : Int) (0 : Int) [])).driver x_2 < (0 : Int)) = true → false = keptP x x_2) ∧ (decide (numberP (x.getD x_6.toNat (Route.mk (0 : Int) (0 : Int)
  [])).driver x_2 < (0 : Int)) = false → (wrap (x_6 + (1 : Int)) = wrap (x_6 + (1 : Int)) ∧ x_2 = x_2 ∧ x = x) ∧ inv (wrap (x_6 + (1 : Int))) ∧ μ (wrap (x_6 + (1 : Int))) < μ x_6)) ∧ (decide (x_6 < (↑x.length : Int)) = false → ∃ (inv : Int →
  Prop), ∃ (μ : Int → Nat), (((0 : Int) = (0 : Int) ∧ x_2 = x_2 ∧ x = x) ∧ inv (0 : Int)) ∧ ∀ (x_9 : Int), inv x_9 → (decide (x_9 < (↑x_2.length : Int)) = true → ((0 : Int) ≤ x_9 ∧ x_9 < (↑x_2.length : Int)) ∧ x_9.toNat < x_2.length ∧ (decide
  (numberP (x_2.getD x_9.toNat (Route.mk (0 : Int) (0 : Int) [])).driver x < (0 : Int)) = true → ((0 : Int) ≤ x_9 ∧ x_9 < (↑x_2.length : Int)) ∧ x_9.toNat < x_2.length ∧ ((!decide ((x_2.getD x_9.toNat (Route.mk (0 : Int) (0 : Int) [])).served
  = (0 : Int))) = true → false = keptP x x_2) ∧ ((!decide ((x_2.getD x_9.toNat (Route.mk (0 : Int) (0 : Int) [])).served = (0 : Int))) = false → (wrap (x_9 + (1 : Int)) = wrap (x_9 + (1 : Int)) ∧ x_2 = x_2 ∧ x = x) ∧ inv (wrap (x_9 + (1 :
  Int))) ∧ μ (wrap (x_9 + (1 : Int))) < μ x_9)) ∧ (decide (numberP (x_2.getD x_9.toNat (Route.mk (0 : Int) (0 : Int) [])).driver x < (0 : Int)) = false → ((0 : Int) ≤ x_9 ∧ x_9 < (↑x_2.length : Int)) ∧ x_9.toNat < x_2.length ∧ ((0 : Int) ≤
  numberP (x_2.getD x_9.toNat (Route.mk (0 : Int) (0 : Int) [])).driver x ∧ numberP (x_2.getD x_9.toNat (Route.mk (0 : Int) (0 : Int) [])).driver x < (↑x.length : Int)) ∧ (numberP (x_2.getD x_9.toNat (Route.mk (0 : Int) (0 : Int) [])).driver
  x).toNat < x.length ∧ ((!decide ((x_2.getD x_9.toNat (Route.mk (0 : Int) (0 : Int) [])).served = (x.getD (numberP (x_2.getD x_9.toNat (Route.mk (0 : Int) (0 : Int) [])).driver x).toNat (Route.mk (0 : Int) (0 : Int) [])).served)) = true →
  false = keptP x x_2) ∧ ((!decide ((x_2.getD x_9.toNat (Route.mk (0 : Int) (0 : Int) [])).served = (x.getD (numberP (x_2.getD x_9.toNat (Route.mk (0 : Int) (0 : Int) [])).driver x).toNat (Route.mk (0 : Int) (0 : Int) [])).served)) = false →
  ∃ (inv_1 : Int → Prop), ∃ (μ_1 : Int → Nat), (((x_9 = x_9 ∧ numberP (x_2.getD x_9.toNat (Route.mk (0 : Int) (0 : Int) [])).driver x = numberP (x_2.getD x_9.toNat (Route.mk (0 : Int) (0 : Int) [])).driver x ∧ (0 : Int) = (0 : Int)) ∧ x_2 =
  x_2 ∧ x = x) ∧ inv_1 (0 : Int)) ∧ ∀ (x_14 : Int), inv_1 x_14 → ((0 : Int) ≤ x_9 ∧ x_9 < (↑x_2.length : Int)) ∧ x_9.toNat < x_2.length ∧ (decide (x_14 < (x_2.getD x_9.toNat (Route.mk (0 : Int) (0 : Int) [])).served) = true → ((0 : Int) ≤ x_9
  ∧ x_9 < (↑x_2.length : Int)) ∧ x_9.toNat < x_2.length ∧ ((0 : Int) ≤ x_14 ∧ x_14 < (↑(x_2.getD x_9.toNat (Route.mk (0 : Int) (0 : Int) [])).stops.length : Int)) ∧ x_14.toNat < (x_2.getD x_9.toNat (Route.mk (0 : Int) (0 : Int)
  [])).stops.length ∧ ((0 : Int) ≤ numberP (x_2.getD x_9.toNat (Route.mk (0 : Int) (0 : Int) [])).driver x ∧ numberP (x_2.getD x_9.toNat (Route.mk (0 : Int) (0 : Int) [])).driver x < (↑x.length : Int)) ∧ (numberP (x_2.getD x_9.toNat (Route.mk
  (0 : Int) (0 : Int) [])).driver x).toNat < x.length ∧ ((0 : Int) ≤ x_14 ∧ x_14 < (↑(x.getD (numberP (x_2.getD x_9.toNat (Route.mk (0 : Int) (0 : Int) [])).driver x).toNat (Route.mk (0 : Int) (0 : Int) [])).stops.length : Int)) ∧ x_14.toNat
  < (x.getD (numberP (x_2.getD x_9.toNat (Route.mk (0 : Int) (0 : Int) [])).driver x).toNat (Route.mk (0 : Int) (0 : Int) [])).stops.length ∧ ((!(decide (((x_2.getD x_9.toNat (Route.mk (0 : Int) (0 : Int) [])).stops.getD x_14.toNat
  FK.stop.zero).order = ((x.getD (numberP (x_2.getD x_9.toNat (Route.mk (0 : Int) (0 : Int) [])).driver x).toNat (Route.mk (0 : Int) (0 : Int) [])).stops.getD x_14.toNat FK.stop.zero).order) && (((x_2.getD x_9.toNat (Route.mk (0 : Int) (0 :
  Int) [])).stops.getD x_14.toNat FK.stop.zero).drop == ((x.getD (numberP (x_2.getD x_9.toNat (Route.mk (0 : Int) (0 : Int) [])).driver x).toNat (Route.mk (0 : Int) (0 : Int) [])).stops.getD x_14.toNat FK.stop.zero).drop && true))) = true →
  false = keptP x x_2) ∧ ((!(decide (((x_2.getD x_9.toNat (Route.mk (0 : Int) (0 : Int) [])).stops.getD x_14.toNat FK.stop.zero).order = ((x.getD (numberP (x_2.getD x_9.toNat (Route.mk (0 : Int) (0 : Int) [])).driver x).toNat (Route.mk (0 :
  Int) (0 : Int) [])).stops.getD x_14.toNat FK.stop.zero).order) && (((x_2.getD x_9.toNat (Route.mk (0 : Int) (0 : Int) [])).stops.getD x_14.toNat FK.stop.zero).drop == ((x.getD (numberP (x_2.getD x_9.toNat (Route.mk (0 : Int) (0 : Int)
  [])).driver x).toNat (Route.mk (0 : Int) (0 : Int) [])).stops.getD x_14.toNat FK.stop.zero).drop && true))) = false → ((x_9 = x_9 ∧ numberP (x_2.getD x_9.toNat (Route.mk (0 : Int) (0 : Int) [])).driver x = numberP (x_2.getD x_9.toNat
  (Route.mk (0 : Int) (0 : Int) [])).driver x ∧ wrap (x_14 + (1 : Int)) = wrap (x_14 + (1 : Int))) ∧ x_2 = x_2 ∧ x = x) ∧ inv_1 (wrap (x_14 + (1 : Int))) ∧ μ_1 (wrap (x_14 + (1 : Int))) < μ_1 x_14)) ∧ (decide (x_14 < (x_2.getD x_9.toNat
  (Route.mk (0 : Int) (0 : Int) [])).served) = false → (wrap (x_9 + (1 : Int)) = wrap (x_9 + (1 : Int)) ∧ x_2 = x_2 ∧ x = x) ∧ inv (wrap (x_9 + (1 : Int))) ∧ μ (wrap (x_9 + (1 : Int))) < μ x_9)))) ∧ (decide (x_9 < (↑x_2.length : Int)) = false
  → true = keptP x x_2)))) ∧ ((!rightP x) = !false → false = keptP x x_2)
theorem rAkept_told (hc : CsOk Try.prog rAkept_cs) (h : rAkept_vc) : Told Try.prog 23 rAkept_con := told (A := rAkept_la) tabOk mixed hc Try.func23 (by kernel_rfl) (by kernel_rfl) h
end Go.Eng

/- Books of memory: lists with room, compared. What is told of them. -/
set_option linter.unusedVariables false
set_option linter.unusedSimpArgs false
namespace Go.Eng
open Go Go.Proofs
noncomputable def sameS_con : Con := ⟨[.c (.a (.f .stop)), .c (.a (.f .stop))], fun xs ys => one [.c (.b (same xs ys))]⟩
def sameS_cs : Cons := []
def sameS_la : List (Nat × LA) := [(4, ⟨[0, 1], [.i 5]⟩)]
noncomputable def sameV_con : Con := ⟨[.c (.a (.f .visit)), .c (.a (.f .visit))], fun xs ys => one [.c (.b (same xs ys))]⟩
def sameV_cs : Cons := []
def sameV_la : List (Nat × LA) := [(4, ⟨[0, 1], [.i 5]⟩)]
noncomputable def sameT_con : Con := ⟨[.c (.a (.f .trouble)), .c (.a (.f .trouble))], fun xs ys => one [.c (.b (same xs ys))]⟩
def sameT_cs : Cons := []
def sameT_la : List (Nat × LA) := [(4, ⟨[0, 1], [.i 5]⟩)]
end Go.Eng

/- The conditions of functions, as print.. of the engine told them. -/
set_option linter.unusedVariables false
namespace Go.Eng
open Go Go.Proofs
def sameS_vc : Prop :=
  ∀ (x : List Stop), LenOk x.length → ∀ (x_2 : List Stop), LenOk x_2.length → ((!decide ((↑x.length : Int) = (↑x_2.length : Int))) = true → false = same x x_2) ∧ ((!decide ((↑x.length : Int) = (↑x_2.length : Int))) = false → ∃ (inv : Int →
  Prop), ∃ (μ : Int → Nat), (((0 : Int) = (0 : Int) ∧ x_2 = x_2 ∧ x = x) ∧ inv (0 : Int)) ∧ ∀ (x_5 : Int), inv x_5 → (decide (x_5 < (↑x.length : Int)) = true → ((0 : Int) ≤ x_5 ∧ x_5 < (↑x.length : Int)) ∧ x_5.toNat < x.length ∧ ((0 : Int) ≤
  x_5 ∧ x_5 < (↑x_2.length : Int)) ∧ x_5.toNat < x_2.length ∧ ((!(decide ((x.getD x_5.toNat FK.stop.zero).order = (x_2.getD x_5.toNat FK.stop.zero).order) && ((x.getD x_5.toNat FK.stop.zero).drop == (x_2.getD x_5.toNat FK.stop.zero).drop &&
  true))) = true → false = same x x_2) ∧ ((!(decide ((x.getD x_5.toNat FK.stop.zero).order = (x_2.getD x_5.toNat FK.stop.zero).order) && ((x.getD x_5.toNat FK.stop.zero).drop == (x_2.getD x_5.toNat FK.stop.zero).drop && true))) = false →
  (wrap (x_5 + (1 : Int)) = wrap (x_5 + (1 : Int)) ∧ x_2 = x_2 ∧ x = x) ∧ inv (wrap (x_5 + (1 : Int))) ∧ μ (wrap (x_5 + (1 : Int))) < μ x_5)) ∧ (decide (x_5 < (↑x.length : Int)) = false → true = same x x_2))
theorem sameS_told (hc : CsOk Try.prog sameS_cs) (h : sameS_vc) : Told Try.prog 48 sameS_con := told (A := sameS_la) tabOk mixed hc Try.func48 (by kernel_rfl) (by kernel_rfl) h
def sameV_vc : Prop :=
  ∀ (x : List Visit), LenOk x.length → ∀ (x_2 : List Visit), LenOk x_2.length → ((!decide ((↑x.length : Int) = (↑x_2.length : Int))) = true → false = same x x_2) ∧ ((!decide ((↑x.length : Int) = (↑x_2.length : Int))) = false → ∃ (inv : Int →
  Prop), ∃ (μ : Int → Nat), (((0 : Int) = (0 : Int) ∧ x_2 = x_2 ∧ x = x) ∧ inv (0 : Int)) ∧ ∀ (x_5 : Int), inv x_5 → (decide (x_5 < (↑x.length : Int)) = true → ((0 : Int) ≤ x_5 ∧ x_5 < (↑x.length : Int)) ∧ x_5.toNat < x.length ∧ ((0 : Int) ≤
  x_5 ∧ x_5 < (↑x_2.length : Int)) ∧ x_5.toNat < x_2.length ∧ ((!(decide ((x.getD x_5.toNat FK.visit.zero).order = (x_2.getD x_5.toNat FK.visit.zero).order) && ((x.getD x_5.toNat FK.visit.zero).drop == (x_2.getD x_5.toNat FK.visit.zero).drop
  && true) && (decide ((x.getD x_5.toNat FK.visit.zero).arrive = (x_2.getD x_5.toNat FK.visit.zero).arrive) && (decide ((x.getD x_5.toNat FK.visit.zero).start = (x_2.getD x_5.toNat FK.visit.zero).start) && (decide ((x.getD x_5.toNat
  FK.visit.zero).leave = (x_2.getD x_5.toNat FK.visit.zero).leave) && (decide ((x.getD x_5.toNat FK.visit.zero).load = (x_2.getD x_5.toNat FK.visit.zero).load) && true)))))) = true → false = same x x_2) ∧ ((!(decide ((x.getD x_5.toNat
  FK.visit.zero).order = (x_2.getD x_5.toNat FK.visit.zero).order) && ((x.getD x_5.toNat FK.visit.zero).drop == (x_2.getD x_5.toNat FK.visit.zero).drop && true) && (decide ((x.getD x_5.toNat FK.visit.zero).arrive = (x_2.getD x_5.toNat
  FK.visit.zero).arrive) && (decide ((x.getD x_5.toNat FK.visit.zero).start = (x_2.getD x_5.toNat FK.visit.zero).start) && (decide ((x.getD x_5.toNat FK.visit.zero).leave = (x_2.getD x_5.toNat FK.visit.zero).leave) && (decide ((x.getD
  x_5.toNat FK.visit.zero).load = (x_2.getD x_5.toNat FK.visit.zero).load) && true)))))) = false → (wrap (x_5 + (1 : Int)) = wrap (x_5 + (1 : Int)) ∧ x_2 = x_2 ∧ x = x) ∧ inv (wrap (x_5 + (1 : Int))) ∧ μ (wrap (x_5 + (1 : Int))) < μ x_5)) ∧
  (decide (x_5 < (↑x.length : Int)) = false → true = same x x_2))
theorem sameV_told (hc : CsOk Try.prog sameV_cs) (h : sameV_vc) : Told Try.prog 38 sameV_con := told (A := sameV_la) tabOk mixed hc Try.func38 (by kernel_rfl) (by kernel_rfl) h
def sameT_vc : Prop :=
  ∀ (x : List Trouble), LenOk x.length → ∀ (x_2 : List Trouble), LenOk x_2.length → ((!decide ((↑x.length : Int) = (↑x_2.length : Int))) = true → false = same x x_2) ∧ ((!decide ((↑x.length : Int) = (↑x_2.length : Int))) = false → ∃ (inv :
  Int → Prop), ∃ (μ : Int → Nat), (((0 : Int) = (0 : Int) ∧ x_2 = x_2 ∧ x = x) ∧ inv (0 : Int)) ∧ ∀ (x_5 : Int), inv x_5 → (decide (x_5 < (↑x.length : Int)) = true → ((0 : Int) ≤ x_5 ∧ x_5 < (↑x.length : Int)) ∧ x_5.toNat < x.length ∧ ((0 :
  Int) ≤ x_5 ∧ x_5 < (↑x_2.length : Int)) ∧ x_5.toNat < x_2.length ∧ ((!(decide ((x.getD x_5.toNat FK.trouble.zero).driver = (x_2.getD x_5.toNat FK.trouble.zero).driver) && (decide ((x.getD x_5.toNat FK.trouble.zero).order = (x_2.getD
  x_5.toNat FK.trouble.zero).order) && (decide ((x.getD x_5.toNat FK.trouble.zero).why = (x_2.getD x_5.toNat FK.trouble.zero).why) && true)))) = true → false = same x x_2) ∧ ((!(decide ((x.getD x_5.toNat FK.trouble.zero).driver = (x_2.getD
  x_5.toNat FK.trouble.zero).driver) && (decide ((x.getD x_5.toNat FK.trouble.zero).order = (x_2.getD x_5.toNat FK.trouble.zero).order) && (decide ((x.getD x_5.toNat FK.trouble.zero).why = (x_2.getD x_5.toNat FK.trouble.zero).why) && true))))
  = false → (wrap (x_5 + (1 : Int)) = wrap (x_5 + (1 : Int)) ∧ x_2 = x_2 ∧ x = x) ∧ inv (wrap (x_5 + (1 : Int))) ∧ μ (wrap (x_5 + (1 : Int))) < μ x_5)) ∧ (decide (x_5 < (↑x.length : Int)) = false → true = same x x_2))
theorem sameT_told (hc : CsOk Try.prog sameT_cs) (h : sameT_vc) : Told Try.prog 17 sameT_con := told (A := sameT_la) tabOk mixed hc Try.func17 (by kernel_rfl) (by kernel_rfl) h
end Go.Eng

/- Books of memory: it is so. -/
set_option linter.unusedVariables false
set_option linter.unusedSimpArgs false
namespace Go.Eng
open Go Go.Proofs
theorem elEqS (a b : Stop) : (decide (a.order = b.order) && ((a.drop == b.drop) && true)) = true ↔ a = b := by
  cases a; cases b; simp [and_assoc]
theorem sameS_ok : sameS_vc := fun x hx y _ => same_gen elEqS x hx y
theorem sameS_t : Told Try.prog 48 sameS_con := sameS_told csOk_nil sameS_ok
theorem elEqV (a b : Visit) : ((decide (a.order = b.order) && ((a.drop == b.drop) && true)) && (decide (a.arrive = b.arrive) && (decide (a.start = b.start) && (decide (a.leave = b.leave) && (decide (a.load = b.load) && true))))) = true ↔ a = b := by
  cases a; cases b; simp [and_assoc]
theorem sameV_ok : sameV_vc := fun x hx y _ => same_gen elEqV x hx y
theorem sameV_t : Told Try.prog 38 sameV_con := sameV_told csOk_nil sameV_ok
theorem elEqT (a b : Trouble) : (decide (a.driver = b.driver) && (decide (a.order = b.order) && (decide (a.why = b.why) && true))) = true ↔ a = b := by
  cases a; cases b; simp [and_assoc]
theorem sameT_ok : sameT_vc := fun x hx y _ => same_gen elEqT x hx y
theorem sameT_t : Told Try.prog 17 sameT_con := sameT_told csOk_nil sameT_ok
end Go.Eng

/- Plans: it is so. -/
set_option linter.unusedVariables false
set_option linter.unusedSimpArgs false
namespace Go.Eng
open Go Go.Proofs
abbrev rz : Route := ⟨0, 0, []⟩
theorem ix {α : Type} {l : List α} {i : Int} (d : α) (hl : l.length ≤ 9223372036854775807) (h0 : 0 ≤ i) (h : i < l.length) : wrap (i + 1) = i + 1 ∧ (i + 1).toNat = i.toNat + 1 ∧ i.toNat < l.length ∧ l.drop i.toNat = l.getD i.toNat d :: l.drop (i.toNat + 1) := by
  refine ⟨wrap_id (by omega) (by omega), by omega, by omega, getD_drop (by omega)⟩
theorem ixEnd {α : Type} {l : List α} {i : Int} (h : l.length ≤ i) : l.drop i.toNat = [] := List.drop_eq_nil_of_le (by omega)
theorem getD_get {α : Type} {l : List α} {k : Nat} (d : α) (hk : k < l.length) : l.getD k d = l[k] := by simp [List.getD, hk]
theorem forall_getD {α : Type} {l : List α} {P : α → Prop} (d : α) : (∀ r ∈ l, P r) ↔ ∀ k, k < l.length → P (l.getD k d) := by
  constructor
  · intro h k hk
    rw [getD_get d hk]
    exact h _ (List.getElem_mem hk)
  · intro h r hr
    obtain ⟨k, hk, rfl⟩ := List.getElem_of_mem hr
    have := h k hk
    rwa [getD_get d hk] at this
theorem getD_mem {α : Type} {l : List α} {k : Nat} (d : α) (hk : k < l.length) : l.getD k d ∈ l := by
  rw [getD_get d hk]; exact List.getElem_mem hk
theorem route_len {x : List Route} (h : ∀ (r : Route), List.Mem r x → LenOk r.stops.length) (r : Route) (hr : r ∈ x) : r.stops.length ≤ 9223372036854775807 := (h r hr).le
theorem whereS_bound (s : Stop) (l : List Stop) : -1 ≤ whereS s l ∧ whereS s l < l.length := by
  induction l with
  | nil => simp [whereS]
  | cons x l ih =>
    rw [whereS]
    split
    · simp only [List.length_cons]; omega
    · split <;> simp only [List.length_cons] <;> omega
theorem elEqS' (a b : Stop) : (decide (a.order = b.order) && ((a.drop == b.drop) && true)) = false ↔ a ≠ b := by
  rw [← Bool.not_eq_true, elEqS]
theorem whereS_step {s s' : Stop} {l : List Stop} {i : Nat} {w : Int} (h : w = if whereS s (s' :: l) < 0 then -1 else whereS s (s' :: l) + i) : (s' = s → (i : Int) = w) ∧ (s' ≠ s → w = if whereS s l < 0 then -1 else whereS s l + ((i + 1 : Nat) : Int)) := by
  have hb := (whereS_bound s l).1
  rw [whereS] at h
  constructor
  · intro e; rw [if_pos e] at h; simpa using h.symm
  · intro e; rw [if_neg e] at h
    by_cases h2 : whereS s l < 0
    · rw [if_pos h2] at h ⊢; simpa using h
    · rw [if_neg h2] at h ⊢; rw [if_neg (by omega)] at h; omega
theorem whereS_zero (s : Stop) (l : List Stop) : whereS s l = if whereS s (l.drop (Int.toNat 0)) < 0 then -1 else whereS s (l.drop (Int.toNat 0)) + ((Int.toNat 0 : Nat) : Int) := by
  have hb := (whereS_bound s l).1
  simp only [Int.toNat_zero, List.drop_zero]
  split <;> omega
theorem sidx_ok : sidx_vc := by
  unfold sidx_vc
  simp only [bad_false, int0, nilOf, decide_eq_true_eq, decide_eq_false_iff_not, Bool.not_eq_true', Bool.not_eq_false', Bool.not_true, Bool.not_false, Bool.false_eq_true, Bool.true_eq_false, eq_self, true_and, and_true, false_or, or_false, false_implies, true_implies, implies_true, Int.not_lt, Int.not_le, gt_iff_lt, ge_iff_le, ne_eq]
  intro x hl s
  have hl := hl.le
  refine ⟨fun i => 0 ≤ i ∧ whereS s x = (if whereS s (x.drop i.toNat) < 0 then -1 else whereS s (x.drop i.toNat) + (i.toNat : Int)), fun i => x.length - i.toNat, ⟨by omega, whereS_zero s x⟩, fun i hi => ⟨fun h => ?_, fun h => ?_⟩⟩
  · obtain ⟨h0, hI⟩ := hi
    obtain ⟨e1, e2, e3, e4⟩ := ix (FK.zero .stop) hl h0 h
    rw [e4] at hI
    obtain ⟨s1, s2⟩ := whereS_step hI
    rw [e1]; dsimp only; rw [e2]
    refine ⟨⟨h0, h⟩, e3, fun hq => ?_, fun hq => ⟨⟨by omega, s2 fun e => (elEqS' _ _).1 hq e.symm⟩, by omega⟩⟩
    have := s1 ((elEqS _ _).1 hq).symm
    omega
  · obtain ⟨h0, hI⟩ := hi
    rw [ixEnd h] at hI
    exact hI.symm
theorem sidx_t : Told Try.prog 50 sidx_con := sidx_told csOk_nil sidx_ok
theorem rWhere_ok : rWhere_vc := by
  unfold rWhere_vc
  simp only [bad_false, int0, nilOf, decide_eq_true_eq, decide_eq_false_iff_not, Bool.not_eq_true', Bool.not_eq_false', Bool.not_true, Bool.not_false, Bool.false_eq_true, Bool.true_eq_false, eq_self, true_and, and_true, false_or, or_false, false_implies, true_implies, implies_true, Int.not_lt, Int.not_le, gt_iff_lt, ge_iff_le, ne_eq]
  intro x hl s
  have hl := hl.le
  refine ⟨fun i => 0 ≤ i ∧ whereS s x = (if whereS s (x.drop i.toNat) < 0 then -1 else whereS s (x.drop i.toNat) + (i.toNat : Int)), fun i => x.length - i.toNat, ⟨by omega, whereS_zero s x⟩, fun i hi => ⟨fun h => ?_, fun h => ?_⟩⟩
  · obtain ⟨h0, hI⟩ := hi
    obtain ⟨e1, e2, e3, e4⟩ := ix (FK.zero .stop) hl h0 h
    rw [e4] at hI
    obtain ⟨s1, s2⟩ := whereS_step hI
    rw [e1]; dsimp only; rw [e2]
    refine ⟨⟨h0, h⟩, e3, fun hq => ?_, fun hq => ⟨⟨by omega, s2 fun e => (elEqS' _ _).1 hq e⟩, by omega⟩⟩
    have := s1 ((elEqS _ _).1 hq)
    omega
  · obtain ⟨h0, hI⟩ := hi
    rw [ixEnd h] at hI
    exact hI.symm
theorem rWhere_t : Told Try.prog 68 rWhere_con := rWhere_told csOk_nil rWhere_ok
theorem rightP_iff {p : List Route} : rightP p = true ↔ RightP p := by simp [rightP]
theorem right_no {p : List Route} (h : ¬ RightP p) : false = rightP p := by
  cases e : rightP p with
  | false => rfl
  | true => exact absurd (rightP_iff.1 e) h
theorem right_yes {p : List Route} (h : RightP p) : true = rightP p := (rightP_iff.2 h).symm
/-- The stops that were seen, in a map. -/
def Seen (f : Stop → Int) (all : List Stop) : Prop := ∀ s, (f s = 0 ∧ s ∉ all) ∨ (f s = 1 ∧ s ∈ all)
theorem seen_none : Seen (noF MK.stop.T) [] := fun s => Or.inl ⟨rfl, by simp⟩
theorem seen_more {f : Stop → Int} {all : List Stop} {s : Stop} (h : Seen f all) (hs : f s ≤ 0) : Seen (upF f s (wrap (f s + 1))) (all ++ [s]) := by
  intro t
  have hf : f s = 0 := by rcases h s with ⟨a, _⟩ | ⟨a, _⟩ <;> omega
  unfold upF
  by_cases e : t = s
  · subst e
    rw [if_pos rfl, hf]; exact Or.inr ⟨by decide, by simp⟩
  · rw [if_neg e]
    rcases h t with ⟨a, b⟩ | ⟨a, b⟩
    · exact Or.inl ⟨a, by simp [b, e]⟩
    · exact Or.inr ⟨a, by simp [b]⟩
theorem pright_ok : pright_vc := by
  unfold pright_vc
  simp only [bad_false, int0, nilOf, decide_eq_true_eq, decide_eq_false_iff_not, Bool.not_eq_true', Bool.not_eq_false', Bool.not_true, Bool.not_false, Bool.false_eq_true, Bool.true_eq_false, eq_self, true_and, and_true, false_or, or_false, false_implies, true_implies, implies_true, Int.not_lt, Int.not_le, gt_iff_lt, ge_iff_le, ne_eq]
  rintro x ⟨hl, hr⟩
  have hl := hl.le
  refine ⟨fun h8 => right_no fun hR => by have := hR.1; omega, fun h8 => ⟨fun last i f => 0 ≤ i ∧ ∃ all, (okR last all (x.drop i.toNat) ↔ okR 0 [] x) ∧ Seen f all, fun _ i _ => x.length - i.toNat, ⟨by omega, [], Iff.rfl, seen_none⟩, fun last i f hi => ⟨fun h => ?_, fun h => ?_⟩⟩⟩
  · obtain ⟨h0, all, hI, hS⟩ := hi
    obtain ⟨e1, e2, e3, e4⟩ := ix rz hl h0 h
    have hrl := route_len hr _ (getD_mem rz e3)
    rw [e4, okR] at hI
    rw [e1]; dsimp only; rw [e2]
    change List Route at x
    generalize x.getD i.toNat { driver := 0, served := 0, stops := [] } = r at *
    unfold okR1 at hI
    refine ⟨⟨h0, h⟩, e3, fun a1 => ⟨fun a2 => ⟨fun a3 => ⟨fun a4 => ⟨fun a5 => right_no fun hR => by have := hI.2 hR.2; omega, fun a5 => ?_⟩, fun a4 => right_no fun hR => by have := hI.2 hR.2; omega⟩, fun a3 => right_no fun hR => by have := hI.2 hR.2; omega⟩, fun a2 => right_no fun hR => by have := hI.2 hR.2; omega⟩, fun a1 => right_no fun hR => by have := hI.2 hR.2; omega⟩
    have hI' : (okS all r.stops ∧ okR r.driver (all ++ r.stops) (x.drop (i.toNat + 1))) ↔ okR 0 [] x := by
      rw [← hI]; exact ⟨fun q => ⟨⟨a1, a2, by omega, a4, a5⟩, q⟩, fun q => q.2⟩
    refine ⟨fun j g => 0 ≤ j ∧ ∃ al, ((okS al (r.stops.drop j.toNat) ∧ okR r.driver (al ++ r.stops.drop j.toNat) (x.drop (i.toNat + 1))) ↔ okR 0 [] x) ∧ Seen g al, fun j _ => r.stops.length - j.toNat, ⟨by omega, all, by simpa using hI', hS⟩, fun j g hj => ⟨fun k => ?_, fun k => ?_⟩⟩
    · obtain ⟨j0, al, hJ, hG⟩ := hj
      obtain ⟨d1, d2, d3, d4⟩ := ix (FK.zero .stop) hrl j0 k
      rw [d4, okS] at hJ
      rw [d1]; dsimp only; rw [d2]
      generalize r.stops.getD j.toNat (FK.zero .stop) = s at *
      refine ⟨⟨j0, k⟩, d3, fun b1 => ⟨fun b2 => ⟨fun b3 => right_no fun hR => ?_, fun b3 => ⟨⟨by omega, al ++ [s], ?_, seen_more hG b3⟩, by omega⟩⟩, fun b2 => right_no fun hR => by have := (hJ.2 hR.2).1.1; omega⟩, fun b1 => right_no fun hR => by have := (hJ.2 hR.2).1.1; omega⟩
      · have := (hJ.2 hR.2).1.1.2.2
        rcases hG s with ⟨a, b⟩ | ⟨a, b⟩
        · omega
        · exact this b
      · rw [← hJ]
        have hn : s ∉ al := by rcases hG s with ⟨a, b⟩ | ⟨a, b⟩; exact b; omega
        simp only [List.append_assoc, List.singleton_append]
        exact ⟨fun q => ⟨⟨⟨b1, b2, hn⟩, q.1⟩, q.2⟩, fun q => ⟨q.1.2, q.2⟩⟩
    · obtain ⟨j0, al, hJ, hG⟩ := hj
      rw [ixEnd k, List.append_nil] at hJ
      exact ⟨⟨by omega, al, ⟨fun q => hJ.1 ⟨trivial, q⟩, fun q => (hJ.2 q).2⟩, hG⟩, by omega⟩
  · obtain ⟨h0, all, hI, hS⟩ := hi
    rw [ixEnd h] at hI
    exact right_yes ⟨by omega, hI.1 trivial⟩
theorem pright_t : Told Try.prog 26 pright_con := pright_told csOk_nil pright_ok
theorem findP_step {id : Int} {r : Route} {l : List Route} {w : Option Spot} (h : findP id (r :: l) = w) :
    (0 ≤ whereS ⟨id, false⟩ r.stops → w = some (spotAt r id)) ∧ (0 ≤ whereS ⟨id, true⟩ r.stops → w = some (spotAt r id)) ∧ (whereS ⟨id, false⟩ r.stops < 0 → whereS ⟨id, true⟩ r.stops < 0 → findP id l = w) := by
  rw [findP, show (spotAt r id).pick = whereS ⟨id, false⟩ r.stops from rfl, show (spotAt r id).drop = whereS ⟨id, true⟩ r.stops from rfl] at h
  refine ⟨fun a => ?_, fun a => ?_, fun a b => ?_⟩
  · rw [if_pos (Or.inl a)] at h; exact h.symm
  · rw [if_pos (Or.inr a)] at h; exact h.symm
  · rw [if_neg (by omega)] at h; exact h
theorem pfind_ok : pfind_vc := by
  unfold pfind_vc
  simp only [bad_false, int0, nilOf, decide_eq_true_eq, decide_eq_false_iff_not, Bool.not_eq_true', Bool.not_eq_false', Bool.not_true, Bool.not_false, Bool.false_eq_true, Bool.true_eq_false, eq_self, true_and, and_true, false_or, or_false, false_implies, true_implies, implies_true, Int.not_lt, Int.not_le, gt_iff_lt, ge_iff_le, ne_eq]
  rintro x ⟨hl, hr⟩ id
  have hl := hl.le
  refine ⟨fun i => 0 ≤ i ∧ findP id (x.drop i.toNat) = findP id x, fun i => x.length - i.toNat, ⟨by omega, rfl⟩, fun i hi => ⟨fun h => ?_, fun h => ?_⟩⟩
  · obtain ⟨h0, hI⟩ := hi
    obtain ⟨e1, e2, e3, e4⟩ := ix rz hl h0 h
    rw [e4] at hI
    obtain ⟨s1, s2, s3⟩ := findP_step hI
    rw [e1]; dsimp only; rw [e2]
    refine ⟨⟨h0, h⟩, e3, fun a => ⟨fun b => ?_, fun b => ⟨⟨by omega, s3 a b⟩, by omega⟩⟩, fun a => ?_⟩
    · rw [s2 b]; exact ⟨⟨rfl, rfl, rfl, rfl⟩, rfl⟩
    · rw [s1 a]; exact ⟨⟨rfl, rfl, rfl, rfl⟩, rfl⟩
  · obtain ⟨h0, hI⟩ := hi
    rw [ixEnd h] at hI
    rw [← hI]; exact ⟨⟨rfl, rfl, rfl, rfl⟩, rfl⟩
theorem pfind_t : Told Try.prog 25 pfind_con := pfind_told (csOk_cons sidx_t csOk_nil) pfind_ok
theorem rPfind_ok : rPfind_vc := by
  unfold rPfind_vc
  simp only [bad_false, int0, nilOf, decide_eq_true_eq, decide_eq_false_iff_not, Bool.not_eq_true', Bool.not_eq_false', Bool.not_true, Bool.not_false, Bool.false_eq_true, Bool.true_eq_false, eq_self, true_and, and_true, false_or, or_false, false_implies, true_implies, implies_true, Int.not_lt, Int.not_le, gt_iff_lt, ge_iff_le, ne_eq]
  rintro x ⟨hl, hr⟩ id
  have hl := hl.le
  refine ⟨fun i => 0 ≤ i ∧ findP id (x.drop i.toNat) = findP id x, fun i => x.length - i.toNat, ⟨by omega, rfl⟩, fun i hi => ⟨fun h => ?_, fun h => ?_⟩⟩
  · obtain ⟨h0, hI⟩ := hi
    obtain ⟨e1, e2, e3, e4⟩ := ix rz hl h0 h
    rw [e4] at hI
    obtain ⟨s1, s2, s3⟩ := findP_step hI
    rw [e1]; dsimp only; rw [e2]
    refine ⟨⟨h0, h⟩, e3, ⟨h0, h⟩, e3, fun a => ⟨fun b => ⟨⟨h0, h⟩, e3, ?_⟩, fun b => ⟨⟨by omega, s3 a b⟩, by omega⟩⟩, fun a => ⟨⟨h0, h⟩, e3, ?_⟩⟩
    · rw [s2 b]; exact ⟨⟨rfl, rfl, rfl, rfl⟩, rfl⟩
    · rw [s1 a]; exact ⟨⟨rfl, rfl, rfl, rfl⟩, rfl⟩
  · obtain ⟨h0, hI⟩ := hi
    rw [ixEnd h] at hI
    rw [← hI]; exact ⟨⟨rfl, rfl, rfl, rfl⟩, rfl⟩
theorem rPfind_t : Told Try.prog 47 rPfind_con := rPfind_told (csOk_cons rWhere_t csOk_nil) rPfind_ok
theorem findD_step {id : Int} {r : Driver} {l : List Driver} {w : Option Driver} (h : findD id (r :: l) = w) : (r.id = id → w = some r) ∧ (¬ r.id = id → findD id l = w) := by
  rw [findD] at h
  refine ⟨fun a => ?_, fun a => ?_⟩
  · rw [if_pos a] at h; exact h.symm
  · rw [if_neg a] at h; exact h
theorem findD_none {id : Int} {l : List Driver} : findD id l = none ↔ ∀ d ∈ l, d.id ≠ id := by
  induction l with
  | nil => simp [findD]
  | cons d l ih => rw [findD]; split <;> simp_all
theorem cdriver_ok : cdriver_vc := by
  unfold cdriver_vc
  simp only [bad_false, int0, nilOf, decide_eq_true_eq, decide_eq_false_iff_not, Bool.not_eq_true', Bool.not_eq_false', Bool.not_true, Bool.not_false, Bool.false_eq_true, Bool.true_eq_false, eq_self, true_and, and_true, false_or, or_false, false_implies, true_implies, implies_true, Int.not_lt, Int.not_le, gt_iff_lt, ge_iff_le, ne_eq]
  rintro x hl id
  have hl := hl.le
  refine ⟨fun i => 0 ≤ i ∧ findD id (x.drop i.toNat) = findD id x, fun i => x.length - i.toNat, ⟨by omega, rfl⟩, fun i hi => ⟨fun h => ?_, fun h => ?_⟩⟩
  · obtain ⟨h0, hI⟩ := hi
    obtain ⟨e1, e2, e3, e4⟩ := ix (FK.zero .driver) hl h0 h
    rw [e4] at hI
    obtain ⟨s1, s2⟩ := findD_step hI
    rw [e1]; dsimp only; rw [e2]
    refine ⟨⟨h0, h⟩, e3, fun a => ?_, fun a => ⟨⟨by omega, s2 a⟩, by omega⟩⟩
    rw [s1 a]; exact ⟨⟨rfl, rfl, rfl, rfl, rfl, rfl⟩, rfl⟩
  · obtain ⟨h0, hI⟩ := hi
    rw [ixEnd h] at hI
    rw [← hI]; exact ⟨⟨rfl, rfl, rfl, rfl, rfl, rfl⟩, rfl⟩
theorem cdriver_t : Told Try.prog 40 cdriver_con := cdriver_told csOk_nil cdriver_ok
theorem rCdriver_ok : rCdriver_vc := by
  unfold rCdriver_vc
  simp only [bad_false, int0, nilOf, decide_eq_true_eq, decide_eq_false_iff_not, Bool.not_eq_true', Bool.not_eq_false', Bool.not_true, Bool.not_false, Bool.false_eq_true, Bool.true_eq_false, eq_self, true_and, and_true, false_or, or_false, false_implies, true_implies, implies_true, Int.not_lt, Int.not_le, gt_iff_lt, ge_iff_le, ne_eq]
  rintro x hl id
  have hl := hl.le
  refine ⟨fun i => 0 ≤ i ∧ findD id (x.drop i.toNat) = findD id x, fun i => x.length - i.toNat, ⟨by omega, rfl⟩, fun i hi => ⟨fun h => ?_, fun h => ?_⟩⟩
  · obtain ⟨h0, hI⟩ := hi
    obtain ⟨e1, e2, e3, e4⟩ := ix (FK.zero .driver) hl h0 h
    rw [e4] at hI
    obtain ⟨s1, s2⟩ := findD_step hI
    rw [e1]; dsimp only; rw [e2]
    refine ⟨⟨h0, h⟩, e3, fun a => ⟨⟨h0, h⟩, e3, ?_⟩, fun a => ⟨⟨by omega, s2 a⟩, by omega⟩⟩
    rw [s1 a]; exact ⟨⟨rfl, rfl, rfl, rfl, rfl, rfl⟩, rfl⟩
  · obtain ⟨h0, hI⟩ := hi
    rw [ixEnd h] at hI
    rw [← hI]; exact ⟨⟨rfl, rfl, rfl, rfl, rfl, rfl⟩, rfl⟩
theorem rCdriver_t : Told Try.prog 45 rCdriver_con := rCdriver_told csOk_nil rCdriver_ok
theorem numberP_bound (id : Int) (l : List Route) : -1 ≤ numberP id l ∧ numberP id l < l.length := by
  induction l with
  | nil => simp [numberP]
  | cons x l ih =>
    rw [numberP]
    split
    · simp only [List.length_cons]; omega
    · split <;> simp only [List.length_cons] <;> omega
theorem numberP_step {id : Int} {r : Route} {l : List Route} {i : Nat} {w : Int} (h : w = if numberP id (r :: l) < 0 then -1 else numberP id (r :: l) + i) : (r.driver = id → (i : Int) = w) ∧ (¬ r.driver = id → w = if numberP id l < 0 then -1 else numberP id l + ((i + 1 : Nat) : Int)) := by
  have hb := (numberP_bound id l).1
  rw [numberP] at h
  constructor
  · intro e; rw [if_pos e] at h; simpa using h.symm
  · intro e; rw [if_neg e] at h
    by_cases h2 : numberP id l < 0
    · rw [if_pos h2] at h ⊢; simpa using h
    · rw [if_neg h2] at h ⊢; rw [if_neg (by omega)] at h; omega
theorem routed_number {id : Int} {l : List Route} : (numberP id l < 0 → routed id l = none) ∧ (0 ≤ numberP id l → routed id l = some (l.getD (numberP id l).toNat rz) ∧ (l.getD (numberP id l).toNat rz).driver = id) := by
  induction l with
  | nil => simp [numberP, routed]
  | cons r l ih =>
    rw [numberP, routed]
    by_cases e : r.driver = id
    · rw [if_pos e, if_pos e]; simp [e]
    · rw [if_neg e, if_neg e]
      by_cases h2 : numberP id l < 0
      · rw [if_pos h2]; simp [ih.1 h2]
      · rw [if_neg h2]
        have h3 : 0 ≤ numberP id l := by omega
        refine ⟨fun q => by omega, fun q => ?_⟩
        rw [show (numberP id l + 1).toNat = (numberP id l).toNat + 1 by omega, List.getD_cons_succ]
        exact ih.2 h3
theorem rNumber_ok : rNumber_vc := by
  unfold rNumber_vc
  simp only [bad_false, int0, nilOf, decide_eq_true_eq, decide_eq_false_iff_not, Bool.not_eq_true', Bool.not_eq_false', Bool.not_true, Bool.not_false, Bool.false_eq_true, Bool.true_eq_false, eq_self, true_and, and_true, false_or, or_false, false_implies, true_implies, implies_true, Int.not_lt, Int.not_le, gt_iff_lt, ge_iff_le, ne_eq]
  rintro x ⟨hl, hr⟩ id
  have hl := hl.le
  refine ⟨fun i => 0 ≤ i ∧ numberP id x = (if numberP id (x.drop i.toNat) < 0 then -1 else numberP id (x.drop i.toNat) + (i.toNat : Int)), fun i => x.length - i.toNat, ⟨by omega, ?_⟩, fun i hi => ⟨fun h => ?_, fun h => ?_⟩⟩
  · have hb := (numberP_bound id x).1
    simp only [Int.toNat_zero, List.drop_zero]
    split <;> omega
  · obtain ⟨h0, hI⟩ := hi
    obtain ⟨e1, e2, e3, e4⟩ := ix rz hl h0 h
    rw [e4] at hI
    obtain ⟨s1, s2⟩ := numberP_step hI
    rw [e1]; dsimp only; rw [e2]
    refine ⟨⟨h0, h⟩, e3, fun hq => ?_, fun hq => ⟨⟨by omega, s2 hq⟩, by omega⟩⟩
    have := s1 hq
    omega
  · obtain ⟨h0, hI⟩ := hi
    rw [ixEnd h] at hI
    exact hI.symm
theorem rNumber_t : Told Try.prog 49 rNumber_con := rNumber_told csOk_nil rNumber_ok
end Go.Eng

/- Plans: the document's own Right; what goes together; what is kept: it is so. -/
set_option linter.unusedVariables false
set_option linter.unusedSimpArgs false
namespace Go.Eng
open Go Go.Proofs
def lastD (x : List Route) (i : Int) : Int := if 0 < i then (x.getD (i - 1).toNat rz).driver else 0
theorem rPright_ok : rPright_vc := by
  unfold rPright_vc
  simp only [bad_false, int0, nilOf, decide_eq_true_eq, decide_eq_false_iff_not, Bool.not_eq_true', Bool.not_eq_false', Bool.not_true, Bool.not_false, Bool.false_eq_true, Bool.true_eq_false, eq_self, true_and, and_true, false_or, or_false, false_implies, true_implies, implies_true, Int.not_lt, Int.not_le, gt_iff_lt, ge_iff_le, ne_eq]
  rintro x ⟨hl, hr⟩
  have hl := hl.le
  refine ⟨fun h8 => right_no fun hR => by have := hR.1; omega, fun h8 => ⟨fun all i => 0 ≤ i ∧ 0 ≤ lastD x i ∧ (okR (lastD x i) all (x.drop i.toNat) ↔ okR 0 [] x) ∧ all.length ≤ 80 * i.toNat, fun _ i => x.length - i.toNat, ⟨by omega, by simp [lastD], Iff.rfl, by simp⟩, fun all i hi => ⟨fun h => ?_, fun h => ?_⟩⟩⟩
  · obtain ⟨h0, hL, hI, hA⟩ := hi
    obtain ⟨e1, e2, e3, e4⟩ := ix rz hl h0 h
    have hrl := route_len hr _ (getD_mem rz e3)
    rw [e4, okR] at hI
    have hlast : lastD x (i + 1) = (x.getD i.toNat rz).driver := by unfold lastD; rw [if_pos (by omega), show i + 1 - 1 = i by omega]
    rw [e1]; dsimp only; rw [e2, hlast]
    change List Route at x
    have hprev : 0 < i → (wrap (i - 1) = i - 1 ∧ (i - 1).toNat < x.length ∧ (x.getD (i - 1).toNat rz).driver = lastD x i) := fun q => ⟨wrap_id (by omega) (by omega), by omega, by unfold lastD; rw [if_pos q]⟩
    have hfst : i ≤ 0 → lastD x i = 0 := fun q => by unfold lastD; rw [if_neg (by omega)]
    generalize lastD x i = last at *
    generalize x.getD i.toNat { driver := 0, served := 0, stops := [] } = r at *
    unfold okR1 at hI
    refine ⟨⟨h0, h⟩, e3, fun a1 => ⟨fun a2 => ⟨fun hp => ?A, fun hp => ?B⟩, fun a2 => right_no fun hR => by have := hI.2 hR.2; omega⟩, fun a1 => right_no fun hR => by have := hI.2 hR.2; omega⟩
    case' A =>
      obtain ⟨p1, p2, p3⟩ := hprev hp
      rw [p1, p3]
      refine ⟨⟨by omega, by omega⟩, p2, fun a3 => ?C, fun a3 => right_no fun hR => by have := hI.2 hR.2; omega⟩
    case' B => have a3 : last < r.driver := by rw [hfst hp]; omega
    all_goals
      refine ⟨fun b1 => ⟨fun b2 => ⟨fun b3 => right_no fun hR => by have := hI.2 hR.2; omega, fun b3 => ?_⟩, fun b2 => right_no fun hR => by have := hI.2 hR.2; omega⟩, fun b1 => right_no fun hR => by have := hI.2 hR.2; omega⟩
      have hI' : (okS all r.stops ∧ okR r.driver (all ++ r.stops) (x.drop (i.toNat + 1))) ↔ okR 0 [] x := by
        rw [← hI]; exact ⟨fun q => ⟨⟨a3, a2, by omega, b2, b3⟩, q⟩, fun q => q.2⟩
      refine ⟨fun al j => 0 ≤ j ∧ j ≤ r.stops.length ∧ ((okS al (r.stops.drop j.toNat) ∧ okR r.driver (al ++ r.stops.drop j.toNat) (x.drop (i.toNat + 1))) ↔ okR 0 [] x) ∧ al.length ≤ 80 * i.toNat + j.toNat, fun _ j => r.stops.length - j.toNat, ⟨by omega, by omega, by simpa using hI', by simpa using hA⟩, fun al j hj => ⟨fun k => ?_, fun k => ?_⟩⟩
      · obtain ⟨j0, j1, hJ, hB⟩ := hj
        obtain ⟨d1, d2, d3, d4⟩ := ix (FK.zero .stop) hrl j0 k
        rw [d4, okS] at hJ
        rw [d1]; dsimp only; rw [d2]
        generalize r.stops.getD j.toNat (FK.zero .stop) = s at *
        refine ⟨⟨j0, k⟩, d3, fun q1 => ⟨fun q2 => right_no fun hR => by have := (hJ.2 hR.2).1.1; omega, fun q2 => ?_⟩, fun q1 => right_no fun hR => by have := (hJ.2 hR.2).1.1; omega⟩
        refine ⟨fun t => 0 ≤ t ∧ s ∉ al.take t.toNat, fun t => al.length - t.toNat, ⟨by omega, by simp⟩, fun t ht => ⟨fun g => ?_, fun g => ?_⟩⟩
        · obtain ⟨t0, hT⟩ := ht
          obtain ⟨g1, g2, g3, g4⟩ := ix (FK.zero .stop) (by omega) t0 g
          rw [g1]; dsimp only; rw [g2]
          have hm := getD_mem (FK.zero .stop) g3
          refine ⟨⟨t0, g⟩, g3, fun y => right_no fun hR => ?_, fun y => ⟨⟨by omega, ?_⟩, by omega⟩⟩
          · rw [(elEqS _ _).1 y] at hm
            exact (hJ.2 hR.2).1.1.2.2 hm
          · have hy := (elEqS' _ _).1 y
            rw [List.take_succ_eq_append_getElem g3, List.mem_append, ← getD_get (FK.zero .stop) g3]
            rintro (z | z)
            · exact hT z
            · exact hy (List.mem_singleton.1 z).symm
        · obtain ⟨t0, hT⟩ := ht
          rw [List.take_of_length_le (by omega)] at hT
          refine ⟨by simp; omega, ⟨by omega, by omega, ?_, by simp; omega⟩, by omega⟩
          rw [← hJ]
          simp only [List.append_assoc, List.singleton_append]
          exact ⟨fun q => ⟨⟨⟨q1, q2, hT⟩, q.1⟩, q.2⟩, fun q => ⟨q.1.2, q.2⟩⟩
      · obtain ⟨j0, j1, hJ, hB⟩ := hj
        rw [ixEnd k, List.append_nil] at hJ
        exact ⟨⟨by omega, by omega, ⟨fun q => hJ.1 ⟨trivial, q⟩, fun q => (hJ.2 q).2⟩, by omega⟩, by omega⟩
  · obtain ⟨h0, hL, hI, hA⟩ := hi
    rw [ixEnd h] at hI
    exact right_yes ⟨by omega, hI.1 trivial⟩
theorem rPright_t : Told Try.prog 24 rPright_con := rPright_told csOk_nil rPright_ok
theorem all_range {p : Nat → Bool} {n : Nat} : (List.range n).all p = true ↔ ∀ k, k < n → p k = true := by simp
theorem wellP_iff {m : Option MapD} {ds : List Driver} {os : List Order} {p : List Route} : wellP m ds os p = true ↔ m.isSome = true ∧ ds.length ≤ 8 ∧ knownO m os = true ∧ rightP p = true ∧ ∀ k, k < ds.length → okD m ds k = true := by
  unfold wellP
  simp [and_assoc]
theorem well_no {m : Option MapD} {ds : List Driver} {os : List Order} {p : List Route} (h : ¬ wellP m ds os p = true) : false = wellP m ds os p := by simpa using h
theorem okD_iff {m : Option MapD} {ds : List Driver} {k : Nat} : okD m ds k = true ↔ driverE m (ds.getD k (FK.zero .driver)) = 0 ∧ (findD (ds.getD k (FK.zero .driver)).id (ds.take k)) = none := by
  simp [okD]
theorem ctog_ok : ctog_vc := by
  unfold ctog_vc
  simp only [bad_false, int0, nilOf, decide_eq_true_eq, decide_eq_false_iff_not, Bool.not_eq_true', Bool.not_eq_false', Bool.not_true, Bool.not_false, Bool.false_eq_true, Bool.true_eq_false, eq_self, true_and, and_true, false_or, or_false, false_implies, true_implies, implies_true, Int.not_lt, Int.not_le, gt_iff_lt, ge_iff_le, ne_eq]
  refine ⟨fun ds _ os _ p _ _ => rfl, ?_⟩
  intro m hm ds hd os ho p hp hmo
  have hd := hd.le
  refine ⟨fun a => ⟨hmo, fun b => ⟨fun c => well_no fun hw => by have := (wellP_iff.1 hw).2.2.2.1; exact absurd (c.symm.trans this) (by decide), fun c => ?_⟩, fun b => well_no fun hw => by have := (wellP_iff.1 hw).2.2.1; exact absurd (b.symm.trans this) (by decide)⟩, fun a => well_no fun hw => by have := (wellP_iff.1 hw).2.1; omega⟩
  refine ⟨fun i => 0 ≤ i ∧ i ≤ ds.length ∧ ∀ k, k < i.toNat → okD (some m) ds k = true, fun i => ds.length - i.toNat, ⟨by omega, by omega, fun k hk => by simp at hk⟩, fun i hi => ⟨fun h => ?_, fun h => ?_⟩⟩
  · obtain ⟨h0, h1, hI⟩ := hi
    obtain ⟨e1, e2, e3, e4⟩ := ix (FK.zero .driver) hd h0 h
    rw [e1]; dsimp only; rw [e2]
    have hp : part ds (Int.toNat 0) (i.toNat - Int.toNat 0) = ds.take i.toNat := by simp [part]
    rw [hp]
    refine ⟨⟨h0, h⟩, e3, ⟨by omega, by omega, by omega⟩, by simp; omega, fun q => ⟨hmo, fun r => well_no fun hw => ?_, fun r => ⟨⟨by omega, by omega, fun k hk => ?_⟩, by omega⟩⟩, fun q => well_no fun hw => ?_⟩
    · exact r (okD_iff.1 ((wellP_iff.1 hw).2.2.2.2 _ e3)).1
    · by_cases e : k < i.toNat
      · exact hI k e
      · rw [show k = i.toNat by omega, okD_iff]; exact ⟨r, by simpa using q⟩
    · have := (okD_iff.1 ((wellP_iff.1 hw).2.2.2.2 _ e3)).2
      rw [this] at q; cases q
  · obtain ⟨h0, h1, hI⟩ := hi
    exact (wellP_iff.2 ⟨rfl, by omega, b, c, fun k hk => hI k (by omega)⟩).symm
theorem ctog_t : Told Try.prog 39 ctog_con := ctog_told (csOk_cons known_t (csOk_cons pright_t (csOk_cons cdriver_t (csOk_cons driver_t csOk_nil)))) ctog_ok
theorem rWell_ok : rWell_vc := by
  unfold rWell_vc
  simp only [bad_false, int0, nilOf, decide_eq_true_eq, decide_eq_false_iff_not, Bool.not_eq_true', Bool.not_eq_false', Bool.not_true, Bool.not_false, Bool.false_eq_true, Bool.true_eq_false, eq_self, true_and, and_true, false_or, or_false, false_implies, true_implies, implies_true, Int.not_lt, Int.not_le, gt_iff_lt, ge_iff_le, ne_eq]
  refine ⟨fun ds _ os _ p _ _ => rfl, ?_⟩
  intro m hm ds hd os ho p hp hmo
  have hd := hd.le
  refine ⟨fun a => ⟨fun b => ⟨fun c => well_no fun hw => by have := (wellP_iff.1 hw).2.2.2.1; exact absurd (c.symm.trans this) (by decide), fun c => ?_⟩, fun b => well_no fun hw => by have := (wellP_iff.1 hw).2.2.1; exact absurd (b.symm.trans this) (by decide)⟩, fun a => well_no fun hw => by have := (wellP_iff.1 hw).2.1; omega⟩
  refine ⟨fun i => 0 ≤ i ∧ i ≤ ds.length ∧ ∀ k, k < i.toNat → okD (some m) ds k = true, fun i => ds.length - i.toNat, ⟨by omega, by omega, fun k hk => by simp at hk⟩, fun i hi => ⟨fun h => ?_, fun h => ?_⟩⟩
  · obtain ⟨h0, h1, hI⟩ := hi
    obtain ⟨e1, e2, e3, e4⟩ := ix (FK.zero .driver) hd h0 h
    rw [e1]; dsimp only; rw [e2]
    refine ⟨⟨h0, h⟩, e3, fun r => well_no fun hw => r (okD_iff.1 ((wellP_iff.1 hw).2.2.2.2 _ e3)).1, fun r => ?_⟩
    refine ⟨fun j => 0 ≤ j ∧ j ≤ i ∧ ∀ k, k < j.toNat → (ds.getD k (FK.zero .driver)).id ≠ (ds.getD i.toNat (FK.zero .driver)).id, fun j => ds.length - j.toNat, ⟨by omega, by omega, fun k hk => by simp at hk⟩, fun j hj => ⟨fun g => ?_, fun g => ?_⟩⟩
    · obtain ⟨j0, j1, hJ⟩ := hj
      obtain ⟨d1, d2, d3, d4⟩ := ix (FK.zero .driver) hd j0 (show j < ds.length by omega)
      rw [d1]; dsimp only; rw [d2]
      refine ⟨⟨j0, by omega⟩, d3, ⟨h0, h⟩, e3, fun q => well_no fun hw => ?_, fun q => ⟨⟨by omega, by omega, fun k hk => ?_⟩, by omega⟩⟩
      · have hn := findD_none.1 (okD_iff.1 ((wellP_iff.1 hw).2.2.2.2 _ e3)).2
        refine hn (ds.getD j.toNat (FK.zero .driver)) ?_ q
        rw [getD_get _ d3]
        exact List.mem_take_iff_getElem.2 ⟨j.toNat, by omega, rfl⟩
      · by_cases e : k < j.toNat
        · exact hJ k e
        · rw [show k = j.toNat by omega]; exact q
    · obtain ⟨j0, j1, hJ⟩ := hj
      refine ⟨⟨by omega, by omega, fun k hk => ?_⟩, by omega⟩
      by_cases e : k < i.toNat
      · exact hI k e
      · rw [show k = i.toNat by omega, okD_iff]
        refine ⟨r, findD_none.2 fun d hd' => ?_⟩
        obtain ⟨t, ht, rfl⟩ := List.mem_take_iff_getElem.1 hd'
        have := hJ t (by omega)
        rwa [getD_get _ (show t < ds.length by omega)] at this
  · obtain ⟨h0, h1, hI⟩ := hi
    exact (wellP_iff.2 ⟨rfl, by omega, b, c, fun k hk => hI k (by omega)⟩).symm
theorem rWell_t : Told Try.prog 44 rWell_con := rWell_told (csOk_cons rKnown_t (csOk_cons rPright_t (csOk_cons rDriver_t csOk_nil))) rWell_ok
theorem keptP_iff {a b : List Route} : keptP a b = true ↔ KeptP a b := by simp [keptP]
theorem kept_no {a b : List Route} (h : ¬ KeptP a b) : false = keptP a b := by
  cases e : keptP a b with
  | false => rfl
  | true => exact absurd (keptP_iff.1 e) h
theorem kept_yes {a b : List Route} (h : KeptP a b) : true = keptP a b := (keptP_iff.2 h).symm
theorem right_ne {p : List Route} (h : rightP p = false) : ¬ RightP p := fun q => by rw [rightP_iff.2 q] at h; cases h
theorem okR_mem {p : List Route} {last : Int} {all : List Stop} (h : okR last all p) : ∀ r ∈ p, last < r.driver ∧ r.driver ≤ 1000000 ∧ r.stops.length ≤ 80 ∧ 0 ≤ r.served ∧ r.served ≤ r.stops.length := by
  induction p generalizing last all with
  | nil => simp
  | cons a l ih =>
    intro r hr
    rcases List.mem_cons.1 hr with rfl | hr
    · exact h.1
    · have := ih h.2.2 r hr
      have := h.1.1
      refine ⟨by omega, by omega, by omega, by omega, by omega⟩
theorem routed_mem {id : Int} {p : List Route} {r : Route} (h : routed id p = some r) : r ∈ p ∧ r.driver = id := by
  induction p with
  | nil => cases h
  | cons a l ih =>
    rw [routed] at h
    split at h
    · cases h; simp [*]
    · exact ⟨List.mem_cons_of_mem _ (ih h).1, (ih h).2⟩
theorem routed_none {id : Int} {p : List Route} : routed id p = none ↔ ∀ r ∈ p, r.driver ≠ id := by
  induction p with
  | nil => simp [routed]
  | cons d l ih => rw [routed]; split <;> simp_all
theorem routed_drop {id : Int} {p : List Route} {i : Nat} (h : i < p.length) (hn : routed id (p.take i) = none) (he : (p.getD i rz).driver = id) : routed id p = some (p.getD i rz) := by
  induction p generalizing i with
  | nil => simp at h
  | cons a l ih =>
    rw [routed]
    cases i with
    | zero => rw [List.getD_cons_zero] at he ⊢; rw [if_pos he]
    | succ i =>
      rw [List.take_succ_cons, routed] at hn
      split at hn
      · cases hn
      · rename_i hne
        rw [if_neg hne, List.getD_cons_succ]
        exact ih (by simpa using h) hn (by simpa using he)
theorem take_same {a b : List Stop} {n : Nat} (ha : n ≤ a.length) (hb : n ≤ b.length) : a.take n = b.take n ↔ ∀ k, k < n → a.getD k (FK.zero .stop) = b.getD k (FK.zero .stop) := by
  constructor
  · intro h k hk
    rw [getD_get _ (show k < a.length by omega), getD_get _ (show k < b.length by omega)]
    have h1 : (a.take n)[k]'(by rw [List.length_take]; omega) = (b.take n)[k]'(by rw [List.length_take]; omega) := by simp only [h]
    simpa using h1
  · intro h
    apply List.ext_getElem
    · simp only [List.length_take]; omega
    · intro k h1 h2
      rw [List.length_take] at h1
      have := h k (by omega)
      rw [getD_get _ (show k < a.length by omega), getD_get _ (show k < b.length by omega)] at this
      simpa using this
/-- The rows of the later plan, up to one. -/
def KeptN (old new : List Route) (i : Nat) : Prop := ∀ k, k < i → keptR old (new.getD k rz)
theorem keptN_more {old new : List Route} {i : Nat} (h : KeptN old new i) (hk : keptR old (new.getD i rz)) : KeptN old new (i + 1) := fun k hk' => by
  by_cases e : k < i
  · exact h k e
  · rw [show k = i by omega]; exact hk
def HasN (old new : List Route) (i : Nat) : Prop := ∀ k, k < i → (routed (old.getD k rz).driver new).isSome = true
theorem hasN_more {old new : List Route} {i : Nat} (h : HasN old new i) (hk : (routed (old.getD i rz).driver new).isSome = true) : HasN old new (i + 1) := fun k hk' => by
  by_cases e : k < i
  · exact h k e
  · rw [show k = i by omega]; exact hk
theorem kept_all {old new : List Route} : KeptP old new ↔ RightP old ∧ RightP new ∧ HasN old new old.length ∧ KeptN old new new.length := by
  unfold KeptP HasN KeptN
  rw [forall_getD rz, forall_getD rz (l := new)]
/-- One route of the later plan beside the earlier one's. -/
theorem keptR_iff {old : List Route} {r o : Route} (ho : (routed r.driver old).getD ⟨0, 0, []⟩ = o) (hr : r.served ≤ r.stops.length) (hs : r.served = o.served) (hol : o.served ≤ o.stops.length) (h0 : 0 ≤ r.served) : keptR old r ↔ ∀ k, k < r.served.toNat → r.stops.getD k (FK.zero .stop) = o.stops.getD k (FK.zero .stop) := by
  unfold keptR
  rw [ho, take_same (by omega) (by omega)]
  exact ⟨fun h => h.2, fun h => ⟨hs, h⟩⟩
theorem rAkept_ok : rAkept_vc := by
  unfold rAkept_vc
  simp only [bad_false, int0, nilOf, decide_eq_true_eq, decide_eq_false_iff_not, Bool.not_eq_true', Bool.not_eq_false', Bool.not_true, Bool.not_false, Bool.false_eq_true, Bool.true_eq_false, eq_self, true_and, and_true, false_or, or_false, false_implies, true_implies, implies_true, Int.not_lt, Int.not_le, gt_iff_lt, ge_iff_le, ne_eq]
  rintro x ⟨hx, hxr⟩ y ⟨hy, hyr⟩
  have hx := hx.le
  have hy := hy.le
  refine ⟨fun rx => ⟨fun ry => kept_no fun h => right_ne ry h.2.1, fun ry => ?_⟩, fun rx => kept_no fun h => right_ne rx h.1⟩
  have rx' := rightP_iff.1 rx
  have ry' := rightP_iff.1 ry
  refine ⟨fun i => 0 ≤ i ∧ i ≤ x.length ∧ HasN x y i.toNat, fun i => x.length - i.toNat, ⟨by omega, by omega, fun k hk => by simp at hk⟩, fun i hi => ⟨fun h => ?_, fun h => ?_⟩⟩
  · obtain ⟨h0, h1, hI⟩ := hi
    obtain ⟨e1, e2, e3, e4⟩ := ix rz hx h0 h
    rw [e1]; dsimp only; rw [e2]
    refine ⟨⟨h0, h⟩, e3, fun q => kept_no fun hk => ?_, fun q => ⟨⟨by omega, by omega, hasN_more hI ?_⟩, by omega⟩⟩
    · have := (kept_all.1 hk).2.2.1 _ e3
      rw [routed_number.1 q] at this; cases this
    · rw [(routed_number.2 q).1]; rfl
  · obtain ⟨h0, h1, hI⟩ := hi
    rw [show i.toNat = x.length by omega] at hI
    refine ⟨fun i => 0 ≤ i ∧ i ≤ y.length ∧ KeptN x y i.toNat, fun i => y.length - i.toNat, ⟨by omega, by omega, fun k hk => by simp at hk⟩, fun i hi => ⟨fun g => ?_, fun g => ?_⟩⟩
    · obtain ⟨i0, i1, iI⟩ := hi
      obtain ⟨e1, e2, e3, e4⟩ := ix rz hy i0 g
      rw [e1]; dsimp only; rw [e2]
      have hrm := okR_mem ry'.2 _ (getD_mem rz e3)
      have hrl := route_len hyr _ (getD_mem rz e3)
      have hfail : ¬ keptR x (y.getD i.toNat rz) → false = keptP x y := fun q => kept_no fun hk => q ((kept_all.1 hk).2.2.2 _ e3)
      have hmore := keptN_more (i := i.toNat) iI
      generalize y.getD i.toNat { driver := 0, served := 0, stops := [] } = r at *
      refine ⟨⟨i0, g⟩, e3, fun q => ⟨⟨i0, g⟩, e3, fun t => hfail fun hk => ?_, fun t => ⟨⟨by omega, by omega, hmore ?_⟩, by omega⟩⟩, fun q => ?_⟩
      · have := hk.1; rw [routed_number.1 q] at this; exact t this
      · unfold keptR; rw [routed_number.1 q, t]; exact ⟨rfl, by simp⟩
      · obtain ⟨ro, rd⟩ := routed_number.2 q
        have hb := (numberP_bound r.driver x).2
        have hon := okR_mem rx'.2 _ (routed_mem ro).1
        generalize hN : numberP r.driver x = N at *
        generalize x.getD N.toNat { driver := 0, served := 0, stops := [] } = o at *
        have hO : (routed r.driver x).getD ⟨0, 0, []⟩ = o := by rw [ro]; rfl
        refine ⟨⟨i0, g⟩, e3, ⟨q, hb⟩, by omega, fun t => hfail fun hk => ?_, fun t => ?_⟩
        · have := hk.1; rw [hO] at this; exact t this
        have hK := keptR_iff hO (by omega) t (by omega) (by omega)
        refine ⟨fun j => 0 ≤ j ∧ j ≤ r.served ∧ ∀ k, k < j.toNat → r.stops.getD k (FK.zero .stop) = o.stops.getD k (FK.zero .stop), fun j => r.stops.length - j.toNat, ⟨by omega, by omega, fun k hk => by simp at hk⟩, fun j hj => ⟨⟨i0, g⟩, e3, fun v => ?_, fun v => ?_⟩⟩
        · obtain ⟨j0, j1, jI⟩ := hj
          have d1 : wrap (j + 1) = j + 1 := wrap_id (by omega) (by omega)
          rw [d1]; dsimp only
          refine ⟨⟨i0, g⟩, e3, ⟨by omega, by omega⟩, by omega, ⟨q, hb⟩, by omega, ⟨by omega, by omega⟩, by omega, fun z => hfail fun hk => (elEqS' _ _).1 z (hK.1 hk _ (by omega)), fun z => ⟨⟨by omega, by omega, fun k hk => ?_⟩, by omega⟩⟩
          by_cases e : k < j.toNat
          · exact jI k e
          · rw [show k = j.toNat by omega]; exact (elEqS _ _).1 z
        · obtain ⟨j0, j1, jI⟩ := hj
          exact ⟨⟨by omega, by omega, hmore (hK.2 fun k hk => jI k (by omega))⟩, by omega⟩
    · obtain ⟨i0, i1, iI⟩ := hi
      rw [show i.toNat = y.length by omega] at iI
      exact kept_yes (kept_all.2 ⟨rx', ry', hI, iI⟩)
theorem rAkept_t : Told Try.prog 23 rAkept_con := rAkept_told (csOk_cons rPright_t (csOk_cons rNumber_t csOk_nil)) rAkept_ok
theorem akept_ok : akept_vc := by
  unfold akept_vc
  simp only [bad_false, int0, nilOf, decide_eq_true_eq, decide_eq_false_iff_not, Bool.not_eq_true', Bool.not_eq_false', Bool.not_true, Bool.not_false, Bool.false_eq_true, Bool.true_eq_false, eq_self, true_and, and_true, false_or, or_false, false_implies, true_implies, implies_true, Int.not_lt, Int.not_le, gt_iff_lt, ge_iff_le, ne_eq]
  rintro x ⟨hx, hxr⟩ y ⟨hy, hyr⟩
  have hx := hx.le
  have hy := hy.le
  refine ⟨fun rx => ⟨fun ry => kept_no fun h => right_ne ry h.2.1, fun ry => ?_⟩, fun rx => kept_no fun h => right_ne rx h.1⟩
  have rx' := rightP_iff.1 rx
  have ry' := rightP_iff.1 ry
  refine ⟨fun i => 0 ≤ i ∧ i ≤ x.length ∧ HasN x y i.toNat, fun i => x.length - i.toNat, ⟨by omega, by omega, fun k hk => by simp at hk⟩, fun i hi => ⟨fun h => ?_, fun h => ?_⟩⟩
  · obtain ⟨h0, h1, hI⟩ := hi
    obtain ⟨e1, e2, e3, e4⟩ := ix rz hx h0 h
    rw [e1]; dsimp only; rw [e2]
    have hfail : routed (x.getD i.toNat rz).driver y = none → false = keptP x y := fun q => kept_no fun hk => by
      have := (kept_all.1 hk).2.2.1 _ e3
      rw [q] at this; cases this
    have hmore := hasN_more (i := i.toNat) hI
    generalize x.getD i.toNat { driver := 0, served := 0, stops := [] } = r at *
    refine ⟨⟨h0, h⟩, e3, fun j => 0 ≤ j ∧ j ≤ y.length ∧ routed r.driver (y.take j.toNat) = none, fun j => y.length - j.toNat, ⟨by omega, by omega, rfl⟩, fun j hj => ⟨fun g => ?_, fun g => ?_⟩⟩
    · obtain ⟨j0, j1, jI⟩ := hj
      obtain ⟨d1, d2, d3, d4⟩ := ix rz hy j0 g
      rw [d1]; dsimp only; rw [d2]
      refine ⟨⟨j0, g⟩, d3, fun q => ⟨⟨by omega, by omega, hmore ?_⟩, by omega⟩, fun q => ⟨⟨by omega, by omega, ?_⟩, by omega⟩⟩
      · rw [routed_drop d3 jI q]; rfl
      · rw [routed_none] at jI ⊢
        intro r' hr'
        rw [List.take_succ_eq_append_getElem d3, List.mem_append] at hr'
        rcases hr' with z | z
        · exact jI r' z
        · rw [List.mem_singleton.1 z, ← getD_get rz d3]; exact q
    · obtain ⟨j0, j1, jI⟩ := hj
      rw [List.take_of_length_le (by omega)] at jI
      exact hfail jI
  · obtain ⟨h0, h1, hI⟩ := hi
    rw [show i.toNat = x.length by omega] at hI
    refine ⟨fun i => 0 ≤ i ∧ i ≤ y.length ∧ KeptN x y i.toNat, fun i => y.length - i.toNat, ⟨by omega, by omega, fun k hk => by simp at hk⟩, fun i hi => ⟨fun g => ?_, fun g => ?_⟩⟩
    · obtain ⟨i0, i1, iI⟩ := hi
      obtain ⟨e1, e2, e3, e4⟩ := ix rz hy i0 g
      rw [e1]; dsimp only; rw [e2]
      have hrm := okR_mem ry'.2 _ (getD_mem rz e3)
      have hrl := route_len hyr _ (getD_mem rz e3)
      have hfail : ¬ keptR x (y.getD i.toNat rz) → false = keptP x y := fun q => kept_no fun hk => q ((kept_all.1 hk).2.2.2 _ e3)
      have hmore := keptN_more (i := i.toNat) iI
      generalize y.getD i.toNat { driver := 0, served := 0, stops := [] } = r at *
      refine ⟨⟨i0, g⟩, e3, fun l => 0 ≤ l ∧ l ≤ x.length ∧ routed r.driver (x.take l.toNat) = none, fun l => x.length - l.toNat, ⟨by omega, by omega, rfl⟩, fun l hl => ⟨fun u => ?_, fun u => ?_⟩⟩
      · obtain ⟨l0, l1, lI⟩ := hl
        obtain ⟨d1, d2, d3, d4⟩ := ix rz hx l0 u
        rw [d1]; dsimp only; rw [d2]
        refine ⟨⟨l0, u⟩, d3, fun q => ?_, fun q => ⟨⟨by omega, by omega, ?_⟩, by omega⟩⟩
        · have ro := routed_drop d3 lI q
          have hon := okR_mem rx'.2 _ (getD_mem rz d3)
          generalize x.getD l.toNat { driver := 0, served := 0, stops := [] } = o at *
          have hO : (routed r.driver x).getD ⟨0, 0, []⟩ = o := by rw [ro]; rfl
          refine ⟨fun t => hfail fun hk => ?_, fun t => ?_⟩
          · have := hk.1; rw [hO] at this; exact t this
          have hK := keptR_iff hO (by omega) t (by omega) (by omega)
          refine ⟨fun j => 0 ≤ j ∧ j ≤ r.served ∧ ∀ k, k < j.toNat → r.stops.getD k (FK.zero .stop) = o.stops.getD k (FK.zero .stop), fun j => r.stops.length - j.toNat, ⟨by omega, by omega, fun k hk => by simp at hk⟩, fun j hj => ⟨fun v => ?_, fun v => ?_⟩⟩
          · obtain ⟨j0, j1, jI⟩ := hj
            have d1 : wrap (j + 1) = j + 1 := wrap_id (by omega) (by omega)
            rw [d1]; dsimp only
            refine ⟨⟨by omega, by omega⟩, by omega, ⟨by omega, by omega⟩, by omega, fun z => hfail fun hk => (elEqS' _ _).1 z (hK.1 hk _ (by omega)), fun z => ⟨⟨by omega, by omega, fun k hk => ?_⟩, by omega⟩⟩
            by_cases e : k < j.toNat
            · exact jI k e
            · rw [show k = j.toNat by omega]; exact (elEqS _ _).1 z
          · obtain ⟨j0, j1, jI⟩ := hj
            exact ⟨⟨by omega, by omega, hmore (hK.2 fun k hk => jI k (by omega))⟩, by omega⟩
        · rw [routed_none] at lI ⊢
          intro r' hr'
          rw [List.take_succ_eq_append_getElem d3, List.mem_append] at hr'
          rcases hr' with z | z
          · exact lI r' z
          · rw [List.mem_singleton.1 z, ← getD_get rz d3]; exact q
      · obtain ⟨l0, l1, lI⟩ := hl
        rw [List.take_of_length_le (by omega)] at lI
        refine ⟨fun t => hfail fun hk => ?_, fun t => ?_⟩
        · have := hk.1; rw [lI] at this; exact t this
        refine ⟨fun j => 0 ≤ j, fun j => 0, by omega, fun j hj => ⟨fun v => by omega, fun v => ⟨⟨by omega, by omega, hmore ?_⟩, by omega⟩⟩⟩
        unfold keptR; rw [lI, t]; exact ⟨rfl, by simp⟩
    · obtain ⟨i0, i1, iI⟩ := hi
      rw [show i.toNat = y.length by omega] at iI
      exact kept_yes (kept_all.2 ⟨rx', ry', hI, iI⟩)
theorem akept_in_ok : InlsOk Try.prog akept_in := inlsOk_cons Try.func42 (by kernel_rfl) inlsOk_nil
theorem akept_t : Told Try.prog 18 akept_con := akept_told (csOk_cons pright_t csOk_nil) akept_in_ok akept_ok
end Go.Eng

/- Certificates, in plain words; what the functions tell. -/
set_option linter.unusedVariables false
set_option linter.unusedSimpArgs false
namespace Go.Eng
open Go Go.Proofs
def makeGo (m : MapD) (ds : List Driver) (os : List Order) : Nat → List Route → Except Fault (List (List Visit))
  | _, [] => .ok []
  | i, r :: l => match findD r.driver ds with
    | none => .error ⟨i, 8⟩
    | some d => match drive (some m) d os r.stops with
      | .error f => .error ⟨i, f.why⟩
      | .ok v => match makeGo m ds os (i + 1) l with
        | .error f => .error f
        | .ok vs => .ok (v :: vs)
noncomputable def makeP (m : Option MapD) (ds : List Driver) (os : List Order) (p : List Route) : Except Fault (List (List Visit)) := match m with
  | none => .error ⟨0, 1⟩
  | some x => if wellP m ds os p then makeGo x ds os 0 p else .error ⟨0, 1⟩
def certR (r : Except Fault (List (List Visit))) : List (List Visit) := match r with | .ok vs => vs | .error _ => []
def cfauR (r : Except Fault (List (List Visit))) : Fault := match r with | .ok _ => ⟨0, 0⟩ | .error f => f
def Visit.stop (v : Visit) : Stop := ⟨v.order, v.drop⟩
def loadN (o : Order) (v : Visit) (load : Int) : Int := if v.drop then load - o.size else load + o.size
def lateN (m : MapD) (d : Driver) (o : Order) (left at' : Int) (v : Visit) : Bool :=
  decide (v.arrive ≠ left + tm m at' (siteOf o v.drop).pl) || !(begin_ (siteOf o v.drop).win v.arrive).2 || decide (v.start ≠ (begin_ (siteOf o v.drop).win v.arrive).1) || decide (v.leave ≠ (begin_ (siteOf o v.drop).win v.arrive).1 + (siteOf o v.drop).sv) || decide (d.hi < v.leave)
def nextE (m : MapD) (d : Driver) (o : Order) (left load : Int) (v : Visit) (at' : Int) : Int :=
  if v.load ≠ loadN o v load ∨ d.room < loadN o v load then 14 else if lateN m d o left at' v then 15 else 0
def checkGo (m : MapD) (d : Driver) (os : List Order) : List Stop → List Visit → Pos → Int
  | _, [], p => if p.load = 0 then 0 else 18
  | ah, v :: l, p => match findO os v.order with
    | none => 8
    | some o => if v.drop && !stands ah ⟨v.order, false⟩ then 17 else if nextE m d o p.now p.load v p.pos ≠ 0 then nextE m d o p.now p.load v p.pos
      else checkGo m d os (ah ++ [v.stop]) l ⟨v.leave, (siteOf o v.drop).pl, v.load⟩
def checkedE (m : MapD) (d : Driver) (os : List Order) (ss : List Stop) (l : List Visit) : Int := if l.map Visit.stop = ss then checkGo m d os [] l ⟨d.lo, d.home, 0⟩ else 4
def checkAll (m : MapD) (ds : List Driver) (os : List Order) : Nat → List Route → List (List Visit) → Fault
  | i, r :: p, l :: c => match findD r.driver ds with
    | none => ⟨i, 8⟩
    | some d => if checkedE m d os r.stops l ≠ 0 then ⟨i, checkedE m d os r.stops l⟩ else checkAll m ds os (i + 1) p c
  | _, _, _ => ⟨0, 0⟩
noncomputable def checkP (m : Option MapD) (ds : List Driver) (os : List Order) (p : List Route) (c : List (List Visit)) : Fault := match m with
  | none => ⟨0, 1⟩
  | some x => if wellP m ds os p then (if c.length = p.length then checkAll x ds os 0 p c else ⟨0, 4⟩) else ⟨0, 1⟩
def CertFits (c : List (List Visit)) : Prop := c.length * 24 ≤ 140737488351232 ∧ ∀ l ∈ c, l.length * 48 ≤ 140737488351232
structure NextPre (m : MapD) (o : Order) (ahead v : Visit) (at' : Int) : Prop where
  map : MapOk m
  site : SiteOk m (siteOf o v.drop)
  at_ : AtOk m at' ahead.leave
  load : -1000000 ≤ ahead.load ∧ ahead.load ≤ 1000000
  size : 0 ≤ o.size ∧ o.size ≤ 1000
structure CheckPre (m : MapD) (d : Driver) (os : List Order) (ss : List Stop) : Prop where
  timed : TimedPre m d os ss
  nodup : ss.Nodup
/-! ### Contracts -/
noncomputable def cmake_con : Con := ⟨[.q .map 91, .c (.a (.f .driver)), .c (.a (.f .order)), .c (.a .route)], fun m ds os p => ⟨some (MapOkO m), [⟨none, [.c (.od (.rows .visit) 76 (certR (makeP m ds os p))), .r (SK.enc (.f .fault) (cfauR (makeP m ds os p)))]⟩]⟩⟩
noncomputable def cmake_cs : Cons := [(39, ctog_con), (40, cdriver_con), (54, timed_con), (30, good_con)]
def cmake_la : List (Nat × LA) := [(5, ⟨[0, 1, 2, 9, 24, 25], [.appd 10 (.rows .visit) 76, .i 26]⟩)]
noncomputable def rCmake_con : Con := ⟨[.q .map 125, .c (.a (.f .driver)), .c (.a (.f .order)), .c (.a .route)], fun m ds os p => ⟨some (MapOkO m), [⟨none, [.c (.od (.rows .visit) 76 (certR (makeP m ds os p))), .r (SK.enc (.f .fault) (cfauR (makeP m ds os p)))]⟩]⟩⟩
noncomputable def rCmake_cs : Cons := [(44, rWell_con), (45, rCdriver_con), (56, rDrive_con)]
def rCmake_la : List (Nat × LA) := [(5, ⟨[0, 1, 2, 3, 9], [.appd 10 (.rows .visit) 76, .i 11]⟩)]
def cshaped_con : Con := ⟨[.c (.a (.f .stop)), .c (.a (.f .visit))], fun ss l => one [.c (.b (decide (l.map Visit.stop = ss)))]⟩
def cshaped_cs : Cons := []
def cshaped_la : List (Nat × LA) := [(4, ⟨[0, 12, 13], [.i 14]⟩)]
def cnext_con : Con := ⟨[.p .map 91, .r (.f .driver), .r (.f .order), .r (.f .visit), .r (.f .visit), .c .i], fun m d o ah v a => ⟨some (NextPre m o ah v a), [⟨none, [.c (.i (nextE m d o ah.leave ah.load v a))]⟩]⟩⟩
def cnext_cs : Cons := [(72, site_con), (73, time_con), (74, begin_con)]
def cnext_la : List (Nat × LA) := []
def cchecked_con : Con := ⟨[.p .map 91, .r (.f .driver), .c (.a (.f .order)), .c (.a (.f .stop)), .c (.a (.f .visit))], fun m d os ss l => ⟨some (CheckPre m d os ss), [⟨none, [.c (.i (checkedE m d os ss l))]⟩]⟩⟩
def cchecked_cs : Cons := [(75, cshaped_con), (61, find_con), (76, cnext_con), (72, site_con)]
def cchecked_la : List (Nat × LA) := [(6, ⟨[0, 2, 6, 11, 13, 30, 31], [.i 12, .i 32, .ci 11 0, .cb 11 1, .ci 11 2, .ci 11 3, .ci 11 4, .ci 11 5, .mp 13 .int]⟩)]
def rOne_con : Con := ⟨[.p .map 125, .r (.f .driver), .c (.a (.f .order)), .c (.a (.f .stop)), .c (.a (.f .visit))], fun m d os ss l => ⟨some (CheckPre m d os ss), [⟨none, [.c (.i (checkedE m d os ss l))]⟩]⟩⟩
def rOne_cs : Cons := [(67, rFind_con), (68, rWhere_con), (69, rSite_con), (70, rTime_con), (79, begin_con)]
def rOne_la : List (Nat × LA) := [(4, ⟨[0, 2, 3, 4, 6], [.i 11]⟩), (10, ⟨[0, 2, 3, 4, 6], [.i 12, .i 13, .i 14, .i 15]⟩)]
noncomputable def ccheck_con : Con := ⟨[.q .map 91, .c (.a (.f .driver)), .c (.a (.f .order)), .c (.a .route), .c (.a (.rows .visit))], fun m ds os p c => ⟨some (MapOkO m), [⟨none, [.r (SK.enc (.f .fault) (checkP m ds os p c))]⟩]⟩⟩
noncomputable def ccheck_cs : Cons := [(39, ctog_con), (40, cdriver_con), (55, cchecked_con)]
def ccheck_la : List (Nat × LA) := [(6, ⟨[0, 1, 2, 4, 10, 29, 30], [.i 31]⟩)]
noncomputable def rCcheck_con : Con := ⟨[.q .map 125, .c (.a (.f .driver)), .c (.a (.f .order)), .c (.a .route), .c (.a (.rows .visit))], fun m ds os p c => ⟨some (MapOkO m), [⟨none, [.r (SK.enc (.f .fault) (checkP m ds os p c))]⟩]⟩⟩
noncomputable def rCcheck_cs : Cons := [(44, rWell_con), (45, rCdriver_con), (57, rOne_con)]
def rCcheck_la : List (Nat × LA) := [(6, ⟨[0, 1, 2, 3, 4, 10], [.i 11]⟩)]
noncomputable def clists_con : Con := ⟨[.c (.a (.rows .visit)), .c (.a (.rows .visit))], fun a b => one [.c (.b (same a b))]⟩
noncomputable def clists_cs : Cons := [(38, sameV_con)]
def clists_la : List (Nat × LA) := [(4, ⟨[0, 1], [.i 5]⟩)]
def ccopied_con : Con := ⟨[.c (.a (.rows .visit))], fun c => ⟨some (CertFits c), [⟨none, [.c (.od (.rows .visit) 76 c)]⟩]⟩⟩
def ccopied_cs : Cons := []
def ccopied_la : List (Nat × LA) := [(3, ⟨[0], [.appd 3 (.rows .visit) 76, .i 4]⟩)]
end Go.Eng

/- The conditions of functions, as print.. of the engine told them. -/
set_option linter.unusedVariables false
namespace Go.Eng
open Go Go.Proofs
def cmake_vc : Prop :=
  (∀ (x : List Driver), LenOk x.length → ∀ (x_2 : List Order), LenOk x_2.length → ∀ (x_4 : List Route), (LenOk x_4.length ∧ ∀ (r : Route), List.Mem r x_4 → LenOk r.stops.length) → (∀ (x : MapD), none = some x → MapOk x) → (∀ (x : MapD), none
  = some x → MapOk x) ∧ ((!wellP none x x_2 x_4) = true → ((0 : Int) = (cfauR (makeP none x x_2 x_4)).spot ∧ (1 : Int) = (cfauR (makeP none x x_2 x_4)).why) ∧ certR (makeP none x x_2 x_4) = nilOf (List Visit)) ∧ ((!wellP none x x_2 x_4) =
  false → ∃ (inv : List (List Visit) → Int → Prop), ∃ (μ : List (List Visit) → Int → Nat), ((((↑x_4.length : Int) = (↑x_4.length : Int) ∧ (0 : Int) = (0 : Int)) ∧ ((0 : Int) = (0 : Int) ∧ (0 : Int) = (0 : Int)) ∧ x_4 = x_4 ∧ nilOf (List
  Visit) = nilOf (List Visit) ∧ x_2 = x_2 ∧ x = x) ∧ inv [] (0 : Int)) ∧ ∀ (x_8 : List (List Visit)) (x_9 : Int), inv x_8 x_9 → (decide (x_9 < (↑x_4.length : Int)) = true → ((0 : Int) ≤ x_9 ∧ x_9 < (↑x_4.length : Int)) ∧ x_9.toNat <
  x_4.length ∧ ((!(findD (x_4.getD x_9.toNat (Route.mk (0 : Int) (0 : Int) [])).driver x).isSome) = true → (x_9 = (cfauR (makeP none x x_2 x_4)).spot ∧ (8 : Int) = (cfauR (makeP none x x_2 x_4)).why) ∧ certR (makeP none x x_2 x_4) = nilOf
  (List Visit)) ∧ ((!(findD (x_4.getD x_9.toNat (Route.mk (0 : Int) (0 : Int) [])).driver x).isSome) = false → Bad (nat_lit 4) Oper (Oper.mk (some (nat_lit 48)) (Op.call (Call.mk (Callee.value (Operand.func (nat_lit 54))) (Array.mk
  [Operand.tmp (nat_lit 43), Operand.tmp (nat_lit 44), Operand.tmp (nat_lit 45), Operand.tmp (nat_lit 47)]) (Array.mk [nat_lit 22, nat_lit 33, nat_lit 37, nat_lit 38]))) (nat_lit 87) "cert.go:47" (Array.mk [Edge.mk (nat_lit 0) Ground.data,
  Edge.mk (nat_lit 1) Ground.data, Edge.mk (nat_lit 2) Ground.data, Edge.mk (nat_lit 4) Ground.data]) none))) ∧ (decide (x_9 < (↑x_4.length : Int)) = false → ((0 : Int) = (cfauR (makeP none x x_2 x_4)).spot ∧ (0 : Int) = (cfauR (makeP none x
  x_2 x_4)).why) ∧ x_8 = certR (makeP none x x_2 x_4)))) ∧ ∀ (x : MapD), LenOk x.l.length → ∀ (x_2 : List Driver), LenOk x_2.length → ∀ (x_4 : List Order), LenOk x_4.length → ∀ (x_6 : List Route), (LenOk x_6.length ∧ ∀ (r : Route), List.Mem r
  x_6 → LenOk r.stops.length) → (∀ (x_8 : MapD), some x = some x_8 → MapOk x_8) → (∀ (x_9 : MapD), some x = some x_9 → MapOk x_9) ∧ ((!wellP (some x) x_2 x_4 x_6) = true → ((0 : Int) = (cfauR (makeP (some x) x_2 x_4 x_6)).spot ∧ (1 : Int) =
  (cfauR (makeP (some x) x_2 x_4 x_6)).why) ∧ certR (makeP (some x) x_2 x_4 x_6) = nilOf (List Visit)) ∧ ((!wellP (some x) x_2 x_4 x_6) = false → ∃ (inv : List (List Visit) → Int → Prop), ∃ (μ : List (List Visit) → Int → Nat), ((((↑x_6.length
  : Int) = (↑x_6.length : Int) ∧ (0 : Int) = (0 : Int)) ∧ (x.n = x.n ∧ (0 : Int) = (0 : Int) ∧ (0 : Int) = (0 : Int)) ∧ x.l = x.l ∧ x_6 = x_6 ∧ nilOf (List Visit) = nilOf (List Visit) ∧ x_4 = x_4 ∧ x_2 = x_2) ∧ inv [] (0 : Int)) ∧ ∀ (x_10 :
  List (List Visit)) (x_11 : Int), inv x_10 x_11 → (decide (x_11 < (↑x_6.length : Int)) = true → ((0 : Int) ≤ x_11 ∧ x_11 < (↑x_6.length : Int)) ∧ x_11.toNat < x_6.length ∧ ((!(findD (x_6.getD x_11.toNat (Route.mk (0 : Int) (0 : Int)
  [])).driver x_2).isSome) = true → (x_11 = (cfauR (makeP (some x) x_2 x_4 x_6)).spot ∧ (8 : Int) = (cfauR (makeP (some x) x_2 x_4 x_6)).why) ∧ certR (makeP (some x) x_2 x_4 x_6) = nilOf (List Visit)) ∧ ((!(findD (x_6.getD x_11.toNat
  (Route.mk (0 : Int) (0 : Int) [])).driver x_2).isSome) = false → TimedPre x ((findD (x_6.getD x_11.toNat (Route.mk (0 : Int) (0 : Int) [])).driver x_2).getD FK.driver.zero) x_4 (x_6.getD x_11.toNat (Route.mk (0 : Int) (0 : Int) [])).stops ∧
  ((!good (fauR (driveT x ((findD (x_6.getD x_11.toNat (Route.mk (0 : Int) (0 : Int) [])).driver x_2).getD FK.driver.zero) x_4 (x_6.getD x_11.toNat (Route.mk (0 : Int) (0 : Int) [])).stops))) = true → (x_11 = (cfauR (makeP (some x) x_2 x_4
  x_6)).spot ∧ (fauR (driveT x ((findD (x_6.getD x_11.toNat (Route.mk (0 : Int) (0 : Int) [])).driver x_2).getD FK.driver.zero) x_4 (x_6.getD x_11.toNat (Route.mk (0 : Int) (0 : Int) [])).stops)).why = (cfauR (makeP (some x) x_2 x_4
  x_6)).why) ∧ certR (makeP (some x) x_2 x_4 x_6) = nilOf (List Visit)) ∧ ((!good (fauR (driveT x ((findD (x_6.getD x_11.toNat (Route.mk (0 : Int) (0 : Int) [])).driver x_2).getD FK.driver.zero) x_4 (x_6.getD x_11.toNat (Route.mk (0 : Int) (0
  : Int) [])).stops))) = false → (x_10.length + [visR (driveT x ((findD (x_6.getD x_11.toNat (Route.mk (0 : Int) (0 : Int) [])).driver x_2).getD FK.driver.zero) x_4 (x_6.getD x_11.toNat (Route.mk (0 : Int) (0 : Int) [])).stops)].length) *
  (K.rows FK.visit).byt ≤ (140737488355328 : Nat) ∧ (((↑x_6.length : Int) = (↑x_6.length : Int) ∧ wrap (x_11 + (1 : Int)) = wrap (x_11 + (1 : Int))) ∧ (x.n = x.n ∧ (0 : Int) = (0 : Int) ∧ (0 : Int) = (0 : Int)) ∧ x.l = x.l ∧ x_6 = x_6 ∧ x_10
  ++ [visR (driveT x ((findD (x_6.getD x_11.toNat (Route.mk (0 : Int) (0 : Int) [])).driver x_2).getD FK.driver.zero) x_4 (x_6.getD x_11.toNat (Route.mk (0 : Int) (0 : Int) [])).stops)] = x_10 ++ [visR (driveT x ((findD (x_6.getD x_11.toNat
  (Route.mk (0 : Int) (0 : Int) [])).driver x_2).getD FK.driver.zero) x_4 (x_6.getD x_11.toNat (Route.mk (0 : Int) (0 : Int) [])).stops)] ∧ x_4 = x_4 ∧ x_2 = x_2) ∧ inv (x_10 ++ [visR (driveT x ((findD (x_6.getD x_11.toNat (Route.mk (0 : Int)
  (0 : Int) [])).driver x_2).getD FK.driver.zero) x_4 (x_6.getD x_11.toNat (Route.mk (0 : Int) (0 : Int) [])).stops)]) (wrap (x_11 + (1 : Int))) ∧ μ (x_10 ++ [visR (driveT x ((findD (x_6.getD x_11.toNat (Route.mk (0 : Int) (0 : Int)
  [])).driver x_2).getD FK.driver.zero) x_4 (x_6.getD x_11.toNat (Route.mk (0 : Int) (0 : Int) [])).stops)]) (wrap (x_11 + (1 : Int))) < μ x_10 x_11))) ∧ (decide (x_11 < (↑x_6.length : Int)) = false → ((0 : Int) = (cfauR (makeP (some x) x_2
  x_4 x_6)).spot ∧ (0 : Int) = (cfauR (makeP (some x) x_2 x_4 x_6)).why) ∧ x_10 = certR (makeP (some x) x_2 x_4 x_6)))
theorem cmake_told (hc : CsOk Try.prog cmake_cs) (h : cmake_vc) : Told Try.prog 29 cmake_con := told (A := cmake_la) tabOk mixed hc Try.func29 (by kernel_rfl) (by kernel_rfl) h
def rCmake_vc : Prop :=
  (∀ (x : List Driver), LenOk x.length → ∀ (x_2 : List Order), LenOk x_2.length → ∀ (x_4 : List Route), (LenOk x_4.length ∧ ∀ (r : Route), List.Mem r x_4 → LenOk r.stops.length) → (∀ (x : MapD), none = some x → MapOk x) → (∀ (x : MapD), none
  = some x → MapOk x) ∧ ((!wellP none x x_2 x_4) = true → ((0 : Int) = (cfauR (makeP none x x_2 x_4)).spot ∧ (1 : Int) = (cfauR (makeP none x x_2 x_4)).why) ∧ certR (makeP none x x_2 x_4) = nilOf (List Visit)) ∧ ((!wellP none x x_2 x_4) =
  false → ∃ (inv : List (List Visit) → Int → Prop), ∃ (μ : List (List Visit) → Int → Nat), (((0 : Int) = (0 : Int) ∧ ((0 : Int) = (0 : Int) ∧ (0 : Int) = (0 : Int)) ∧ nilOf (List Visit) = nilOf (List Visit) ∧ x_4 = x_4 ∧ x_2 = x_2 ∧ x = x) ∧
  inv [] (0 : Int)) ∧ ∀ (x_8 : List (List Visit)) (x_9 : Int), inv x_8 x_9 → (decide (x_9 < (↑x_4.length : Int)) = true → ((0 : Int) ≤ x_9 ∧ x_9 < (↑x_4.length : Int)) ∧ x_9.toNat < x_4.length ∧ ((!(findD (x_4.getD x_9.toNat (Route.mk (0 :
  Int) (0 : Int) [])).driver x).isSome) = true → (x_9 = (cfauR (makeP none x x_2 x_4)).spot ∧ (8 : Int) = (cfauR (makeP none x x_2 x_4)).why) ∧ certR (makeP none x x_2 x_4) = nilOf (List Visit)) ∧ ((!(findD (x_4.getD x_9.toNat (Route.mk (0 :
  Int) (0 : Int) [])).driver x).isSome) = false → ((0 : Int) ≤ x_9 ∧ x_9 < (↑x_4.length : Int)) ∧ x_9.toNat < x_4.length ∧ (∀ (x : MapD), none = some x → MapOk x) ∧ ((!decide ((fauR (drive none ((findD (x_4.getD x_9.toNat (Route.mk (0 : Int)
  (0 : Int) [])).driver x).getD FK.driver.zero) x_2 (x_4.getD x_9.toNat (Route.mk (0 : Int) (0 : Int) [])).stops)).why = (0 : Int))) = true → (x_9 = (cfauR (makeP none x x_2 x_4)).spot ∧ (fauR (drive none ((findD (x_4.getD x_9.toNat (Route.mk
  (0 : Int) (0 : Int) [])).driver x).getD FK.driver.zero) x_2 (x_4.getD x_9.toNat (Route.mk (0 : Int) (0 : Int) [])).stops)).why = (cfauR (makeP none x x_2 x_4)).why) ∧ certR (makeP none x x_2 x_4) = nilOf (List Visit)) ∧ ((!decide ((fauR
  (drive none ((findD (x_4.getD x_9.toNat (Route.mk (0 : Int) (0 : Int) [])).driver x).getD FK.driver.zero) x_2 (x_4.getD x_9.toNat (Route.mk (0 : Int) (0 : Int) [])).stops)).why = (0 : Int))) = false → (x_8.length + [visR (drive none ((findD
  (x_4.getD x_9.toNat (Route.mk (0 : Int) (0 : Int) [])).driver x).getD FK.driver.zero) x_2 (x_4.getD x_9.toNat (Route.mk (0 : Int) (0 : Int) [])).stops)].length) * (K.rows FK.visit).byt ≤ (140737488355328 : Nat) ∧ (wrap (x_9 + (1 : Int)) =
  wrap (x_9 + (1 : Int)) ∧ ((0 : Int) = (0 : Int) ∧ (0 : Int) = (0 : Int)) ∧ x_8 ++ [visR (drive none ((findD (x_4.getD x_9.toNat (Route.mk (0 : Int) (0 : Int) [])).driver x).getD FK.driver.zero) x_2 (x_4.getD x_9.toNat (Route.mk (0 : Int) (0
  : Int) [])).stops)] = x_8 ++ [visR (drive none ((findD (x_4.getD x_9.toNat (Route.mk (0 : Int) (0 : Int) [])).driver x).getD FK.driver.zero) x_2 (x_4.getD x_9.toNat (Route.mk (0 : Int) (0 : Int) [])).stops)] ∧ x_4 = x_4 ∧ x_2 = x_2 ∧ x = x)
  ∧ inv (x_8 ++ [visR (drive none ((findD (x_4.getD x_9.toNat (Route.mk (0 : Int) (0 : Int) [])).driver x).getD FK.driver.zero) x_2 (x_4.getD x_9.toNat (Route.mk (0 : Int) (0 : Int) [])).stops)]) (wrap (x_9 + (1 : Int))) ∧ μ (x_8 ++ [visR
  (drive none ((findD (x_4.getD x_9.toNat (Route.mk (0 : Int) (0 : Int) [])).driver x).getD FK.driver.zero) x_2 (x_4.getD x_9.toNat (Route.mk (0 : Int) (0 : Int) [])).stops)]) (wrap (x_9 + (1 : Int))) < μ x_8 x_9))) ∧ (decide (x_9 <
  (↑x_4.length : Int)) = false → ((0 : Int) = (cfauR (makeP none x x_2 x_4)).spot ∧ (0 : Int) = (cfauR (makeP none x x_2 x_4)).why) ∧ x_8 = certR (makeP none x x_2 x_4)))) ∧ ∀ (x : MapD), LenOk x.l.length → ∀ (x_2 : List Driver), LenOk
  x_2.length → ∀ (x_4 : List Order), LenOk x_4.length → ∀ (x_6 : List Route), (LenOk x_6.length ∧ ∀ (r : Route), List.Mem r x_6 → LenOk r.stops.length) → (∀ (x_8 : MapD), some x = some x_8 → MapOk x_8) → (∀ (x_9 : MapD), some x = some x_9 →
  MapOk x_9) ∧ ((!wellP (some x) x_2 x_4 x_6) = true → ((0 : Int) = (cfauR (makeP (some x) x_2 x_4 x_6)).spot ∧ (1 : Int) = (cfauR (makeP (some x) x_2 x_4 x_6)).why) ∧ certR (makeP (some x) x_2 x_4 x_6) = nilOf (List Visit)) ∧ ((!wellP (some
  x) x_2 x_4 x_6) = false → ∃ (inv : List (List Visit) → Int → Prop), ∃ (μ : List (List Visit) → Int → Nat), (((0 : Int) = (0 : Int) ∧ (x.n = x.n ∧ (0 : Int) = (0 : Int) ∧ (0 : Int) = (0 : Int)) ∧ x.l = x.l ∧ nilOf (List Visit) = nilOf (List
  Visit) ∧ x_6 = x_6 ∧ x_4 = x_4 ∧ x_2 = x_2) ∧ inv [] (0 : Int)) ∧ ∀ (x_10 : List (List Visit)) (x_11 : Int), inv x_10 x_11 → (decide (x_11 < (↑x_6.length : Int)) = true → ((0 : Int) ≤ x_11 ∧ x_11 < (↑x_6.length : Int)) ∧ x_11.toNat <
  x_6.length ∧ ((!(findD (x_6.getD x_11.toNat (Route.mk (0 : Int) (0 : Int) [])).driver x_2).isSome) = true → (x_11 = (cfauR (makeP (some x) x_2 x_4 x_6)).spot ∧ (8 : Int) = (cfauR (makeP (some x) x_2 x_4 x_6)).why) ∧ certR (makeP (some x)
  x_2 x_4 x_6) = nilOf (List Visit)) ∧ ((!(findD (x_6.getD x_11.toNat (Route.mk (0 : Int) (0 : Int) [])).driver x_2).isSome) = false → ((0 : Int) ≤ x_11 ∧ x_11 < (↑x_6.length : Int)) ∧ x_11.toNat < x_6.length ∧ (∀ (x_15 : MapD), some x = some
  x_15 → MapOk x_15) ∧ ((!decide ((fauR (drive (some x) ((findD (x_6.getD x_11.toNat (Route.mk (0 : Int) (0 : Int) [])).driver x_2).getD FK.driver.zero) x_4 (x_6.getD x_11.toNat (Route.mk (0 : Int) (0 : Int) [])).stops)).why = (0 : Int))) =
  true → (x_11 = (cfauR (makeP (some x) x_2 x_4 x_6)).spot ∧ (fauR (drive (some x) ((findD (x_6.getD x_11.toNat (Route.mk (0 : Int) (0 : Int) [])).driver x_2).getD FK.driver.zero) x_4 (x_6.getD x_11.toNat (Route.mk (0 : Int) (0 : Int)
  [])).stops)).why = (cfauR (makeP (some x) x_2 x_4 x_6)).why) ∧ certR (makeP (some x) x_2 x_4 x_6) = nilOf (List Visit)) ∧ ((!decide ((fauR (drive (some x) ((findD (x_6.getD x_11.toNat (Route.mk (0 : Int) (0 : Int) [])).driver x_2).getD
  FK.driver.zero) x_4 (x_6.getD x_11.toNat (Route.mk (0 : Int) (0 : Int) [])).stops)).why = (0 : Int))) = false → (x_10.length + [visR (drive (some x) ((findD (x_6.getD x_11.toNat (Route.mk (0 : Int) (0 : Int) [])).driver x_2).getD
  FK.driver.zero) x_4 (x_6.getD x_11.toNat (Route.mk (0 : Int) (0 : Int) [])).stops)].length) * (K.rows FK.visit).byt ≤ (140737488355328 : Nat) ∧ (wrap (x_11 + (1 : Int)) = wrap (x_11 + (1 : Int)) ∧ (x.n = x.n ∧ (0 : Int) = (0 : Int) ∧ (0 :
  Int) = (0 : Int)) ∧ x.l = x.l ∧ x_10 ++ [visR (drive (some x) ((findD (x_6.getD x_11.toNat (Route.mk (0 : Int) (0 : Int) [])).driver x_2).getD FK.driver.zero) x_4 (x_6.getD x_11.toNat (Route.mk (0 : Int) (0 : Int) [])).stops)] = x_10 ++
  [visR (drive (some x) ((findD (x_6.getD x_11.toNat (Route.mk (0 : Int) (0 : Int) [])).driver x_2).getD FK.driver.zero) x_4 (x_6.getD x_11.toNat (Route.mk (0 : Int) (0 : Int) [])).stops)] ∧ x_6 = x_6 ∧ x_4 = x_4 ∧ x_2 = x_2) ∧ inv (x_10 ++
  [visR (drive (some x) ((findD (x_6.getD x_11.toNat (Route.mk (0 : Int) (0 : Int) [])).driver x_2).getD FK.driver.zero) x_4 (x_6.getD x_11.toNat (Route.mk (0 : Int) (0 : Int) [])).stops)]) (wrap (x_11 + (1 : Int))) ∧ μ (x_10 ++ [visR (drive
  (some x) ((findD (x_6.getD x_11.toNat (Route.mk (0 : Int) (0 : Int) [])).driver x_2).getD FK.driver.zero) x_4 (x_6.getD x_11.toNat (Route.mk (0 : Int) (0 : Int) [])).stops)]) (wrap (x_11 + (1 : Int))) < μ x_10 x_11))) ∧ (decide (x_11 <
  (↑x_6.length : Int)) = false → ((0 : Int) = (cfauR (makeP (some x) x_2 x_4 x_6)).spot ∧ (0 : Int) = (cfauR (makeP (some x) x_2 x_4 x_6)).why) ∧ x_10 = certR (makeP (some x) x_2 x_4 x_6)))
theorem rCmake_told (hc : CsOk Try.prog rCmake_cs) (h : rCmake_vc) : Told Try.prog 34 rCmake_con := told (A := rCmake_la) tabOk mixed hc Try.func34 (by kernel_rfl) (by kernel_rfl) h
def cshaped_vc : Prop :=
  ∀ (x : List Stop), LenOk x.length → ∀ (x_2 : List Visit), LenOk x_2.length → ((!decide ((↑x_2.length : Int) = (↑x.length : Int))) = true → false = decide (List.map Visit.stop x_2 = x)) ∧ ((!decide ((↑x_2.length : Int) = (↑x.length : Int)))
  = false → ∃ (inv : Int → Prop), ∃ (μ : Int → Nat), ((((↑x_2.length : Int) = (↑x_2.length : Int) ∧ (0 : Int) = (0 : Int)) ∧ x_2 = x_2 ∧ x = x) ∧ inv (0 : Int)) ∧ ∀ (x_5 : Int), inv x_5 → (decide (x_5 < (↑x_2.length : Int)) = true → ((0 :
  Int) ≤ x_5 ∧ x_5 < (↑x_2.length : Int)) ∧ x_5.toNat < x_2.length ∧ ((0 : Int) ≤ x_5 ∧ x_5 < (↑x.length : Int)) ∧ x_5.toNat < x.length ∧ ((!(decide ((x_2.getD x_5.toNat FK.visit.zero).order = (x.getD x_5.toNat FK.stop.zero).order) &&
  ((x_2.getD x_5.toNat FK.visit.zero).drop == (x.getD x_5.toNat FK.stop.zero).drop && true))) = true → false = decide (List.map Visit.stop x_2 = x)) ∧ ((!(decide ((x_2.getD x_5.toNat FK.visit.zero).order = (x.getD x_5.toNat
  FK.stop.zero).order) && ((x_2.getD x_5.toNat FK.visit.zero).drop == (x.getD x_5.toNat FK.stop.zero).drop && true))) = false → (((↑x_2.length : Int) = (↑x_2.length : Int) ∧ wrap (x_5 + (1 : Int)) = wrap (x_5 + (1 : Int))) ∧ x_2 = x_2 ∧ x =
  x) ∧ inv (wrap (x_5 + (1 : Int))) ∧ μ (wrap (x_5 + (1 : Int))) < μ x_5)) ∧ (decide (x_5 < (↑x_2.length : Int)) = false → true = decide (List.map Visit.stop x_2 = x)))
theorem cshaped_told (hc : CsOk Try.prog cshaped_cs) (h : cshaped_vc) : Told Try.prog 75 cshaped_con := told (A := cshaped_la) tabOk mixed hc Try.func75 (by kernel_rfl) (by kernel_rfl) h
def cnext_vc : Prop :=
  ∀ (x : MapD), LenOk x.l.length → ∀ (x_2 : Driver) (x_3 : Order) (x_4 x_5 : Visit) (x_6 : Int), NextPre x x_3 x_4 x_5 x_6 → (x_5.drop = true → ((!decide (x_5.load = wrap (x_4.load - x_3.size))) = false → (decide (wrap (x_4.load - x_3.size) >
  x_2.room) = true → (14 : Int) = nextE x x_2 x_3 x_4.leave x_4.load x_5 x_6) ∧ (decide (wrap (x_4.load - x_3.size) > x_2.room) = false → (∀ (x_11 : MapD), some x = some x_11 → MapOk x_11) ∧ ((!decide (x_5.arrive = wrap (x_4.leave + (mtime
  (some x) x_6 (siteOf x_3 x_5.drop).pl).fst))) = false → ((!(begin_ (Win.mk (siteOf x_3 x_5.drop).lo (siteOf x_3 x_5.drop).hi) x_5.arrive).snd) = false → ((!decide (x_5.start = (begin_ (Win.mk (siteOf x_3 x_5.drop).lo (siteOf x_3
  x_5.drop).hi) x_5.arrive).fst)) = false → ((!decide (x_5.leave = wrap ((begin_ (Win.mk (siteOf x_3 x_5.drop).lo (siteOf x_3 x_5.drop).hi) x_5.arrive).fst + (siteOf x_3 x_5.drop).sv))) = false → (decide (x_5.leave > x_2.hi) = true → (15 :
  Int) = nextE x x_2 x_3 x_4.leave x_4.load x_5 x_6) ∧ (decide (x_5.leave > x_2.hi) = false → (0 : Int) = nextE x x_2 x_3 x_4.leave x_4.load x_5 x_6)) ∧ ((!decide (x_5.leave = wrap ((begin_ (Win.mk (siteOf x_3 x_5.drop).lo (siteOf x_3
  x_5.drop).hi) x_5.arrive).fst + (siteOf x_3 x_5.drop).sv))) = !false → (15 : Int) = nextE x x_2 x_3 x_4.leave x_4.load x_5 x_6)) ∧ ((!decide (x_5.start = (begin_ (Win.mk (siteOf x_3 x_5.drop).lo (siteOf x_3 x_5.drop).hi) x_5.arrive).fst)) =
  !false → (15 : Int) = nextE x x_2 x_3 x_4.leave x_4.load x_5 x_6)) ∧ ((!(begin_ (Win.mk (siteOf x_3 x_5.drop).lo (siteOf x_3 x_5.drop).hi) x_5.arrive).snd) = !false → (15 : Int) = nextE x x_2 x_3 x_4.leave x_4.load x_5 x_6)) ∧ ((!decide
  (x_5.arrive = wrap (x_4.leave + (mtime (some x) x_6 (siteOf x_3 x_5.drop).pl).fst))) = !false → (15 : Int) = nextE x x_2 x_3 x_4.leave x_4.load x_5 x_6))) ∧ ((!decide (x_5.load = wrap (x_4.load - x_3.size))) = !false → (14 : Int) = nextE x
  x_2 x_3 x_4.leave x_4.load x_5 x_6)) ∧ (x_5.drop = false → ((!decide (x_5.load = wrap (x_4.load + x_3.size))) = false → (decide (wrap (x_4.load + x_3.size) > x_2.room) = true → (14 : Int) = nextE x x_2 x_3 x_4.leave x_4.load x_5 x_6) ∧
  (decide (wrap (x_4.load + x_3.size) > x_2.room) = false → (∀ (x_11 : MapD), some x = some x_11 → MapOk x_11) ∧ ((!decide (x_5.arrive = wrap (x_4.leave + (mtime (some x) x_6 (siteOf x_3 x_5.drop).pl).fst))) = false → ((!(begin_ (Win.mk
  (siteOf x_3 x_5.drop).lo (siteOf x_3 x_5.drop).hi) x_5.arrive).snd) = false → ((!decide (x_5.start = (begin_ (Win.mk (siteOf x_3 x_5.drop).lo (siteOf x_3 x_5.drop).hi) x_5.arrive).fst)) = false → ((!decide (x_5.leave = wrap ((begin_ (Win.mk
  (siteOf x_3 x_5.drop).lo (siteOf x_3 x_5.drop).hi) x_5.arrive).fst + (siteOf x_3 x_5.drop).sv))) = false → (decide (x_5.leave > x_2.hi) = true → (15 : Int) = nextE x x_2 x_3 x_4.leave x_4.load x_5 x_6) ∧ (decide (x_5.leave > x_2.hi) = false
  → (0 : Int) = nextE x x_2 x_3 x_4.leave x_4.load x_5 x_6)) ∧ ((!decide (x_5.leave = wrap ((begin_ (Win.mk (siteOf x_3 x_5.drop).lo (siteOf x_3 x_5.drop).hi) x_5.arrive).fst + (siteOf x_3 x_5.drop).sv))) = !false → (15 : Int) = nextE x x_2
  x_3 x_4.leave x_4.load x_5 x_6)) ∧ ((!decide (x_5.start = (begin_ (Win.mk (siteOf x_3 x_5.drop).lo (siteOf x_3 x_5.drop).hi) x_5.arrive).fst)) = !false → (15 : Int) = nextE x x_2 x_3 x_4.leave x_4.load x_5 x_6)) ∧ ((!(begin_ (Win.mk (siteOf
  x_3 x_5.drop).lo (siteOf x_3 x_5.drop).hi) x_5.arrive).snd) = !false → (15 : Int) = nextE x x_2 x_3 x_4.leave x_4.load x_5 x_6)) ∧ ((!decide (x_5.arrive = wrap (x_4.leave + (mtime (some x) x_6 (siteOf x_3 x_5.drop).pl).fst))) = !false → (15
  : Int) = nextE x x_2 x_3 x_4.leave x_4.load x_5 x_6))) ∧ ((!decide (x_5.load = wrap (x_4.load + x_3.size))) = !false → (14 : Int) = nextE x x_2 x_3 x_4.leave x_4.load x_5 x_6))
theorem cnext_told (hc : CsOk Try.prog cnext_cs) (h : cnext_vc) : Told Try.prog 76 cnext_con := told (A := cnext_la) tabOk mixed hc Try.func76 (by kernel_rfl) (by kernel_rfl) h
def cchecked_vc : Prop :=
  ∀ (x : MapD), LenOk x.l.length → ∀ (x_2 : Driver) (x_3 : List Order), LenOk x_3.length → ∀ (x_5 : List Stop), LenOk x_5.length → ∀ (x_7 : List Visit), LenOk x_7.length → CheckPre x x_2 x_3 x_5 → ((!decide (List.map Visit.stop x_7 = x_5)) =
  true → (4 : Int) = checkedE x x_2 x_3 x_5 x_7) ∧ ((!decide (List.map Visit.stop x_7 = x_5)) = false → ∃ (inv : Int → Int → Int → Bool → Int → Int → Int → Int → (MK.int.T → Int) → Prop), ∃ (μ : Int → Int → Int → Bool → Int → Int → Int → Int
  → (MK.int.T → Int) → Nat), (((x_2.home = x_2.home ∧ (↑x_7.length : Int) = (↑x_7.length : Int) ∧ (0 : Int) = (0 : Int)) ∧ (x.n = x.n ∧ (x_2.id = x_2.id ∧ x_2.room = x_2.room ∧ x_2.home = x_2.home ∧ x_2.lo = x_2.lo ∧ x_2.hi = x_2.hi ∧
  x_2.retired = x_2.retired) ∧ (0 : Int) = (0 : Int) ∧ false = false ∧ (0 : Int) = (0 : Int) ∧ (0 : Int) = (0 : Int) ∧ x_2.lo = x_2.lo ∧ (0 : Int) = (0 : Int)) ∧ x.l = x.l ∧ x_7 = x_7 ∧ noF MK.int.T = noF MK.int.T ∧ x_3 = x_3) ∧ inv x_2.home
  (0 : Int) (0 : Int) false (0 : Int) (0 : Int) x_2.lo (0 : Int) (noF MK.int.T)) ∧ ∀ (x_11 x_12 x_13 : Int) (x_14 : Bool) (x_15 x_16 x_17 x_18 : Int) (x_19 : MK.int.T → Int), inv x_11 x_12 x_13 x_14 x_15 x_16 x_17 x_18 x_19 → (decide (x_12 <
  (↑x_7.length : Int)) = true → ((0 : Int) ≤ x_12 ∧ x_12 < (↑x_7.length : Int)) ∧ x_12.toNat < x_7.length ∧ ((!(findO x_3 (x_7.getD x_12.toNat FK.visit.zero).order).isSome) = true → (8 : Int) = checkedE x x_2 x_3 x_5 x_7) ∧ ((!(findO x_3
  (x_7.getD x_12.toNat FK.visit.zero).order).isSome) = false → ((x_7.getD x_12.toNat FK.visit.zero).drop = true → (decide (x_19 (x_7.getD x_12.toNat FK.visit.zero).order = (0 : Int)) = true → (17 : Int) = checkedE x x_2 x_3 x_5 x_7) ∧ (decide
  (x_19 (x_7.getD x_12.toNat FK.visit.zero).order = (0 : Int)) = false → NextPre x (fo x_3 (x_7.getD x_12.toNat FK.visit.zero).order) (Visit.mk x_13 x_14 x_15 x_16 x_17 x_18) (x_7.getD x_12.toNat FK.visit.zero) x_11 ∧ ((!decide (nextE x x_2
  (fo x_3 (x_7.getD x_12.toNat FK.visit.zero).order) x_17 x_18 (x_7.getD x_12.toNat FK.visit.zero) x_11 = (0 : Int))) = true → nextE x x_2 (fo x_3 (x_7.getD x_12.toNat FK.visit.zero).order) x_17 x_18 (x_7.getD x_12.toNat FK.visit.zero) x_11 =
  checkedE x x_2 x_3 x_5 x_7) ∧ ((!decide (nextE x x_2 (fo x_3 (x_7.getD x_12.toNat FK.visit.zero).order) x_17 x_18 (x_7.getD x_12.toNat FK.visit.zero) x_11 = (0 : Int))) = false → (((siteOf (fo x_3 (x_7.getD x_12.toNat FK.visit.zero).order)
  (x_7.getD x_12.toNat FK.visit.zero).drop).pl = (siteOf (fo x_3 (x_7.getD x_12.toNat FK.visit.zero).order) (x_7.getD x_12.toNat FK.visit.zero).drop).pl ∧ (↑x_7.length : Int) = (↑x_7.length : Int) ∧ wrap (x_12 + (1 : Int)) = wrap (x_12 + (1 :
  Int))) ∧ (x.n = x.n ∧ (x_2.id = x_2.id ∧ x_2.room = x_2.room ∧ x_2.home = x_2.home ∧ x_2.lo = x_2.lo ∧ x_2.hi = x_2.hi ∧ x_2.retired = x_2.retired) ∧ (x_7.getD x_12.toNat FK.visit.zero).order = (x_7.getD x_12.toNat FK.visit.zero).order ∧
  (x_7.getD x_12.toNat FK.visit.zero).drop = (x_7.getD x_12.toNat FK.visit.zero).drop ∧ (x_7.getD x_12.toNat FK.visit.zero).arrive = (x_7.getD x_12.toNat FK.visit.zero).arrive ∧ (x_7.getD x_12.toNat FK.visit.zero).start = (x_7.getD x_12.toNat
  FK.visit.zero).start ∧ (x_7.getD x_12.toNat FK.visit.zero).leave = (x_7.getD x_12.toNat FK.visit.zero).leave ∧ (x_7.getD x_12.toNat FK.visit.zero).load = (x_7.getD x_12.toNat FK.visit.zero).load) ∧ x.l = x.l ∧ x_7 = x_7 ∧ upF x_19 (x_7.getD
  x_12.toNat FK.visit.zero).order (wrap (x_19 (x_7.getD x_12.toNat FK.visit.zero).order + (1 : Int))) = upF x_19 (x_7.getD x_12.toNat FK.visit.zero).order (wrap (x_19 (x_7.getD x_12.toNat FK.visit.zero).order + (1 : Int))) ∧ x_3 = x_3) ∧ inv
  (siteOf (fo x_3 (x_7.getD x_12.toNat FK.visit.zero).order) (x_7.getD x_12.toNat FK.visit.zero).drop).pl (wrap (x_12 + (1 : Int))) (x_7.getD x_12.toNat FK.visit.zero).order (x_7.getD x_12.toNat FK.visit.zero).drop (x_7.getD x_12.toNat
  FK.visit.zero).arrive (x_7.getD x_12.toNat FK.visit.zero).start (x_7.getD x_12.toNat FK.visit.zero).leave (x_7.getD x_12.toNat FK.visit.zero).load (upF x_19 (x_7.getD x_12.toNat FK.visit.zero).order (wrap (x_19 (x_7.getD x_12.toNat
  FK.visit.zero).order + (1 : Int)))) ∧ μ (siteOf (fo x_3 (x_7.getD x_12.toNat FK.visit.zero).order) (x_7.getD x_12.toNat FK.visit.zero).drop).pl (wrap (x_12 + (1 : Int))) (x_7.getD x_12.toNat FK.visit.zero).order (x_7.getD x_12.toNat
  FK.visit.zero).drop (x_7.getD x_12.toNat FK.visit.zero).arrive (x_7.getD x_12.toNat FK.visit.zero).start (x_7.getD x_12.toNat FK.visit.zero).leave (x_7.getD x_12.toNat FK.visit.zero).load (upF x_19 (x_7.getD x_12.toNat FK.visit.zero).order
  (wrap (x_19 (x_7.getD x_12.toNat FK.visit.zero).order + (1 : Int)))) < μ x_11 x_12 x_13 x_14 x_15 x_16 x_17 x_18 x_19))) ∧ ((x_7.getD x_12.toNat FK.visit.zero).drop = !true → NextPre x (fo x_3 (x_7.getD x_12.toNat FK.visit.zero).order)
  (Visit.mk x_13 x_14 x_15 x_16 x_17 x_18) (x_7.getD x_12.toNat FK.visit.zero) x_11 ∧ ((!decide (nextE x x_2 (fo x_3 (x_7.getD x_12.toNat FK.visit.zero).order) x_17 x_18 (x_7.getD x_12.toNat FK.visit.zero) x_11 = (0 : Int))) = true → nextE x
  x_2 (fo x_3 (x_7.getD x_12.toNat FK.visit.zero).order) x_17 x_18 (x_7.getD x_12.toNat FK.visit.zero) x_11 = checkedE x x_2 x_3 x_5 x_7) ∧ ((!decide (nextE x x_2 (fo x_3 (x_7.getD x_12.toNat FK.visit.zero).order) x_17 x_18 (x_7.getD
  x_12.toNat FK.visit.zero) x_11 = (0 : Int))) = false → (((siteOf (fo x_3 (x_7.getD x_12.toNat FK.visit.zero).order) (x_7.getD x_12.toNat FK.visit.zero).drop).pl = (siteOf (fo x_3 (x_7.getD x_12.toNat FK.visit.zero).order) (x_7.getD
  x_12.toNat FK.visit.zero).drop).pl ∧ (↑x_7.length : Int) = (↑x_7.length : Int) ∧ wrap (x_12 + (1 : Int)) = wrap (x_12 + (1 : Int))) ∧ (x.n = x.n ∧ (x_2.id = x_2.id ∧ x_2.room = x_2.room ∧ x_2.home = x_2.home ∧ x_2.lo = x_2.lo ∧ x_2.hi =
  x_2.hi ∧ x_2.retired = x_2.retired) ∧ (x_7.getD x_12.toNat FK.visit.zero).order = (x_7.getD x_12.toNat FK.visit.zero).order ∧ (x_7.getD x_12.toNat FK.visit.zero).drop = (x_7.getD x_12.toNat FK.visit.zero).drop ∧ (x_7.getD x_12.toNat
  FK.visit.zero).arrive = (x_7.getD x_12.toNat FK.visit.zero).arrive ∧ (x_7.getD x_12.toNat FK.visit.zero).start = (x_7.getD x_12.toNat FK.visit.zero).start ∧ (x_7.getD x_12.toNat FK.visit.zero).leave = (x_7.getD x_12.toNat
  FK.visit.zero).leave ∧ (x_7.getD x_12.toNat FK.visit.zero).load = (x_7.getD x_12.toNat FK.visit.zero).load) ∧ x.l = x.l ∧ x_7 = x_7 ∧ upF x_19 (x_7.getD x_12.toNat FK.visit.zero).order (wrap (x_19 (x_7.getD x_12.toNat FK.visit.zero).order +
  (1 : Int))) = upF x_19 (x_7.getD x_12.toNat FK.visit.zero).order (wrap (x_19 (x_7.getD x_12.toNat FK.visit.zero).order + (1 : Int))) ∧ x_3 = x_3) ∧ inv (siteOf (fo x_3 (x_7.getD x_12.toNat FK.visit.zero).order) (x_7.getD x_12.toNat
  FK.visit.zero).drop).pl (wrap (x_12 + (1 : Int))) (x_7.getD x_12.toNat FK.visit.zero).order (x_7.getD x_12.toNat FK.visit.zero).drop (x_7.getD x_12.toNat FK.visit.zero).arrive (x_7.getD x_12.toNat FK.visit.zero).start (x_7.getD x_12.toNat
  FK.visit.zero).leave (x_7.getD x_12.toNat FK.visit.zero).load (upF x_19 (x_7.getD x_12.toNat FK.visit.zero).order (wrap (x_19 (x_7.getD x_12.toNat FK.visit.zero).order + (1 : Int)))) ∧ μ (siteOf (fo x_3 (x_7.getD x_12.toNat
  FK.visit.zero).order) (x_7.getD x_12.toNat FK.visit.zero).drop).pl (wrap (x_12 + (1 : Int))) (x_7.getD x_12.toNat FK.visit.zero).order (x_7.getD x_12.toNat FK.visit.zero).drop (x_7.getD x_12.toNat FK.visit.zero).arrive (x_7.getD x_12.toNat
  FK.visit.zero).start (x_7.getD x_12.toNat FK.visit.zero).leave (x_7.getD x_12.toNat FK.visit.zero).load (upF x_19 (x_7.getD x_12.toNat FK.visit.zero).order (wrap (x_19 (x_7.getD x_12.toNat FK.visit.zero).order + (1 : Int)))) < μ x_11 x_12
  x_13 x_14 x_15 x_16 x_17 x_18 x_19)))) ∧ (decide (x_12 < (↑x_7.length : Int)) = false → ((!decide (x_18 = (0 : Int))) = true → (18 : Int) = checkedE x x_2 x_3 x_5 x_7) ∧ ((!decide (x_18 = (0 : Int))) = false → (0 : Int) = checkedE x x_2 x_3
  x_5 x_7)))
theorem cchecked_told (hc : CsOk Try.prog cchecked_cs) (h : cchecked_vc) : Told Try.prog 55 cchecked_con := told (A := cchecked_la) tabOk mixed hc Try.func55 (by kernel_rfl) (by kernel_rfl) h
def rOne_vc : Prop :=
  ∀ (x : MapD), LenOk x.l.length → ∀ (x_2 : Driver) (x_3 : List Order), LenOk x_3.length → ∀ (x_5 : List Stop), LenOk x_5.length → ∀ (x_7 : List Visit), LenOk x_7.length → CheckPre x x_2 x_3 x_5 → ((!decide ((↑x_7.length : Int) = (↑x_5.length
  : Int))) = true → (4 : Int) = checkedE x x_2 x_3 x_5 x_7) ∧ ((!decide ((↑x_7.length : Int) = (↑x_5.length : Int))) = false → ∃ (inv : Int → Prop), ∃ (μ : Int → Nat), (((0 : Int) = (0 : Int) ∧ (x.n = x.n ∧ x_2.id = x_2.id ∧ x_2.room =
  x_2.room ∧ x_2.home = x_2.home ∧ x_2.lo = x_2.lo ∧ x_2.hi = x_2.hi ∧ x_2.retired = x_2.retired) ∧ x.l = x.l ∧ x_7 = x_7 ∧ x_5 = x_5 ∧ x_3 = x_3) ∧ inv (0 : Int)) ∧ ∀ (x_11 : Int), inv x_11 → (decide (x_11 < (↑x_7.length : Int)) = true → ((0
  : Int) ≤ x_11 ∧ x_11 < (↑x_7.length : Int)) ∧ x_11.toNat < x_7.length ∧ ((0 : Int) ≤ x_11 ∧ x_11 < (↑x_5.length : Int)) ∧ x_11.toNat < x_5.length ∧ ((!(decide ((x_7.getD x_11.toNat FK.visit.zero).order = (x_5.getD x_11.toNat
  FK.stop.zero).order) && ((x_7.getD x_11.toNat FK.visit.zero).drop == (x_5.getD x_11.toNat FK.stop.zero).drop && true))) = true → (4 : Int) = checkedE x x_2 x_3 x_5 x_7) ∧ ((!(decide ((x_7.getD x_11.toNat FK.visit.zero).order = (x_5.getD
  x_11.toNat FK.stop.zero).order) && ((x_7.getD x_11.toNat FK.visit.zero).drop == (x_5.getD x_11.toNat FK.stop.zero).drop && true))) = false → (wrap (x_11 + (1 : Int)) = wrap (x_11 + (1 : Int)) ∧ (x.n = x.n ∧ x_2.id = x_2.id ∧ x_2.room =
  x_2.room ∧ x_2.home = x_2.home ∧ x_2.lo = x_2.lo ∧ x_2.hi = x_2.hi ∧ x_2.retired = x_2.retired) ∧ x.l = x.l ∧ x_7 = x_7 ∧ x_5 = x_5 ∧ x_3 = x_3) ∧ inv (wrap (x_11 + (1 : Int))) ∧ μ (wrap (x_11 + (1 : Int))) < μ x_11)) ∧ (decide (x_11 <
  (↑x_7.length : Int)) = false → ∃ (inv : Int → Int → Int → Int → Prop), ∃ (μ : Int → Int → Int → Int → Nat), (((x_2.home = x_2.home ∧ x_2.lo = x_2.lo ∧ (0 : Int) = (0 : Int) ∧ (0 : Int) = (0 : Int)) ∧ (x.n = x.n ∧ x_2.id = x_2.id ∧ x_2.room
  = x_2.room ∧ x_2.home = x_2.home ∧ x_2.lo = x_2.lo ∧ x_2.hi = x_2.hi ∧ x_2.retired = x_2.retired) ∧ x.l = x.l ∧ x_7 = x_7 ∧ x_5 = x_5 ∧ x_3 = x_3) ∧ inv x_2.home x_2.lo (0 : Int) (0 : Int)) ∧ ∀ (x_14 x_15 x_16 x_17 : Int), inv x_14 x_15
  x_16 x_17 → (decide (x_17 < (↑x_7.length : Int)) = true → ((0 : Int) ≤ x_17 ∧ x_17 < (↑x_5.length : Int)) ∧ x_17.toNat < x_5.length ∧ (decide (ixO x_3 (x_5.getD x_17.toNat FK.stop.zero).order (0 : Int) < (0 : Int)) = true → (8 : Int) =
  checkedE x x_2 x_3 x_5 x_7) ∧ (decide (ixO x_3 (x_5.getD x_17.toNat FK.stop.zero).order (0 : Int) < (0 : Int)) = false → ((0 : Int) ≤ x_17 ∧ x_17 < (↑x_5.length : Int)) ∧ x_17.toNat < x_5.length ∧ ((x_5.getD x_17.toNat FK.stop.zero).drop =
  true → ((0 : Int) ≤ (0 : Int) ∧ (0 : Int) ≤ x_17 ∧ x_17 ≤ (↑x_5.length : Int)) ∧ ((0 : Int) ≤ x_17 ∧ x_17 < (↑x_5.length : Int)) ∧ x_17.toNat < x_5.length ∧ Int.toNat (0 : Int) + (x_17.toNat - Int.toNat (0 : Int)) ≤ x_5.length ∧ (decide
  (whereS (Stop.mk (x_5.getD x_17.toNat FK.stop.zero).order false) (part x_5 (Int.toNat (0 : Int)) (x_17.toNat - Int.toNat (0 : Int))) < (0 : Int)) = true → (17 : Int) = checkedE x x_2 x_3 x_5 x_7) ∧ (decide (whereS (Stop.mk (x_5.getD
  x_17.toNat FK.stop.zero).order false) (part x_5 (Int.toNat (0 : Int)) (x_17.toNat - Int.toNat (0 : Int))) < (0 : Int)) = false → ((0 : Int) ≤ x_17 ∧ x_17 < (↑x_5.length : Int)) ∧ x_17.toNat < x_5.length ∧ ((x_5.getD x_17.toNat
  FK.stop.zero).drop = true → ((0 : Int) ≤ ixO x_3 (x_5.getD x_17.toNat FK.stop.zero).order (0 : Int) ∧ ixO x_3 (x_5.getD x_17.toNat FK.stop.zero).order (0 : Int) < (↑x_3.length : Int)) ∧ (ixO x_3 (x_5.getD x_17.toNat FK.stop.zero).order (0 :
  Int)).toNat < x_3.length ∧ ((0 : Int) ≤ x_17 ∧ x_17 < (↑x_7.length : Int)) ∧ x_17.toNat < x_7.length ∧ ((!decide ((x_7.getD x_17.toNat FK.visit.zero).load = wrap (x_16 - (x_3.getD (ixO x_3 (x_5.getD x_17.toNat FK.stop.zero).order (0 :
  Int)).toNat FK.order.zero).size))) = false → (decide (wrap (x_16 - (x_3.getD (ixO x_3 (x_5.getD x_17.toNat FK.stop.zero).order (0 : Int)).toNat FK.order.zero).size) > x_2.room) = true → (14 : Int) = checkedE x x_2 x_3 x_5 x_7) ∧ (decide
  (wrap (x_16 - (x_3.getD (ixO x_3 (x_5.getD x_17.toNat FK.stop.zero).order (0 : Int)).toNat FK.order.zero).size) > x_2.room) = false → ((0 : Int) ≤ ixO x_3 (x_5.getD x_17.toNat FK.stop.zero).order (0 : Int) ∧ ixO x_3 (x_5.getD x_17.toNat
  FK.stop.zero).order (0 : Int) < (↑x_3.length : Int)) ∧ (ixO x_3 (x_5.getD x_17.toNat FK.stop.zero).order (0 : Int)).toNat < x_3.length ∧ ((0 : Int) ≤ x_17 ∧ x_17 < (↑x_5.length : Int)) ∧ x_17.toNat < x_5.length ∧ MapOk x ∧ ((!(begin_
  (Win.mk (siteOf (x_3.getD (ixO x_3 (x_5.getD x_17.toNat FK.stop.zero).order (0 : Int)).toNat FK.order.zero) (x_5.getD x_17.toNat FK.stop.zero).drop).lo (siteOf (x_3.getD (ixO x_3 (x_5.getD x_17.toNat FK.stop.zero).order (0 : Int)).toNat
  FK.order.zero) (x_5.getD x_17.toNat FK.stop.zero).drop).hi) (wrap (x_15 + (mtime (some x) x_14 (siteOf (x_3.getD (ixO x_3 (x_5.getD x_17.toNat FK.stop.zero).order (0 : Int)).toNat FK.order.zero) (x_5.getD x_17.toNat
  FK.stop.zero).drop).pl).fst))).snd) = false → ((0 : Int) ≤ x_17 ∧ x_17 < (↑x_7.length : Int)) ∧ x_17.toNat < x_7.length ∧ ((!decide ((x_7.getD x_17.toNat FK.visit.zero).arrive = wrap (x_15 + (mtime (some x) x_14 (siteOf (x_3.getD (ixO x_3
  (x_5.getD x_17.toNat FK.stop.zero).order (0 : Int)).toNat FK.order.zero) (x_5.getD x_17.toNat FK.stop.zero).drop).pl).fst))) = false → ((0 : Int) ≤ x_17 ∧ x_17 < (↑x_7.length : Int)) ∧ x_17.toNat < x_7.length ∧ ((!decide ((x_7.getD
  x_17.toNat FK.visit.zero).start = (begin_ (Win.mk (siteOf (x_3.getD (ixO x_3 (x_5.getD x_17.toNat FK.stop.zero).order (0 : Int)).toNat FK.order.zero) (x_5.getD x_17.toNat FK.stop.zero).drop).lo (siteOf (x_3.getD (ixO x_3 (x_5.getD
  x_17.toNat FK.stop.zero).order (0 : Int)).toNat FK.order.zero) (x_5.getD x_17.toNat FK.stop.zero).drop).hi) (wrap (x_15 + (mtime (some x) x_14 (siteOf (x_3.getD (ixO x_3 (x_5.getD x_17.toNat FK.stop.zero).order (0 : Int)).toNat
  FK.order.zero) (x_5.getD x_17.toNat FK.stop.zero).drop).pl).fst))).fst)) = false → ((0 : Int) ≤ x_17 ∧ x_17 < (↑x_7.length : Int)) ∧ x_17.toNat < x_7.length ∧ ((!decide ((x_7.getD x_17.toNat FK.visit.zero).leave = wrap ((begin_ (Win.mk
  (siteOf (x_3.getD (ixO x_3 (x_5.getD x_17.toNat FK.stop.zero).order (0 : Int)).toNat FK.order.zero) (x_5.getD x_17.toNat FK.stop.zero).drop).lo (siteOf (x_3.getD (ixO x_3 (x_5.getD x_17.toNat FK.stop.zero).order (0 : Int)).toNat
  FK.order.zero) (x_5.getD x_17.toNat FK.stop.zero).drop).hi) (wrap (x_15 + (mtime (some x) x_14 (siteOf (x_3.getD (ixO x_3 (x_5.getD x_17.toNat FK.stop.zero).order (0 : Int)).toNat FK.order.zero) (x_5.getD x_17.toNat
  FK.stop.zero).drop).pl).fst))).fst + (siteOf (x_3.getD (ixO x_3 (x_5.getD x_17.toNat FK.stop.zero).order (0 : Int)).toNat FK.order.zero) (x_5.getD x_17.toNat FK.stop.zero).drop).sv))) = false → (decide (wrap ((begin_ (Win.mk (siteOf
  (x_3.getD (ixO x_3 (x_5.getD x_17.toNat FK.stop.zero).order (0 : Int)).toNat FK.order.zero) (x_5.getD x_17.toNat FK.stop.zero).drop).lo (siteOf (x_3.getD (ixO x_3 (x_5.getD x_17.toNat FK.stop.zero).order (0 : Int)).toNat FK.order.zero)
  (x_5.getD x_17.toNat FK.stop.zero).drop).hi) (wrap (x_15 + (mtime (some x) x_14 (siteOf (x_3.getD (ixO x_3 (x_5.getD x_17.toNat FK.stop.zero).order (0 : Int)).toNat FK.order.zero) (x_5.getD x_17.toNat FK.stop.zero).drop).pl).fst))).fst +
  (siteOf (x_3.getD (ixO x_3 (x_5.getD x_17.toNat FK.stop.zero).order (0 : Int)).toNat FK.order.zero) (x_5.getD x_17.toNat FK.stop.zero).drop).sv) > x_2.hi) = true → (15 : Int) = checkedE x x_2 x_3 x_5 x_7) ∧ (decide (wrap ((begin_ (Win.mk
  (siteOf (x_3.getD (ixO x_3 (x_5.getD x_17.toNat FK.stop.zero).order (0 : Int)).toNat FK.order.zero) (x_5.getD x_17.toNat FK.stop.zero).drop).lo (siteOf (x_3.getD (ixO x_3 (x_5.getD x_17.toNat FK.stop.zero).order (0 : Int)).toNat
  FK.order.zero) (x_5.getD x_17.toNat FK.stop.zero).drop).hi) (wrap (x_15 + (mtime (some x) x_14 (siteOf (x_3.getD (ixO x_3 (x_5.getD x_17.toNat FK.stop.zero).order (0 : Int)).toNat FK.order.zero) (x_5.getD x_17.toNat
  FK.stop.zero).drop).pl).fst))).fst + (siteOf (x_3.getD (ixO x_3 (x_5.getD x_17.toNat FK.stop.zero).order (0 : Int)).toNat FK.order.zero) (x_5.getD x_17.toNat FK.stop.zero).drop).sv) > x_2.hi) = false → ((0 : Int) ≤ x_17 ∧ x_17 <
  (↑x_7.length : Int)) ∧ x_17.toNat < x_7.length ∧ (((siteOf (x_3.getD (ixO x_3 (x_5.getD x_17.toNat FK.stop.zero).order (0 : Int)).toNat FK.order.zero) (x_5.getD x_17.toNat FK.stop.zero).drop).pl = (siteOf (x_3.getD (ixO x_3 (x_5.getD
  x_17.toNat FK.stop.zero).order (0 : Int)).toNat FK.order.zero) (x_5.getD x_17.toNat FK.stop.zero).drop).pl ∧ (x_7.getD x_17.toNat FK.visit.zero).leave = (x_7.getD x_17.toNat FK.visit.zero).leave ∧ wrap (x_16 - (x_3.getD (ixO x_3 (x_5.getD
  x_17.toNat FK.stop.zero).order (0 : Int)).toNat FK.order.zero).size) = wrap (x_16 - (x_3.getD (ixO x_3 (x_5.getD x_17.toNat FK.stop.zero).order (0 : Int)).toNat FK.order.zero).size) ∧ wrap (x_17 + (1 : Int)) = wrap (x_17 + (1 : Int))) ∧
  (x.n = x.n ∧ x_2.id = x_2.id ∧ x_2.room = x_2.room ∧ x_2.home = x_2.home ∧ x_2.lo = x_2.lo ∧ x_2.hi = x_2.hi ∧ x_2.retired = x_2.retired) ∧ x.l = x.l ∧ x_7 = x_7 ∧ x_5 = x_5 ∧ x_3 = x_3) ∧ inv (siteOf (x_3.getD (ixO x_3 (x_5.getD x_17.toNat
  FK.stop.zero).order (0 : Int)).toNat FK.order.zero) (x_5.getD x_17.toNat FK.stop.zero).drop).pl (x_7.getD x_17.toNat FK.visit.zero).leave (wrap (x_16 - (x_3.getD (ixO x_3 (x_5.getD x_17.toNat FK.stop.zero).order (0 : Int)).toNat
  FK.order.zero).size)) (wrap (x_17 + (1 : Int))) ∧ μ (siteOf (x_3.getD (ixO x_3 (x_5.getD x_17.toNat FK.stop.zero).order (0 : Int)).toNat FK.order.zero) (x_5.getD x_17.toNat FK.stop.zero).drop).pl (x_7.getD x_17.toNat FK.visit.zero).leave
  (wrap (x_16 - (x_3.getD (ixO x_3 (x_5.getD x_17.toNat FK.stop.zero).order (0 : Int)).toNat FK.order.zero).size)) (wrap (x_17 + (1 : Int))) < μ x_14 x_15 x_16 x_17)) ∧ ((!decide ((x_7.getD x_17.toNat FK.visit.zero).leave = wrap ((begin_
  (Win.mk (siteOf (x_3.getD (ixO x_3 (x_5.getD x_17.toNat FK.stop.zero).order (0 : Int)).toNat FK.order.zero) (x_5.getD x_17.toNat FK.stop.zero).drop).lo (siteOf (x_3.getD (ixO x_3 (x_5.getD x_17.toNat FK.stop.zero).order (0 : Int)).toNat
  FK.order.zero) (x_5.getD x_17.toNat FK.stop.zero).drop).hi) (wrap (x_15 + (mtime (some x) x_14 (siteOf (x_3.getD (ixO x_3 (x_5.getD x_17.toNat FK.stop.zero).order (0 : Int)).toNat FK.order.zero) (x_5.getD x_17.toNat
  FK.stop.zero).drop).pl).fst))).fst + (siteOf (x_3.getD (ixO x_3 (x_5.getD x_17.toNat FK.stop.zero).order (0 : Int)).toNat FK.order.zero) (x_5.getD x_17.toNat FK.stop.zero).drop).sv))) = !false → (15 : Int) = checkedE x x_2 x_3 x_5 x_7)) ∧
  ((!decide ((x_7.getD x_17.toNat FK.visit.zero).start = (begin_ (Win.mk (siteOf (x_3.getD (ixO x_3 (x_5.getD x_17.toNat FK.stop.zero).order (0 : Int)).toNat FK.order.zero) (x_5.getD x_17.toNat FK.stop.zero).drop).lo (siteOf (x_3.getD (ixO
  x_3 (x_5.getD x_17.toNat FK.stop.zero).order (0 : Int)).toNat FK.order.zero) (x_5.getD x_17.toNat FK.stop.zero).drop).hi) (wrap (x_15 + (mtime (some x) x_14 (siteOf (x_3.getD (ixO x_3 (x_5.getD x_17.toNat FK.stop.zero).order (0 :
  Int)).toNat FK.order.zero) (x_5.getD x_17.toNat FK.stop.zero).drop).pl).fst))).fst)) = !false → (15 : Int) = checkedE x x_2 x_3 x_5 x_7)) ∧ ((!decide ((x_7.getD x_17.toNat FK.visit.zero).arrive = wrap (x_15 + (mtime (some x) x_14 (siteOf
  (x_3.getD (ixO x_3 (x_5.getD x_17.toNat FK.stop.zero).order (0 : Int)).toNat FK.order.zero) (x_5.getD x_17.toNat FK.stop.zero).drop).pl).fst))) = !false → (15 : Int) = checkedE x x_2 x_3 x_5 x_7)) ∧ ((!(begin_ (Win.mk (siteOf (x_3.getD (ixO
  x_3 (x_5.getD x_17.toNat FK.stop.zero).order (0 : Int)).toNat FK.order.zero) (x_5.getD x_17.toNat FK.stop.zero).drop).lo (siteOf (x_3.getD (ixO x_3 (x_5.getD x_17.toNat FK.stop.zero).order (0 : Int)).toNat FK.order.zero) (x_5.getD
  x_17.toNat FK.stop.zero).drop).hi) (wrap (x_15 + (mtime (some x) x_14 (siteOf (x_3.getD (ixO x_3 (x_5.getD x_17.toNat FK.stop.zero).order (0 : Int)).toNat FK.order.zero) (x_5.getD x_17.toNat FK.stop.zero).drop).pl).fst))).snd) = !false →
  (15 : Int) = checkedE x x_2 x_3 x_5 x_7))) ∧ ((!decide ((x_7.getD x_17.toNat FK.visit.zero).load = wrap (x_16 - (x_3.getD (ixO x_3 (x_5.getD x_17.toNat FK.stop.zero).order (0 : Int)).toNat FK.order.zero).size))) = !false → (14 : Int) =
  checkedE x x_2 x_3 x_5 x_7)) ∧ ((x_5.getD x_17.toNat FK.stop.zero).drop = false → ((0 : Int) ≤ ixO x_3 (x_5.getD x_17.toNat FK.stop.zero).order (0 : Int) ∧ ixO x_3 (x_5.getD x_17.toNat FK.stop.zero).order (0 : Int) < (↑x_3.length : Int)) ∧
  (ixO x_3 (x_5.getD x_17.toNat FK.stop.zero).order (0 : Int)).toNat < x_3.length ∧ ((0 : Int) ≤ x_17 ∧ x_17 < (↑x_7.length : Int)) ∧ x_17.toNat < x_7.length ∧ ((!decide ((x_7.getD x_17.toNat FK.visit.zero).load = wrap (x_16 + (x_3.getD (ixO
  x_3 (x_5.getD x_17.toNat FK.stop.zero).order (0 : Int)).toNat FK.order.zero).size))) = false → (decide (wrap (x_16 + (x_3.getD (ixO x_3 (x_5.getD x_17.toNat FK.stop.zero).order (0 : Int)).toNat FK.order.zero).size) > x_2.room) = true → (14
  : Int) = checkedE x x_2 x_3 x_5 x_7) ∧ (decide (wrap (x_16 + (x_3.getD (ixO x_3 (x_5.getD x_17.toNat FK.stop.zero).order (0 : Int)).toNat FK.order.zero).size) > x_2.room) = false → ((0 : Int) ≤ ixO x_3 (x_5.getD x_17.toNat
  FK.stop.zero).order (0 : Int) ∧ ixO x_3 (x_5.getD x_17.toNat FK.stop.zero).order (0 : Int) < (↑x_3.length : Int)) ∧ (ixO x_3 (x_5.getD x_17.toNat FK.stop.zero).order (0 : Int)).toNat < x_3.length ∧ ((0 : Int) ≤ x_17 ∧ x_17 < (↑x_5.length :
  Int)) ∧ x_17.toNat < x_5.length ∧ MapOk x ∧ ((!(begin_ (Win.mk (siteOf (x_3.getD (ixO x_3 (x_5.getD x_17.toNat FK.stop.zero).order (0 : Int)).toNat FK.order.zero) (x_5.getD x_17.toNat FK.stop.zero).drop).lo (siteOf (x_3.getD (ixO x_3
  (x_5.getD x_17.toNat FK.stop.zero).order (0 : Int)).toNat FK.order.zero) (x_5.getD x_17.toNat FK.stop.zero).drop).hi) (wrap (x_15 + (mtime (some x) x_14 (siteOf (x_3.getD (ixO x_3 (x_5.getD x_17.toNat FK.stop.zero).order (0 : Int)).toNat
  FK.order.zero) (x_5.getD x_17.toNat FK.stop.zero).drop).pl).fst))).snd) = false → ((0 : Int) ≤ x_17 ∧ x_17 < (↑x_7.length : Int)) ∧ x_17.toNat < x_7.length ∧ ((!decide ((x_7.getD x_17.toNat FK.visit.zero).arrive = wrap (x_15 + (mtime (some
  x) x_14 (siteOf (x_3.getD (ixO x_3 (x_5.getD x_17.toNat FK.stop.zero).order (0 : Int)).toNat FK.order.zero) (x_5.getD x_17.toNat FK.stop.zero).drop).pl).fst))) = false → ((0 : Int) ≤ x_17 ∧ x_17 < (↑x_7.length : Int)) ∧ x_17.toNat <
  x_7.length ∧ ((!decide ((x_7.getD x_17.toNat FK.visit.zero).start = (begin_ (Win.mk (siteOf (x_3.getD (ixO x_3 (x_5.getD x_17.toNat FK.stop.zero).order (0 : Int)).toNat FK.order.zero) (x_5.getD x_17.toNat FK.stop.zero).drop).lo (siteOf
  (x_3.getD (ixO x_3 (x_5.getD x_17.toNat FK.stop.zero).order (0 : Int)).toNat FK.order.zero) (x_5.getD x_17.toNat FK.stop.zero).drop).hi) (wrap (x_15 + (mtime (some x) x_14 (siteOf (x_3.getD (ixO x_3 (x_5.getD x_17.toNat FK.stop.zero).order
  (0 : Int)).toNat FK.order.zero) (x_5.getD x_17.toNat FK.stop.zero).drop).pl).fst))).fst)) = false → ((0 : Int) ≤ x_17 ∧ x_17 < (↑x_7.length : Int)) ∧ x_17.toNat < x_7.length ∧ ((!decide ((x_7.getD x_17.toNat FK.visit.zero).leave = wrap
  ((begin_ (Win.mk (siteOf (x_3.getD (ixO x_3 (x_5.getD x_17.toNat FK.stop.zero).order (0 : Int)).toNat FK.order.zero) (x_5.getD x_17.toNat FK.stop.zero).drop).lo (siteOf (x_3.getD (ixO x_3 (x_5.getD x_17.toNat FK.stop.zero).order (0 :
  Int)).toNat FK.order.zero) (x_5.getD x_17.toNat FK.stop.zero).drop).hi) (wrap (x_15 + (mtime (some x) x_14 (siteOf (x_3.getD (ixO x_3 (x_5.getD x_17.toNat FK.stop.zero).order (0 : Int)).toNat FK.order.zero) (x_5.getD x_17.toNat
  FK.stop.zero).drop).pl).fst))).fst + (siteOf (x_3.getD (ixO x_3 (x_5.getD x_17.toNat FK.stop.zero).order (0 : Int)).toNat FK.order.zero) (x_5.getD x_17.toNat FK.stop.zero).drop).sv))) = false → (decide (wrap ((begin_ (Win.mk (siteOf
  (x_3.getD (ixO x_3 (x_5.getD x_17.toNat FK.stop.zero).order (0 : Int)).toNat FK.order.zero) (x_5.getD x_17.toNat FK.stop.zero).drop).lo (siteOf (x_3.getD (ixO x_3 (x_5.getD x_17.toNat FK.stop.zero).order (0 : Int)).toNat FK.order.zero)
  (x_5.getD x_17.toNat FK.stop.zero).drop).hi) (wrap (x_15 + (mtime (some x) x_14 (siteOf (x_3.getD (ixO x_3 (x_5.getD x_17.toNat FK.stop.zero).order (0 : Int)).toNat FK.order.zero) (x_5.getD x_17.toNat FK.stop.zero).drop).pl).fst))).fst +
  (siteOf (x_3.getD (ixO x_3 (x_5.getD x_17.toNat FK.stop.zero).order (0 : Int)).toNat FK.order.zero) (x_5.getD x_17.toNat FK.stop.zero).drop).sv) > x_2.hi) = true → (15 : Int) = checkedE x x_2 x_3 x_5 x_7) ∧ (decide (wrap ((begin_ (Win.mk
  (siteOf (x_3.getD (ixO x_3 (x_5.getD x_17.toNat FK.stop.zero).order (0 : Int)).toNat FK.order.zero) (x_5.getD x_17.toNat FK.stop.zero).drop).lo (siteOf (x_3.getD (ixO x_3 (x_5.getD x_17.toNat FK.stop.zero).order (0 : Int)).toNat
  FK.order.zero) (x_5.getD x_17.toNat FK.stop.zero).drop).hi) (wrap (x_15 + (mtime (some x) x_14 (siteOf (x_3.getD (ixO x_3 (x_5.getD x_17.toNat FK.stop.zero).order (0 : Int)).toNat FK.order.zero) (x_5.getD x_17.toNat
  FK.stop.zero).drop).pl).fst))).fst + (siteOf (x_3.getD (ixO x_3 (x_5.getD x_17.toNat FK.stop.zero).order (0 : Int)).toNat FK.order.zero) (x_5.getD x_17.toNat FK.stop.zero).drop).sv) > x_2.hi) = false → ((0 : Int) ≤ x_17 ∧ x_17 <
  (↑x_7.length : Int)) ∧ x_17.toNat < x_7.length ∧ (((siteOf (x_3.getD (ixO x_3 (x_5.getD x_17.toNat FK.stop.zero).order (0 : Int)).toNat FK.order.zero) (x_5.getD x_17.toNat FK.stop.zero).drop).pl = (siteOf (x_3.getD (ixO x_3 (x_5.getD
  x_17.toNat FK.stop.zero).order (0 : Int)).toNat FK.order.zero) (x_5.getD x_17.toNat FK.stop.zero).drop).pl ∧ (x_7.getD x_17.toNat FK.visit.zero).leave = (x_7.getD x_17.toNat FK.visit.zero).leave ∧ wrap (x_16 + (x_3.getD (ixO x_3 (x_5.getD
  x_17.toNat FK.stop.zero).order (0 : Int)).toNat FK.order.zero).size) = wrap (x_16 + (x_3.getD (ixO x_3 (x_5.getD x_17.toNat FK.stop.zero).order (0 : Int)).toNat FK.order.zero).size) ∧ wrap (x_17 + (1 : Int)) = wrap (x_17 + (1 : Int))) ∧
  (x.n = x.n ∧ x_2.id = x_2.id ∧ x_2.room = x_2.room ∧ x_2.home = x_2.home ∧ x_2.lo = x_2.lo ∧ x_2.hi = x_2.hi ∧ x_2.retired = x_2.retired) ∧ x.l = x.l ∧ x_7 = x_7 ∧ x_5 = x_5 ∧ x_3 = x_3) ∧ inv (siteOf (x_3.getD (ixO x_3 (x_5.getD x_17.toNat
  FK.stop.zero).order (0 : Int)).toNat FK.order.zero) (x_5.getD x_17.toNat FK.stop.zero).drop).pl (x_7.getD x_17.toNat FK.visit.zero).leave (wrap (x_16 + (x_3.getD (ixO x_3 (x_5.getD x_17.toNat FK.stop.zero).order (0 : Int)).toNat
  FK.order.zero).size)) (wrap (x_17 + (1 : Int))) ∧ μ (siteOf (x_3.getD (ixO x_3 (x_5.getD x_17.toNat FK.stop.zero).order (0 : Int)).toNat FK.order.zero) (x_5.getD x_17.toNat FK.stop.zero).drop).pl (x_7.getD x_17.toNat FK.visit.zero).leave
  (wrap (x_16 + (x_3.getD (ixO x_3 (x_5.getD x_17.toNat FK.stop.zero).order (0 : Int)).toNat FK.order.zero).size)) (wrap (x_17 + (1 : Int))) < μ x_14 x_15 x_16 x_17)) ∧ ((!decide ((x_7.getD x_17.toNat FK.visit.zero).leave = wrap ((begin_
  (Win.mk (siteOf (x_3.getD (ixO x_3 (x_5.getD x_17.toNat FK.stop.zero).order (0 : Int)).toNat FK.order.zero) (x_5.getD x_17.toNat FK.stop.zero).drop).lo (siteOf (x_3.getD (ixO x_3 (x_5.getD x_17.toNat FK.stop.zero).order (0 : Int)).toNat
  FK.order.zero) (x_5.getD x_17.toNat FK.stop.zero).drop).hi) (wrap (x_15 + (mtime (some x) x_14 (siteOf (x_3.getD (ixO x_3 (x_5.getD x_17.toNat FK.stop.zero).order (0 : Int)).toNat FK.order.zero) (x_5.getD x_17.toNat
  FK.stop.zero).drop).pl).fst))).fst + (siteOf (x_3.getD (ixO x_3 (x_5.getD x_17.toNat FK.stop.zero).order (0 : Int)).toNat FK.order.zero) (x_5.getD x_17.toNat FK.stop.zero).drop).sv))) = !false → (15 : Int) = checkedE x x_2 x_3 x_5 x_7)) ∧
  ((!decide ((x_7.getD x_17.toNat FK.visit.zero).start = (begin_ (Win.mk (siteOf (x_3.getD (ixO x_3 (x_5.getD x_17.toNat FK.stop.zero).order (0 : Int)).toNat FK.order.zero) (x_5.getD x_17.toNat FK.stop.zero).drop).lo (siteOf (x_3.getD (ixO
  x_3 (x_5.getD x_17.toNat FK.stop.zero).order (0 : Int)).toNat FK.order.zero) (x_5.getD x_17.toNat FK.stop.zero).drop).hi) (wrap (x_15 + (mtime (some x) x_14 (siteOf (x_3.getD (ixO x_3 (x_5.getD x_17.toNat FK.stop.zero).order (0 :
  Int)).toNat FK.order.zero) (x_5.getD x_17.toNat FK.stop.zero).drop).pl).fst))).fst)) = !false → (15 : Int) = checkedE x x_2 x_3 x_5 x_7)) ∧ ((!decide ((x_7.getD x_17.toNat FK.visit.zero).arrive = wrap (x_15 + (mtime (some x) x_14 (siteOf
  (x_3.getD (ixO x_3 (x_5.getD x_17.toNat FK.stop.zero).order (0 : Int)).toNat FK.order.zero) (x_5.getD x_17.toNat FK.stop.zero).drop).pl).fst))) = !false → (15 : Int) = checkedE x x_2 x_3 x_5 x_7)) ∧ ((!(begin_ (Win.mk (siteOf (x_3.getD (ixO
  x_3 (x_5.getD x_17.toNat FK.stop.zero).order (0 : Int)).toNat FK.order.zero) (x_5.getD x_17.toNat FK.stop.zero).drop).lo (siteOf (x_3.getD (ixO x_3 (x_5.getD x_17.toNat FK.stop.zero).order (0 : Int)).toNat FK.order.zero) (x_5.getD
  x_17.toNat FK.stop.zero).drop).hi) (wrap (x_15 + (mtime (some x) x_14 (siteOf (x_3.getD (ixO x_3 (x_5.getD x_17.toNat FK.stop.zero).order (0 : Int)).toNat FK.order.zero) (x_5.getD x_17.toNat FK.stop.zero).drop).pl).fst))).snd) = !false →
  (15 : Int) = checkedE x x_2 x_3 x_5 x_7))) ∧ ((!decide ((x_7.getD x_17.toNat FK.visit.zero).load = wrap (x_16 + (x_3.getD (ixO x_3 (x_5.getD x_17.toNat FK.stop.zero).order (0 : Int)).toNat FK.order.zero).size))) = !false → (14 : Int) =
  checkedE x x_2 x_3 x_5 x_7)))) ∧ ((x_5.getD x_17.toNat FK.stop.zero).drop = !true → ((0 : Int) ≤ x_17 ∧ x_17 < (↑x_5.length : Int)) ∧ x_17.toNat < x_5.length ∧ ((x_5.getD x_17.toNat FK.stop.zero).drop = true → ((0 : Int) ≤ ixO x_3 (x_5.getD
  x_17.toNat FK.stop.zero).order (0 : Int) ∧ ixO x_3 (x_5.getD x_17.toNat FK.stop.zero).order (0 : Int) < (↑x_3.length : Int)) ∧ (ixO x_3 (x_5.getD x_17.toNat FK.stop.zero).order (0 : Int)).toNat < x_3.length ∧ ((0 : Int) ≤ x_17 ∧ x_17 <
  (↑x_7.length : Int)) ∧ x_17.toNat < x_7.length ∧ ((!decide ((x_7.getD x_17.toNat FK.visit.zero).load = wrap (x_16 - (x_3.getD (ixO x_3 (x_5.getD x_17.toNat FK.stop.zero).order (0 : Int)).toNat FK.order.zero).size))) = false → (decide (wrap
  (x_16 - (x_3.getD (ixO x_3 (x_5.getD x_17.toNat FK.stop.zero).order (0 : Int)).toNat FK.order.zero).size) > x_2.room) = true → (14 : Int) = checkedE x x_2 x_3 x_5 x_7) ∧ (decide (wrap (x_16 - (x_3.getD (ixO x_3 (x_5.getD x_17.toNat
  FK.stop.zero).order (0 : Int)).toNat FK.order.zero).size) > x_2.room) = false → ((0 : Int) ≤ ixO x_3 (x_5.getD x_17.toNat FK.stop.zero).order (0 : Int) ∧ ixO x_3 (x_5.getD x_17.toNat FK.stop.zero).order (0 : Int) < (↑x_3.length : Int)) ∧
  (ixO x_3 (x_5.getD x_17.toNat FK.stop.zero).order (0 : Int)).toNat < x_3.length ∧ ((0 : Int) ≤ x_17 ∧ x_17 < (↑x_5.length : Int)) ∧ x_17.toNat < x_5.length ∧ MapOk x ∧ ((!(begin_ (Win.mk (siteOf (x_3.getD (ixO x_3 (x_5.getD x_17.toNat
  FK.stop.zero).order (0 : Int)).toNat FK.order.zero) (x_5.getD x_17.toNat FK.stop.zero).drop).lo (siteOf (x_3.getD (ixO x_3 (x_5.getD x_17.toNat FK.stop.zero).order (0 : Int)).toNat FK.order.zero) (x_5.getD x_17.toNat FK.stop.zero).drop).hi)
  (wrap (x_15 + (mtime (some x) x_14 (siteOf (x_3.getD (ixO x_3 (x_5.getD x_17.toNat FK.stop.zero).order (0 : Int)).toNat FK.order.zero) (x_5.getD x_17.toNat FK.stop.zero).drop).pl).fst))).snd) = false → ((0 : Int) ≤ x_17 ∧ x_17 <
  (↑x_7.length : Int)) ∧ x_17.toNat < x_7.length ∧ ((!decide ((x_7.getD x_17.toNat FK.visit.zero).arrive = wrap (x_15 + (mtime (some x) x_14 (siteOf (x_3.getD (ixO x_3 (x_5.getD x_17.toNat FK.stop.zero).order (0 : Int)).toNat FK.order.zero)
  (x_5.getD x_17.toNat FK.stop.zero).drop).pl).fst))) = false → ((0 : Int) ≤ x_17 ∧ x_17 < (↑x_7.length : Int)) ∧ x_17.toNat < x_7.length ∧ ((!decide ((x_7.getD x_17.toNat FK.visit.zero).start = (begin_ (Win.mk (siteOf (x_3.getD (ixO x_3
  (x_5.getD x_17.toNat FK.stop.zero).order (0 : Int)).toNat FK.order.zero) (x_5.getD x_17.toNat FK.stop.zero).drop).lo (siteOf (x_3.getD (ixO x_3 (x_5.getD x_17.toNat FK.stop.zero).order (0 : Int)).toNat FK.order.zero) (x_5.getD x_17.toNat
  FK.stop.zero).drop).hi) (wrap (x_15 + (mtime (some x) x_14 (siteOf (x_3.getD (ixO x_3 (x_5.getD x_17.toNat FK.stop.zero).order (0 : Int)).toNat FK.order.zero) (x_5.getD x_17.toNat FK.stop.zero).drop).pl).fst))).fst)) = false → ((0 : Int) ≤
  x_17 ∧ x_17 < (↑x_7.length : Int)) ∧ x_17.toNat < x_7.length ∧ ((!decide ((x_7.getD x_17.toNat FK.visit.zero).leave = wrap ((begin_ (Win.mk (siteOf (x_3.getD (ixO x_3 (x_5.getD x_17.toNat FK.stop.zero).order (0 : Int)).toNat FK.order.zero)
  (x_5.getD x_17.toNat FK.stop.zero).drop).lo (siteOf (x_3.getD (ixO x_3 (x_5.getD x_17.toNat FK.stop.zero).order (0 : Int)).toNat FK.order.zero) (x_5.getD x_17.toNat FK.stop.zero).drop).hi) (wrap (x_15 + (mtime (some x) x_14 (siteOf
  (x_3.getD (ixO x_3 (x_5.getD x_17.toNat FK.stop.zero).order (0 : Int)).toNat FK.order.zero) (x_5.getD x_17.toNat FK.stop.zero).drop).pl).fst))).fst + (siteOf (x_3.getD (ixO x_3 (x_5.getD x_17.toNat FK.stop.zero).order (0 : Int)).toNat
  FK.order.zero) (x_5.getD x_17.toNat FK.stop.zero).drop).sv))) = false → (decide (wrap ((begin_ (Win.mk (siteOf (x_3.getD (ixO x_3 (x_5.getD x_17.toNat FK.stop.zero).order (0 : Int)).toNat FK.order.zero) (x_5.getD x_17.toNat
  FK.stop.zero).drop).lo (siteOf (x_3.getD (ixO x_3 (x_5.getD x_17.toNat FK.stop.zero).order (0 : Int)).toNat FK.order.zero) (x_5.getD x_17.toNat FK.stop.zero).drop).hi) (wrap (x_15 + (mtime (some x) x_14 (siteOf (x_3.getD (ixO x_3 (x_5.getD
  x_17.toNat FK.stop.zero).order (0 : Int)).toNat FK.order.zero) (x_5.getD x_17.toNat FK.stop.zero).drop).pl).fst))).fst + (siteOf (x_3.getD (ixO x_3 (x_5.getD x_17.toNat FK.stop.zero).order (0 : Int)).toNat FK.order.zero) (x_5.getD
  x_17.toNat FK.stop.zero).drop).sv) > x_2.hi) = true → (15 : Int) = checkedE x x_2 x_3 x_5 x_7) ∧ (decide (wrap ((begin_ (Win.mk (siteOf (x_3.getD (ixO x_3 (x_5.getD x_17.toNat FK.stop.zero).order (0 : Int)).toNat FK.order.zero) (x_5.getD
  x_17.toNat FK.stop.zero).drop).lo (siteOf (x_3.getD (ixO x_3 (x_5.getD x_17.toNat FK.stop.zero).order (0 : Int)).toNat FK.order.zero) (x_5.getD x_17.toNat FK.stop.zero).drop).hi) (wrap (x_15 + (mtime (some x) x_14 (siteOf (x_3.getD (ixO x_3
  (x_5.getD x_17.toNat FK.stop.zero).order (0 : Int)).toNat FK.order.zero) (x_5.getD x_17.toNat FK.stop.zero).drop).pl).fst))).fst + (siteOf (x_3.getD (ixO x_3 (x_5.getD x_17.toNat FK.stop.zero).order (0 : Int)).toNat FK.order.zero) (x_5.getD
  x_17.toNat FK.stop.zero).drop).sv) > x_2.hi) = false → ((0 : Int) ≤ x_17 ∧ x_17 < (↑x_7.length : Int)) ∧ x_17.toNat < x_7.length ∧ (((siteOf (x_3.getD (ixO x_3 (x_5.getD x_17.toNat FK.stop.zero).order (0 : Int)).toNat FK.order.zero)
  (x_5.getD x_17.toNat FK.stop.zero).drop).pl = (siteOf (x_3.getD (ixO x_3 (x_5.getD x_17.toNat FK.stop.zero).order (0 : Int)).toNat FK.order.zero) (x_5.getD x_17.toNat FK.stop.zero).drop).pl ∧ (x_7.getD x_17.toNat FK.visit.zero).leave =
  (x_7.getD x_17.toNat FK.visit.zero).leave ∧ wrap (x_16 - (x_3.getD (ixO x_3 (x_5.getD x_17.toNat FK.stop.zero).order (0 : Int)).toNat FK.order.zero).size) = wrap (x_16 - (x_3.getD (ixO x_3 (x_5.getD x_17.toNat FK.stop.zero).order (0 :
  Int)).toNat FK.order.zero).size) ∧ wrap (x_17 + (1 : Int)) = wrap (x_17 + (1 : Int))) ∧ (x.n = x.n ∧ x_2.id = x_2.id ∧ x_2.room = x_2.room ∧ x_2.home = x_2.home ∧ x_2.lo = x_2.lo ∧ x_2.hi = x_2.hi ∧ x_2.retired = x_2.retired) ∧ x.l = x.l ∧
  x_7 = x_7 ∧ x_5 = x_5 ∧ x_3 = x_3) ∧ inv (siteOf (x_3.getD (ixO x_3 (x_5.getD x_17.toNat FK.stop.zero).order (0 : Int)).toNat FK.order.zero) (x_5.getD x_17.toNat FK.stop.zero).drop).pl (x_7.getD x_17.toNat FK.visit.zero).leave (wrap (x_16 -
  (x_3.getD (ixO x_3 (x_5.getD x_17.toNat FK.stop.zero).order (0 : Int)).toNat FK.order.zero).size)) (wrap (x_17 + (1 : Int))) ∧ μ (siteOf (x_3.getD (ixO x_3 (x_5.getD x_17.toNat FK.stop.zero).order (0 : Int)).toNat FK.order.zero) (x_5.getD
  x_17.toNat FK.stop.zero).drop).pl (x_7.getD x_17.toNat FK.visit.zero).leave (wrap (x_16 - (x_3.getD (ixO x_3 (x_5.getD x_17.toNat FK.stop.zero).order (0 : Int)).toNat FK.order.zero).size)) (wrap (x_17 + (1 : Int))) < μ x_14 x_15 x_16 x_17))
  ∧ ((!decide ((x_7.getD x_17.toNat FK.visit.zero).leave = wrap ((begin_ (Win.mk (siteOf (x_3.getD (ixO x_3 (x_5.getD x_17.toNat FK.stop.zero).order (0 : Int)).toNat FK.order.zero) (x_5.getD x_17.toNat FK.stop.zero).drop).lo (siteOf (x_3.getD
  (ixO x_3 (x_5.getD x_17.toNat FK.stop.zero).order (0 : Int)).toNat FK.order.zero) (x_5.getD x_17.toNat FK.stop.zero).drop).hi) (wrap (x_15 + (mtime (some x) x_14 (siteOf (x_3.getD (ixO x_3 (x_5.getD x_17.toNat FK.stop.zero).order (0 :
  Int)).toNat FK.order.zero) (x_5.getD x_17.toNat FK.stop.zero).drop).pl).fst))).fst + (siteOf (x_3.getD (ixO x_3 (x_5.getD x_17.toNat FK.stop.zero).order (0 : Int)).toNat FK.order.zero) (x_5.getD x_17.toNat FK.stop.zero).drop).sv))) = !false
  → (15 : Int) = checkedE x x_2 x_3 x_5 x_7)) ∧ ((!decide ((x_7.getD x_17.toNat FK.visit.zero).start = (begin_ (Win.mk (siteOf (x_3.getD (ixO x_3 (x_5.getD x_17.toNat FK.stop.zero).order (0 : Int)).toNat FK.order.zero) (x_5.getD x_17.toNat
  FK.stop.zero).drop).lo (siteOf (x_3.getD (ixO x_3 (x_5.getD x_17.toNat FK.stop.zero).order (0 : Int)).toNat FK.order.zero) (x_5.getD x_17.toNat FK.stop.zero).drop).hi) (wrap (x_15 + (mtime (some x) x_14 (siteOf (x_3.getD (ixO x_3 (x_5.getD
  x_17.toNat FK.stop.zero).order (0 : Int)).toNat FK.order.zero) (x_5.getD x_17.toNat FK.stop.zero).drop).pl).fst))).fst)) = !false → (15 : Int) = checkedE x x_2 x_3 x_5 x_7)) ∧ ((!decide ((x_7.getD x_17.toNat FK.visit.zero).arrive = wrap
  (x_15 + (mtime (some x) x_14 (siteOf (x_3.getD (ixO x_3 (x_5.getD x_17.toNat FK.stop.zero).order (0 : Int)).toNat FK.order.zero) (x_5.getD x_17.toNat FK.stop.zero).drop).pl).fst))) = !false → (15 : Int) = checkedE x x_2 x_3 x_5 x_7)) ∧
  ((!(begin_ (Win.mk (siteOf (x_3.getD (ixO x_3 (x_5.getD x_17.toNat FK.stop.zero).order (0 : Int)).toNat FK.order.zero) (x_5.getD x_17.toNat FK.stop.zero).drop).lo (siteOf (x_3.getD (ixO x_3 (x_5.getD x_17.toNat FK.stop.zero).order (0 :
  Int)).toNat FK.order.zero) (x_5.getD x_17.toNat FK.stop.zero).drop).hi) (wrap (x_15 + (mtime (some x) x_14 (siteOf (x_3.getD (ixO x_3 (x_5.getD x_17.toNat FK.stop.zero).order (0 : Int)).toNat FK.order.zero) (x_5.getD x_17.toNat
  FK.stop.zero).drop).pl).fst))).snd) = !false → (15 : Int) = checkedE x x_2 x_3 x_5 x_7))) ∧ ((!decide ((x_7.getD x_17.toNat FK.visit.zero).load = wrap (x_16 - (x_3.getD (ixO x_3 (x_5.getD x_17.toNat FK.stop.zero).order (0 : Int)).toNat
  FK.order.zero).size))) = !false → (14 : Int) = checkedE x x_2 x_3 x_5 x_7)) ∧ ((x_5.getD x_17.toNat FK.stop.zero).drop = false → ((0 : Int) ≤ ixO x_3 (x_5.getD x_17.toNat FK.stop.zero).order (0 : Int) ∧ ixO x_3 (x_5.getD x_17.toNat
  FK.stop.zero).order (0 : Int) < (↑x_3.length : Int)) ∧ (ixO x_3 (x_5.getD x_17.toNat FK.stop.zero).order (0 : Int)).toNat < x_3.length ∧ ((0 : Int) ≤ x_17 ∧ x_17 < (↑x_7.length : Int)) ∧ x_17.toNat < x_7.length ∧ ((!decide ((x_7.getD
  x_17.toNat FK.visit.zero).load = wrap (x_16 + (x_3.getD (ixO x_3 (x_5.getD x_17.toNat FK.stop.zero).order (0 : Int)).toNat FK.order.zero).size))) = false → (decide (wrap (x_16 + (x_3.getD (ixO x_3 (x_5.getD x_17.toNat FK.stop.zero).order (0
  : Int)).toNat FK.order.zero).size) > x_2.room) = true → (14 : Int) = checkedE x x_2 x_3 x_5 x_7) ∧ (decide (wrap (x_16 + (x_3.getD (ixO x_3 (x_5.getD x_17.toNat FK.stop.zero).order (0 : Int)).toNat FK.order.zero).size) > x_2.room) = false →
  ((0 : Int) ≤ ixO x_3 (x_5.getD x_17.toNat FK.stop.zero).order (0 : Int) ∧ ixO x_3 (x_5.getD x_17.toNat FK.stop.zero).order (0 : Int) < (↑x_3.length : Int)) ∧ (ixO x_3 (x_5.getD x_17.toNat FK.stop.zero).order (0 : Int)).toNat < x_3.length ∧
  ((0 : Int) ≤ x_17 ∧ x_17 < (↑x_5.length : Int)) ∧ x_17.toNat < x_5.length ∧ MapOk x ∧ ((!(begin_ (Win.mk (siteOf (x_3.getD (ixO x_3 (x_5.getD x_17.toNat FK.stop.zero).order (0 : Int)).toNat FK.order.zero) (x_5.getD x_17.toNat
  FK.stop.zero).drop).lo (siteOf (x_3.getD (ixO x_3 (x_5.getD x_17.toNat FK.stop.zero).order (0 : Int)).toNat FK.order.zero) (x_5.getD x_17.toNat FK.stop.zero).drop).hi) (wrap (x_15 + (mtime (some x) x_14 (siteOf (x_3.getD (ixO x_3 (x_5.getD
  x_17.toNat FK.stop.zero).order (0 : Int)).toNat FK.order.zero) (x_5.getD x_17.toNat FK.stop.zero).drop).pl).fst))).snd) = false → ((0 : Int) ≤ x_17 ∧ x_17 < (↑x_7.length : Int)) ∧ x_17.toNat < x_7.length ∧ ((!decide ((x_7.getD x_17.toNat
  FK.visit.zero).arrive = wrap (x_15 + (mtime (some x) x_14 (siteOf (x_3.getD (ixO x_3 (x_5.getD x_17.toNat FK.stop.zero).order (0 : Int)).toNat FK.order.zero) (x_5.getD x_17.toNat FK.stop.zero).drop).pl).fst))) = false → ((0 : Int) ≤ x_17 ∧
  x_17 < (↑x_7.length : Int)) ∧ x_17.toNat < x_7.length ∧ ((!decide ((x_7.getD x_17.toNat FK.visit.zero).start = (begin_ (Win.mk (siteOf (x_3.getD (ixO x_3 (x_5.getD x_17.toNat FK.stop.zero).order (0 : Int)).toNat FK.order.zero) (x_5.getD
  x_17.toNat FK.stop.zero).drop).lo (siteOf (x_3.getD (ixO x_3 (x_5.getD x_17.toNat FK.stop.zero).order (0 : Int)).toNat FK.order.zero) (x_5.getD x_17.toNat FK.stop.zero).drop).hi) (wrap (x_15 + (mtime (some x) x_14 (siteOf (x_3.getD (ixO x_3
  (x_5.getD x_17.toNat FK.stop.zero).order (0 : Int)).toNat FK.order.zero) (x_5.getD x_17.toNat FK.stop.zero).drop).pl).fst))).fst)) = false → ((0 : Int) ≤ x_17 ∧ x_17 < (↑x_7.length : Int)) ∧ x_17.toNat < x_7.length ∧ ((!decide ((x_7.getD
  x_17.toNat FK.visit.zero).leave = wrap ((begin_ (Win.mk (siteOf (x_3.getD (ixO x_3 (x_5.getD x_17.toNat FK.stop.zero).order (0 : Int)).toNat FK.order.zero) (x_5.getD x_17.toNat FK.stop.zero).drop).lo (siteOf (x_3.getD (ixO x_3 (x_5.getD
  x_17.toNat FK.stop.zero).order (0 : Int)).toNat FK.order.zero) (x_5.getD x_17.toNat FK.stop.zero).drop).hi) (wrap (x_15 + (mtime (some x) x_14 (siteOf (x_3.getD (ixO x_3 (x_5.getD x_17.toNat FK.stop.zero).order (0 : Int)).toNat
  FK.order.zero) (x_5.getD x_17.toNat FK.stop.zero).drop).pl).fst))).fst + (siteOf (x_3.getD (ixO x_3 (x_5.getD x_17.toNat FK.stop.zero).order (0 : Int)).toNat FK.order.zero) (x_5.getD x_17.toNat FK.stop.zero).drop).sv))) = false → (decide
  (wrap ((begin_ (Win.mk (siteOf (x_3.getD (ixO x_3 (x_5.getD x_17.toNat FK.stop.zero).order (0 : Int)).toNat FK.order.zero) (x_5.getD x_17.toNat FK.stop.zero).drop).lo (siteOf (x_3.getD (ixO x_3 (x_5.getD x_17.toNat FK.stop.zero).order (0 :
  Int)).toNat FK.order.zero) (x_5.getD x_17.toNat FK.stop.zero).drop).hi) (wrap (x_15 + (mtime (some x) x_14 (siteOf (x_3.getD (ixO x_3 (x_5.getD x_17.toNat FK.stop.zero).order (0 : Int)).toNat FK.order.zero) (x_5.getD x_17.toNat
  FK.stop.zero).drop).pl).fst))).fst + (siteOf (x_3.getD (ixO x_3 (x_5.getD x_17.toNat FK.stop.zero).order (0 : Int)).toNat FK.order.zero) (x_5.getD x_17.toNat FK.stop.zero).drop).sv) > x_2.hi) = true → (15 : Int) = checkedE x x_2 x_3 x_5
  x_7) ∧ (decide (wrap ((begin_ (Win.mk (siteOf (x_3.getD (ixO x_3 (x_5.getD x_17.toNat FK.stop.zero).order (0 : Int)).toNat FK.order.zero) (x_5.getD x_17.toNat FK.stop.zero).drop).lo (siteOf (x_3.getD (ixO x_3 (x_5.getD x_17.toNat
  FK.stop.zero).order (0 : Int)).toNat FK.order.zero) (x_5.getD x_17.toNat FK.stop.zero).drop).hi) (wrap (x_15 + (mtime (some x) x_14 (siteOf (x_3.getD (ixO x_3 (x_5.getD x_17.toNat FK.stop.zero).order (0 : Int)).toNat FK.order.zero)
  (x_5.getD x_17.toNat FK.stop.zero).drop).pl).fst))).fst + (siteOf (x_3.getD (ixO x_3 (x_5.getD x_17.toNat FK.stop.zero).order (0 : Int)).toNat FK.order.zero) (x_5.getD x_17.toNat FK.stop.zero).drop).sv) > x_2.hi) = false → ((0 : Int) ≤ x_17
  ∧ x_17 < (↑x_7.length : Int)) ∧ x_17.toNat < x_7.length ∧ (((siteOf (x_3.getD (ixO x_3 (x_5.getD x_17.toNat FK.stop.zero).order (0 : Int)).toNat FK.order.zero) (x_5.getD x_17.toNat FK.stop.zero).drop).pl = (siteOf (x_3.getD (ixO x_3
  (x_5.getD x_17.toNat FK.stop.zero).order (0 : Int)).toNat FK.order.zero) (x_5.getD x_17.toNat FK.stop.zero).drop).pl ∧ (x_7.getD x_17.toNat FK.visit.zero).leave = (x_7.getD x_17.toNat FK.visit.zero).leave ∧ wrap (x_16 + (x_3.getD (ixO x_3
  (x_5.getD x_17.toNat FK.stop.zero).order (0 : Int)).toNat FK.order.zero).size) = wrap (x_16 + (x_3.getD (ixO x_3 (x_5.getD x_17.toNat FK.stop.zero).order (0 : Int)).toNat FK.order.zero).size) ∧ wrap (x_17 + (1 : Int)) = wrap (x_17 + (1 :
  Int))) ∧ (x.n = x.n ∧ x_2.id = x_2.id ∧ x_2.room = x_2.room ∧ x_2.home = x_2.home ∧ x_2.lo = x_2.lo ∧ x_2.hi = x_2.hi ∧ x_2.retired = x_2.retired) ∧ x.l = x.l ∧ x_7 = x_7 ∧ x_5 = x_5 ∧ x_3 = x_3) ∧ inv (siteOf (x_3.getD (ixO x_3 (x_5.getD
  x_17.toNat FK.stop.zero).order (0 : Int)).toNat FK.order.zero) (x_5.getD x_17.toNat FK.stop.zero).drop).pl (x_7.getD x_17.toNat FK.visit.zero).leave (wrap (x_16 + (x_3.getD (ixO x_3 (x_5.getD x_17.toNat FK.stop.zero).order (0 : Int)).toNat
  FK.order.zero).size)) (wrap (x_17 + (1 : Int))) ∧ μ (siteOf (x_3.getD (ixO x_3 (x_5.getD x_17.toNat FK.stop.zero).order (0 : Int)).toNat FK.order.zero) (x_5.getD x_17.toNat FK.stop.zero).drop).pl (x_7.getD x_17.toNat FK.visit.zero).leave
  (wrap (x_16 + (x_3.getD (ixO x_3 (x_5.getD x_17.toNat FK.stop.zero).order (0 : Int)).toNat FK.order.zero).size)) (wrap (x_17 + (1 : Int))) < μ x_14 x_15 x_16 x_17)) ∧ ((!decide ((x_7.getD x_17.toNat FK.visit.zero).leave = wrap ((begin_
  (Win.mk (siteOf (x_3.getD (ixO x_3 (x_5.getD x_17.toNat FK.stop.zero).order (0 : Int)).toNat FK.order.zero) (x_5.getD x_17.toNat FK.stop.zero).drop).lo (siteOf (x_3.getD (ixO x_3 (x_5.getD x_17.toNat FK.stop.zero).order (0 : Int)).toNat
  FK.order.zero) (x_5.getD x_17.toNat FK.stop.zero).drop).hi) (wrap (x_15 + (mtime (some x) x_14 (siteOf (x_3.getD (ixO x_3 (x_5.getD x_17.toNat FK.stop.zero).order (0 : Int)).toNat FK.order.zero) (x_5.getD x_17.toNat
  FK.stop.zero).drop).pl).fst))).fst + (siteOf (x_3.getD (ixO x_3 (x_5.getD x_17.toNat FK.stop.zero).order (0 : Int)).toNat FK.order.zero) (x_5.getD x_17.toNat FK.stop.zero).drop).sv))) = !false → (15 : Int) = checkedE x x_2 x_3 x_5 x_7)) ∧
  ((!decide ((x_7.getD x_17.toNat FK.visit.zero).start = (begin_ (Win.mk (siteOf (x_3.getD (ixO x_3 (x_5.getD x_17.toNat FK.stop.zero).order (0 : Int)).toNat FK.order.zero) (x_5.getD x_17.toNat FK.stop.zero).drop).lo (siteOf (x_3.getD (ixO
  x_3 (x_5.getD x_17.toNat FK.stop.zero).order (0 : Int)).toNat FK.order.zero) (x_5.getD x_17.toNat FK.stop.zero).drop).hi) (wrap (x_15 + (mtime (some x) x_14 (siteOf (x_3.getD (ixO x_3 (x_5.getD x_17.toNat FK.stop.zero).order (0 :
  Int)).toNat FK.order.zero) (x_5.getD x_17.toNat FK.stop.zero).drop).pl).fst))).fst)) = !false → (15 : Int) = checkedE x x_2 x_3 x_5 x_7)) ∧ ((!decide ((x_7.getD x_17.toNat FK.visit.zero).arrive = wrap (x_15 + (mtime (some x) x_14 (siteOf
  (x_3.getD (ixO x_3 (x_5.getD x_17.toNat FK.stop.zero).order (0 : Int)).toNat FK.order.zero) (x_5.getD x_17.toNat FK.stop.zero).drop).pl).fst))) = !false → (15 : Int) = checkedE x x_2 x_3 x_5 x_7)) ∧ ((!(begin_ (Win.mk (siteOf (x_3.getD (ixO
  x_3 (x_5.getD x_17.toNat FK.stop.zero).order (0 : Int)).toNat FK.order.zero) (x_5.getD x_17.toNat FK.stop.zero).drop).lo (siteOf (x_3.getD (ixO x_3 (x_5.getD x_17.toNat FK.stop.zero).order (0 : Int)).toNat FK.order.zero) (x_5.getD
  x_17.toNat FK.stop.zero).drop).hi) (wrap (x_15 + (mtime (some x) x_14 (siteOf (x_3.getD (ixO x_3 (x_5.getD x_17.toNat FK.stop.zero).order (0 : Int)).toNat FK.order.zero) (x_5.getD x_17.toNat FK.stop.zero).drop).pl).fst))).snd) = !false →
  (15 : Int) = checkedE x x_2 x_3 x_5 x_7))) ∧ ((!decide ((x_7.getD x_17.toNat FK.visit.zero).load = wrap (x_16 + (x_3.getD (ixO x_3 (x_5.getD x_17.toNat FK.stop.zero).order (0 : Int)).toNat FK.order.zero).size))) = !false → (14 : Int) =
  checkedE x x_2 x_3 x_5 x_7))))) ∧ (decide (x_17 < (↑x_7.length : Int)) = false → (decide (x_16 > (0 : Int)) = true → (18 : Int) = checkedE x x_2 x_3 x_5 x_7) ∧ (decide (x_16 > (0 : Int)) = false → (0 : Int) = checkedE x x_2 x_3 x_5 x_7))))
theorem rOne_told (hc : CsOk Try.prog rOne_cs) (h : rOne_vc) : Told Try.prog 57 rOne_con := told (A := rOne_la) tabOk mixed hc Try.func57 (by kernel_rfl) (by kernel_rfl) h
def ccheck_vc : Prop :=
  (∀ (x : List Driver), LenOk x.length → ∀ (x_2 : List Order), LenOk x_2.length → ∀ (x_4 : List Route), (LenOk x_4.length ∧ ∀ (r : Route), List.Mem r x_4 → LenOk r.stops.length) → ∀ (x_6 : List (List Visit)), (LenOk x_6.length ∧ ∀ (r : List
  Visit), List.Mem r x_6 → LenOk r.length) → (∀ (x : MapD), none = some x → MapOk x) → (∀ (x : MapD), none = some x → MapOk x) ∧ ((!wellP none x x_2 x_4) = true → (0 : Int) = (checkP none x x_2 x_4 x_6).spot ∧ (1 : Int) = (checkP none x x_2
  x_4 x_6).why) ∧ ((!wellP none x x_2 x_4) = false → ((!decide ((↑x_6.length : Int) = (↑x_4.length : Int))) = true → (0 : Int) = (checkP none x x_2 x_4 x_6).spot ∧ (4 : Int) = (checkP none x x_2 x_4 x_6).why) ∧ ((!decide ((↑x_6.length : Int)
  = (↑x_4.length : Int))) = false → ∃ (inv : Int → Prop), ∃ (μ : Int → Nat), ((((↑x_4.length : Int) = (↑x_4.length : Int) ∧ (0 : Int) = (0 : Int)) ∧ ((0 : Int) = (0 : Int) ∧ (0 : Int) = (0 : Int)) ∧ x_4 = x_4 ∧ x_6 = x_6 ∧ x_2 = x_2 ∧ x = x)
  ∧ inv (0 : Int)) ∧ ∀ (x_11 : Int), inv x_11 → (decide (x_11 < (↑x_4.length : Int)) = true → ((0 : Int) ≤ x_11 ∧ x_11 < (↑x_4.length : Int)) ∧ x_11.toNat < x_4.length ∧ ((findD (x_4.getD x_11.toNat (Route.mk (0 : Int) (0 : Int) [])).driver
  x).isSome = true → ((0 : Int) ≤ x_11 ∧ x_11 < (↑x_6.length : Int)) ∧ x_11.toNat < x_6.length ∧ Bad (nat_lit 9) Oper (Oper.mk (some (nat_lit 53)) (Op.call (Call.mk (Callee.value (Operand.func (nat_lit 55))) (Array.mk [Operand.tmp (nat_lit
  44), Operand.tmp (nat_lit 45), Operand.tmp (nat_lit 46), Operand.tmp (nat_lit 48), Operand.tmp (nat_lit 52)]) (Array.mk [nat_lit 22, nat_lit 33, nat_lit 37, nat_lit 38, nat_lit 76]))) (nat_lit 23) "cert.go:126" (Array.mk [Edge.mk (nat_lit
  0) Ground.data, Edge.mk (nat_lit 1) Ground.data, Edge.mk (nat_lit 2) Ground.data, Edge.mk (nat_lit 4) Ground.data, Edge.mk (nat_lit 8) Ground.data]) none)) ∧ ((findD (x_4.getD x_11.toNat (Route.mk (0 : Int) (0 : Int) [])).driver x).isSome =
  false → ((!decide ((8 : Int) = (0 : Int))) = true → x_11 = (checkP none x x_2 x_4 x_6).spot ∧ (8 : Int) = (checkP none x x_2 x_4 x_6).why) ∧ ((!decide ((8 : Int) = (0 : Int))) = false → (((↑x_4.length : Int) = (↑x_4.length : Int) ∧ wrap
  (x_11 + (1 : Int)) = wrap (x_11 + (1 : Int))) ∧ ((0 : Int) = (0 : Int) ∧ (0 : Int) = (0 : Int)) ∧ x_4 = x_4 ∧ x_6 = x_6 ∧ x_2 = x_2 ∧ x = x) ∧ inv (wrap (x_11 + (1 : Int))) ∧ μ (wrap (x_11 + (1 : Int))) < μ x_11))) ∧ (decide (x_11 <
  (↑x_4.length : Int)) = false → (0 : Int) = (checkP none x x_2 x_4 x_6).spot ∧ (0 : Int) = (checkP none x x_2 x_4 x_6).why)))) ∧ ∀ (x : MapD), LenOk x.l.length → ∀ (x_2 : List Driver), LenOk x_2.length → ∀ (x_4 : List Order), LenOk
  x_4.length → ∀ (x_6 : List Route), (LenOk x_6.length ∧ ∀ (r : Route), List.Mem r x_6 → LenOk r.stops.length) → ∀ (x_8 : List (List Visit)), (LenOk x_8.length ∧ ∀ (r : List Visit), List.Mem r x_8 → LenOk r.length) → (∀ (x_10 : MapD), some x
  = some x_10 → MapOk x_10) → (∀ (x_11 : MapD), some x = some x_11 → MapOk x_11) ∧ ((!wellP (some x) x_2 x_4 x_6) = true → (0 : Int) = (checkP (some x) x_2 x_4 x_6 x_8).spot ∧ (1 : Int) = (checkP (some x) x_2 x_4 x_6 x_8).why) ∧ ((!wellP
  (some x) x_2 x_4 x_6) = false → ((!decide ((↑x_8.length : Int) = (↑x_6.length : Int))) = true → (0 : Int) = (checkP (some x) x_2 x_4 x_6 x_8).spot ∧ (4 : Int) = (checkP (some x) x_2 x_4 x_6 x_8).why) ∧ ((!decide ((↑x_8.length : Int) =
  (↑x_6.length : Int))) = false → ∃ (inv : Int → Prop), ∃ (μ : Int → Nat), ((((↑x_6.length : Int) = (↑x_6.length : Int) ∧ (0 : Int) = (0 : Int)) ∧ (x.n = x.n ∧ (0 : Int) = (0 : Int) ∧ (0 : Int) = (0 : Int)) ∧ x.l = x.l ∧ x_6 = x_6 ∧ x_8 = x_8
  ∧ x_4 = x_4 ∧ x_2 = x_2) ∧ inv (0 : Int)) ∧ ∀ (x_13 : Int), inv x_13 → (decide (x_13 < (↑x_6.length : Int)) = true → ((0 : Int) ≤ x_13 ∧ x_13 < (↑x_6.length : Int)) ∧ x_13.toNat < x_6.length ∧ ((findD (x_6.getD x_13.toNat (Route.mk (0 :
  Int) (0 : Int) [])).driver x_2).isSome = true → ((0 : Int) ≤ x_13 ∧ x_13 < (↑x_8.length : Int)) ∧ x_13.toNat < x_8.length ∧ CheckPre x ((findD (x_6.getD x_13.toNat (Route.mk (0 : Int) (0 : Int) [])).driver x_2).getD FK.driver.zero) x_4
  (x_6.getD x_13.toNat (Route.mk (0 : Int) (0 : Int) [])).stops ∧ ((!decide (checkedE x ((findD (x_6.getD x_13.toNat (Route.mk (0 : Int) (0 : Int) [])).driver x_2).getD FK.driver.zero) x_4 (x_6.getD x_13.toNat (Route.mk (0 : Int) (0 : Int)
  [])).stops (x_8.getD x_13.toNat []) = (0 : Int))) = true → x_13 = (checkP (some x) x_2 x_4 x_6 x_8).spot ∧ checkedE x ((findD (x_6.getD x_13.toNat (Route.mk (0 : Int) (0 : Int) [])).driver x_2).getD FK.driver.zero) x_4 (x_6.getD x_13.toNat
  (Route.mk (0 : Int) (0 : Int) [])).stops (x_8.getD x_13.toNat []) = (checkP (some x) x_2 x_4 x_6 x_8).why) ∧ ((!decide (checkedE x ((findD (x_6.getD x_13.toNat (Route.mk (0 : Int) (0 : Int) [])).driver x_2).getD FK.driver.zero) x_4
  (x_6.getD x_13.toNat (Route.mk (0 : Int) (0 : Int) [])).stops (x_8.getD x_13.toNat []) = (0 : Int))) = false → (((↑x_6.length : Int) = (↑x_6.length : Int) ∧ wrap (x_13 + (1 : Int)) = wrap (x_13 + (1 : Int))) ∧ (x.n = x.n ∧ (0 : Int) = (0 :
  Int) ∧ (0 : Int) = (0 : Int)) ∧ x.l = x.l ∧ x_6 = x_6 ∧ x_8 = x_8 ∧ x_4 = x_4 ∧ x_2 = x_2) ∧ inv (wrap (x_13 + (1 : Int))) ∧ μ (wrap (x_13 + (1 : Int))) < μ x_13)) ∧ ((findD (x_6.getD x_13.toNat (Route.mk (0 : Int) (0 : Int) [])).driver
  x_2).isSome = false → ((!decide ((8 : Int) = (0 : Int))) = true → x_13 = (checkP (some x) x_2 x_4 x_6 x_8).spot ∧ (8 : Int) = (checkP (some x) x_2 x_4 x_6 x_8).why) ∧ ((!decide ((8 : Int) = (0 : Int))) = false → (((↑x_6.length : Int) =
  (↑x_6.length : Int) ∧ wrap (x_13 + (1 : Int)) = wrap (x_13 + (1 : Int))) ∧ (x.n = x.n ∧ (0 : Int) = (0 : Int) ∧ (0 : Int) = (0 : Int)) ∧ x.l = x.l ∧ x_6 = x_6 ∧ x_8 = x_8 ∧ x_4 = x_4 ∧ x_2 = x_2) ∧ inv (wrap (x_13 + (1 : Int))) ∧ μ (wrap
  (x_13 + (1 : Int))) < μ x_13))) ∧ (decide (x_13 < (↑x_6.length : Int)) = false → (0 : Int) = (checkP (some x) x_2 x_4 x_6 x_8).spot ∧ (0 : Int) = (checkP (some x) x_2 x_4 x_6 x_8).why)))
theorem ccheck_told (hc : CsOk Try.prog ccheck_cs) (h : ccheck_vc) : Told Try.prog 33 ccheck_con := told (A := ccheck_la) tabOk mixed hc Try.func33 (by kernel_rfl) (by kernel_rfl) h
def rCcheck_vc : Prop :=
  (∀ (x : List Driver), LenOk x.length → ∀ (x_2 : List Order), LenOk x_2.length → ∀ (x_4 : List Route), (LenOk x_4.length ∧ ∀ (r : Route), List.Mem r x_4 → LenOk r.stops.length) → ∀ (x_6 : List (List Visit)), (LenOk x_6.length ∧ ∀ (r : List
  Visit), List.Mem r x_6 → LenOk r.length) → (∀ (x : MapD), none = some x → MapOk x) → (∀ (x : MapD), none = some x → MapOk x) ∧ ((!wellP none x x_2 x_4) = true → (0 : Int) = (checkP none x x_2 x_4 x_6).spot ∧ (1 : Int) = (checkP none x x_2
  x_4 x_6).why) ∧ ((!wellP none x x_2 x_4) = false → ((!decide ((↑x_6.length : Int) = (↑x_4.length : Int))) = true → (0 : Int) = (checkP none x x_2 x_4 x_6).spot ∧ (4 : Int) = (checkP none x x_2 x_4 x_6).why) ∧ ((!decide ((↑x_6.length : Int)
  = (↑x_4.length : Int))) = false → ∃ (inv : Int → Prop), ∃ (μ : Int → Nat), (((0 : Int) = (0 : Int) ∧ ((0 : Int) = (0 : Int) ∧ (0 : Int) = (0 : Int)) ∧ x_6 = x_6 ∧ x_4 = x_4 ∧ x_2 = x_2 ∧ x = x) ∧ inv (0 : Int)) ∧ ∀ (x_11 : Int), inv x_11 →
  (decide (x_11 < (↑x_4.length : Int)) = true → ((0 : Int) ≤ x_11 ∧ x_11 < (↑x_4.length : Int)) ∧ x_11.toNat < x_4.length ∧ ((!(findD (x_4.getD x_11.toNat (Route.mk (0 : Int) (0 : Int) [])).driver x).isSome) = true → x_11 = (checkP none x x_2
  x_4 x_6).spot ∧ (8 : Int) = (checkP none x x_2 x_4 x_6).why) ∧ ((!(findD (x_4.getD x_11.toNat (Route.mk (0 : Int) (0 : Int) [])).driver x).isSome) = false → ((0 : Int) ≤ x_11 ∧ x_11 < (↑x_4.length : Int)) ∧ x_11.toNat < x_4.length ∧ ((0 :
  Int) ≤ x_11 ∧ x_11 < (↑x_6.length : Int)) ∧ x_11.toNat < x_6.length ∧ Bad (nat_lit 9) Oper (Oper.mk (some (nat_lit 60)) (Op.call (Call.mk (Callee.value (Operand.func (nat_lit 57))) (Array.mk [Operand.tmp (nat_lit 48), Operand.tmp (nat_lit
  49), Operand.tmp (nat_lit 50), Operand.tmp (nat_lit 55), Operand.tmp (nat_lit 59)]) (Array.mk [nat_lit 53, nat_lit 33, nat_lit 37, nat_lit 38, nat_lit 76]))) (nat_lit 23) "ref.go:256" (Array.mk [Edge.mk (nat_lit 0) Ground.data, Edge.mk
  (nat_lit 1) Ground.data, Edge.mk (nat_lit 2) Ground.data, Edge.mk (nat_lit 7) Ground.data, Edge.mk (nat_lit 11) Ground.data]) none))) ∧ (decide (x_11 < (↑x_4.length : Int)) = false → (0 : Int) = (checkP none x x_2 x_4 x_6).spot ∧ (0 : Int)
  = (checkP none x x_2 x_4 x_6).why)))) ∧ ∀ (x : MapD), LenOk x.l.length → ∀ (x_2 : List Driver), LenOk x_2.length → ∀ (x_4 : List Order), LenOk x_4.length → ∀ (x_6 : List Route), (LenOk x_6.length ∧ ∀ (r : Route), List.Mem r x_6 → LenOk
  r.stops.length) → ∀ (x_8 : List (List Visit)), (LenOk x_8.length ∧ ∀ (r : List Visit), List.Mem r x_8 → LenOk r.length) → (∀ (x_10 : MapD), some x = some x_10 → MapOk x_10) → (∀ (x_11 : MapD), some x = some x_11 → MapOk x_11) ∧ ((!wellP
  (some x) x_2 x_4 x_6) = true → (0 : Int) = (checkP (some x) x_2 x_4 x_6 x_8).spot ∧ (1 : Int) = (checkP (some x) x_2 x_4 x_6 x_8).why) ∧ ((!wellP (some x) x_2 x_4 x_6) = false → ((!decide ((↑x_8.length : Int) = (↑x_6.length : Int))) = true
  → (0 : Int) = (checkP (some x) x_2 x_4 x_6 x_8).spot ∧ (4 : Int) = (checkP (some x) x_2 x_4 x_6 x_8).why) ∧ ((!decide ((↑x_8.length : Int) = (↑x_6.length : Int))) = false → ∃ (inv : Int → Prop), ∃ (μ : Int → Nat), (((0 : Int) = (0 : Int) ∧
  (x.n = x.n ∧ (0 : Int) = (0 : Int) ∧ (0 : Int) = (0 : Int)) ∧ x.l = x.l ∧ x_8 = x_8 ∧ x_6 = x_6 ∧ x_4 = x_4 ∧ x_2 = x_2) ∧ inv (0 : Int)) ∧ ∀ (x_13 : Int), inv x_13 → (decide (x_13 < (↑x_6.length : Int)) = true → ((0 : Int) ≤ x_13 ∧ x_13 <
  (↑x_6.length : Int)) ∧ x_13.toNat < x_6.length ∧ ((!(findD (x_6.getD x_13.toNat (Route.mk (0 : Int) (0 : Int) [])).driver x_2).isSome) = true → x_13 = (checkP (some x) x_2 x_4 x_6 x_8).spot ∧ (8 : Int) = (checkP (some x) x_2 x_4 x_6
  x_8).why) ∧ ((!(findD (x_6.getD x_13.toNat (Route.mk (0 : Int) (0 : Int) [])).driver x_2).isSome) = false → ((0 : Int) ≤ x_13 ∧ x_13 < (↑x_6.length : Int)) ∧ x_13.toNat < x_6.length ∧ ((0 : Int) ≤ x_13 ∧ x_13 < (↑x_8.length : Int)) ∧
  x_13.toNat < x_8.length ∧ CheckPre x ((findD (x_6.getD x_13.toNat (Route.mk (0 : Int) (0 : Int) [])).driver x_2).getD FK.driver.zero) x_4 (x_6.getD x_13.toNat (Route.mk (0 : Int) (0 : Int) [])).stops ∧ ((!decide (checkedE x ((findD
  (x_6.getD x_13.toNat (Route.mk (0 : Int) (0 : Int) [])).driver x_2).getD FK.driver.zero) x_4 (x_6.getD x_13.toNat (Route.mk (0 : Int) (0 : Int) [])).stops (x_8.getD x_13.toNat []) = (0 : Int))) = true → x_13 = (checkP (some x) x_2 x_4 x_6
  x_8).spot ∧ checkedE x ((findD (x_6.getD x_13.toNat (Route.mk (0 : Int) (0 : Int) [])).driver x_2).getD FK.driver.zero) x_4 (x_6.getD x_13.toNat (Route.mk (0 : Int) (0 : Int) [])).stops (x_8.getD x_13.toNat []) = (checkP (some x) x_2 x_4
  x_6 x_8).why) ∧ ((!decide (checkedE x ((findD (x_6.getD x_13.toNat (Route.mk (0 : Int) (0 : Int) [])).driver x_2).getD FK.driver.zero) x_4 (x_6.getD x_13.toNat (Route.mk (0 : Int) (0 : Int) [])).stops (x_8.getD x_13.toNat []) = (0 : Int)))
  = false → (wrap (x_13 + (1 : Int)) = wrap (x_13 + (1 : Int)) ∧ (x.n = x.n ∧ (0 : Int) = (0 : Int) ∧ (0 : Int) = (0 : Int)) ∧ x.l = x.l ∧ x_8 = x_8 ∧ x_6 = x_6 ∧ x_4 = x_4 ∧ x_2 = x_2) ∧ inv (wrap (x_13 + (1 : Int))) ∧ μ (wrap (x_13 + (1 :
  Int))) < μ x_13))) ∧ (decide (x_13 < (↑x_6.length : Int)) = false → (0 : Int) = (checkP (some x) x_2 x_4 x_6 x_8).spot ∧ (0 : Int) = (checkP (some x) x_2 x_4 x_6 x_8).why)))
theorem rCcheck_told (hc : CsOk Try.prog rCcheck_cs) (h : rCcheck_vc) : Told Try.prog 35 rCcheck_con := told (A := rCcheck_la) tabOk mixed hc Try.func35 (by kernel_rfl) (by kernel_rfl) h
def clists_vc : Prop :=
  ∀ (x : List (List Visit)), (LenOk x.length ∧ ∀ (r : List Visit), List.Mem r x → LenOk r.length) → ∀ (x_2 : List (List Visit)), (LenOk x_2.length ∧ ∀ (r : List Visit), List.Mem r x_2 → LenOk r.length) → ((!decide ((↑x.length : Int) =
  (↑x_2.length : Int))) = true → false = same x x_2) ∧ ((!decide ((↑x.length : Int) = (↑x_2.length : Int))) = false → ∃ (inv : Int → Prop), ∃ (μ : Int → Nat), (((0 : Int) = (0 : Int) ∧ x_2 = x_2 ∧ x = x) ∧ inv (0 : Int)) ∧ ∀ (x_5 : Int), inv
  x_5 → (decide (x_5 < (↑x.length : Int)) = true → ((0 : Int) ≤ x_5 ∧ x_5 < (↑x.length : Int)) ∧ x_5.toNat < x.length ∧ ((0 : Int) ≤ x_5 ∧ x_5 < (↑x_2.length : Int)) ∧ x_5.toNat < x_2.length ∧ ((!same (x.getD x_5.toNat []) (x_2.getD x_5.toNat
  [])) = true → false = same x x_2) ∧ ((!same (x.getD x_5.toNat []) (x_2.getD x_5.toNat [])) = false → (wrap (x_5 + (1 : Int)) = wrap (x_5 + (1 : Int)) ∧ x_2 = x_2 ∧ x = x) ∧ inv (wrap (x_5 + (1 : Int))) ∧ μ (wrap (x_5 + (1 : Int))) < μ x_5))
  ∧ (decide (x_5 < (↑x.length : Int)) = false → true = same x x_2))
theorem clists_told (hc : CsOk Try.prog clists_cs) (h : clists_vc) : Told Try.prog 32 clists_con := told (A := clists_la) tabOk mixed hc Try.func32 (by kernel_rfl) (by kernel_rfl) h
def ccopied_vc : Prop :=
  ∀ (x : List (List Visit)), (LenOk x.length ∧ ∀ (r : List Visit), List.Mem r x → LenOk r.length) → (x.length * (24 : Nat) ≤ (140737488351232 : Nat) ∧ ∀ (l : List Visit), List.Mem l x → l.length * (48 : Nat) ≤ (140737488351232 : Nat)) → ∃
  (inv : List (List Visit) → Int → Prop), ∃ (μ : List (List Visit) → Int → Nat), (((0 : Int) = (0 : Int) ∧ nilOf (List Visit) = nilOf (List Visit) ∧ x = x) ∧ inv [] (0 : Int)) ∧ ∀ (x_3 : List (List Visit)) (x_4 : Int), inv x_3 x_4 → (decide
  (x_4 < (↑x.length : Int)) = true → ((0 : Int) ≤ x_4 ∧ x_4 < (↑x.length : Int)) ∧ x_4.toNat < x.length ∧ (True ∧ ((0 : Nat) + (x.getD x_4.toNat []).length) * ((8 : Nat) * (6 : Nat)) ≤ (140737488355328 : Nat)) ∧ (x_3.length + [[] ++ x.getD
  x_4.toNat []].length) * (K.rows FK.visit).byt ≤ (140737488355328 : Nat) ∧ (wrap (x_4 + (1 : Int)) = wrap (x_4 + (1 : Int)) ∧ x_3 ++ [[] ++ x.getD x_4.toNat []] = x_3 ++ [[] ++ x.getD x_4.toNat []] ∧ x = x) ∧ inv (x_3 ++ [[] ++ x.getD
  x_4.toNat []]) (wrap (x_4 + (1 : Int))) ∧ μ (x_3 ++ [[] ++ x.getD x_4.toNat []]) (wrap (x_4 + (1 : Int))) < μ x_3 x_4) ∧ (decide (x_4 < (↑x.length : Int)) = false → x_3 = x)
theorem ccopied_told (hc : CsOk Try.prog ccopied_cs) (h : ccopied_vc) : Told Try.prog 31 ccopied_con := told (A := ccopied_la) tabOk mixed hc Try.func31 (by kernel_rfl) (by kernel_rfl) h
end Go.Eng

/- How late stops may be begun; an order put between stops: in plain words; what the functions tell. -/
set_option linter.unusedVariables false
set_option linter.unusedSimpArgs false
namespace Go.Eng
open Go Go.Proofs
def untilOf (m : MapD) (d : Driver) (os : List Order) (s : Stop) : List Stop → List Int → Int
  | n :: _, t :: _ => min d.hi (t - tm m (stopSite os s).pl (stopSite os n).pl)
  | _, _ => d.hi
def latest (m : MapD) (d : Driver) (os : List Order) : List Stop → List Int
  | [] => []
  | s :: l => (last_ (stopSite os s).win (stopSite os s).sv (untilOf m d os s l (latest m d os l))).1 :: latest m d os l
def latR (m : Option MapD) (d : Driver) (os : List Order) (ss : List Stop) : List Int := match m with
  | none => []
  | some x => if good (fauR (drive m d os ss)) then latest x d os ss else []
def putOk (ss : List Stop) (i j : Int) : Bool := decide (0 ≤ i) && decide (i ≤ j) && decide (j ≤ ss.length)
def putS (ss : List Stop) (id i j : Int) : List Stop := if putOk ss i j then ss.take i.toNat ++ [⟨id, false⟩] ++ (ss.drop i.toNat).take (j.toNat - i.toNat) ++ [⟨id, true⟩] ++ ss.drop j.toNat else []
def fits (m : Option MapD) (d : Driver) (os : List Order) (ss : List Stop) (o : Order) (i j : Int) : Bool :=
  putOk ss i j && good (fauR (drive m d os ss)) && (findO os o.id).isNone && good (fauR (drive m d (os ++ [o]) (putS ss o.id i j)))

/-! ### Contracts -/
def sput_con : Con := ⟨[.c (.a (.f .stop)), .c .i, .c .i, .c .i], fun ss id i j => ⟨some (ss.length * 16 ≤ 140737488351232), [⟨none, [.c (.o .stop 36 (putS ss id i j))]⟩]⟩⟩
def sput_cs : Cons := []
def sput_la : List (Nat × LA) := []
end Go.Eng

/- The conditions of functions, as print.. of the engine told them. -/
set_option linter.unusedVariables false
namespace Go.Eng
open Go Go.Proofs
def sput_vc : Prop :=
  ∀ (x : List Stop), LenOk x.length → ∀ (x_2 x_3 x_4 : Int), x.length * (16 : Nat) ≤ (140737488351232 : Nat) → (decide (x_3 < (0 : Int)) = false → (decide (x_4 < x_3) = false → (decide (x_4 > (↑x.length : Int)) = true → putS x x_2 x_3 x_4 =
  nilOf Stop) ∧ (decide (x_4 > (↑x.length : Int)) = false → ((0 : Int) ≤ (0 : Int) ∧ (0 : Int) ≤ wrap ((↑x.length : Int) + (2 : Int)) ∧ wrap ((↑x.length : Int) + (2 : Int)) * ((8 : Int) * (↑(2 : Nat) : Int)) ≤ (281474976710656 : Int)) ∧ ((0 :
  Int) ≤ (0 : Int) ∧ (0 : Int) ≤ x_3 ∧ x_3 ≤ (↑x.length : Int)) ∧ ((Int.toNat (0 : Int) + (x_3.toNat - Int.toNat (0 : Int))).le x.length ∧ ((List.replicate (Int.toNat (0 : Int)) FK.stop.zero).length + (part x (Int.toNat (0 : Int)) (x_3.toNat
  - Int.toNat (0 : Int))).length) * ((8 : Nat) * (2 : Nat)) ≤ (140737488355328 : Nat)) ∧ (True ∧ ((List.replicate (Int.toNat (0 : Int)) FK.stop.zero ++ part x (Int.toNat (0 : Int)) (x_3.toNat - Int.toNat (0 : Int))).length + [Stop.mk x_2
  false].length) * ((8 : Nat) * (2 : Nat)) ≤ (140737488355328 : Nat)) ∧ ((0 : Int) ≤ x_3 ∧ x_3 ≤ x_4 ∧ x_4 ≤ (↑x.length : Int)) ∧ ((x_3.toNat + (x_4.toNat - x_3.toNat)).le x.length ∧ ((List.replicate (Int.toNat (0 : Int)) FK.stop.zero ++ part
  x (Int.toNat (0 : Int)) (x_3.toNat - Int.toNat (0 : Int)) ++ [Stop.mk x_2 false]).length + (part x x_3.toNat (x_4.toNat - x_3.toNat)).length) * ((8 : Nat) * (2 : Nat)) ≤ (140737488355328 : Nat)) ∧ (True ∧ ((List.replicate (Int.toNat (0 :
  Int)) FK.stop.zero ++ part x (Int.toNat (0 : Int)) (x_3.toNat - Int.toNat (0 : Int)) ++ [Stop.mk x_2 false] ++ part x x_3.toNat (x_4.toNat - x_3.toNat)).length + [Stop.mk x_2 true].length) * ((8 : Nat) * (2 : Nat)) ≤ (140737488355328 :
  Nat)) ∧ ((0 : Int) ≤ x_4 ∧ x_4 ≤ (↑x.length : Int) ∧ (↑x.length : Int) ≤ (↑x.length : Int)) ∧ ((x_4.toNat + ((↑x.length : Int).toNat - x_4.toNat)).le x.length ∧ ((List.replicate (Int.toNat (0 : Int)) FK.stop.zero ++ part x (Int.toNat (0 :
  Int)) (x_3.toNat - Int.toNat (0 : Int)) ++ [Stop.mk x_2 false] ++ part x x_3.toNat (x_4.toNat - x_3.toNat) ++ [Stop.mk x_2 true]).length + (part x x_4.toNat ((↑x.length : Int).toNat - x_4.toNat)).length) * ((8 : Nat) * (2 : Nat)) ≤
  (140737488355328 : Nat)) ∧ List.replicate (Int.toNat (0 : Int)) FK.stop.zero ++ part x (Int.toNat (0 : Int)) (x_3.toNat - Int.toNat (0 : Int)) ++ [Stop.mk x_2 false] ++ part x x_3.toNat (x_4.toNat - x_3.toNat) ++ [Stop.mk x_2 true] ++ part
  x x_4.toNat ((↑x.length : Int).toNat - x_4.toNat) = putS x x_2 x_3 x_4)) ∧ (decide (x_4 < x_3) = !false → putS x x_2 x_3 x_4 = nilOf Stop)) ∧ (decide (x_3 < (0 : Int)) = !false → putS x x_2 x_3 x_4 = nilOf Stop)
theorem sput_told (hc : CsOk Try.prog sput_cs) (h : sput_vc) : Told Try.prog 52 sput_con := told (A := sput_la) tabOk mixed hc Try.func52 (by kernel_rfl) (by kernel_rfl) h
end Go.Eng

/- How late stops may be begun; an order put between stops: it is so. -/
set_option linter.unusedVariables false
set_option linter.unusedSimpArgs false
namespace Go.Eng
open Go Go.Proofs

theorem drive_none_bad {d : Driver} {os : List Order} {ss : List Stop} : good (fauR (drive none d os ss)) = false := rfl
theorem putOk_iff {ss : List Stop} {i j : Int} : putOk ss i j = true ↔ 0 ≤ i ∧ i ≤ j ∧ j ≤ ss.length := by
  simp [putOk, and_assoc]
theorem putS_in {ss : List Stop} {id i j : Int} (h : 0 ≤ i ∧ i ≤ j ∧ j ≤ ss.length) : putS ss id i j = ss.take i.toNat ++ [⟨id, false⟩] ++ (ss.drop i.toNat).take (j.toNat - i.toNat) ++ [⟨id, true⟩] ++ ss.drop j.toNat := by
  unfold putS; rw [if_pos (putOk_iff.2 h)]
theorem putS_out {ss : List Stop} {id i j : Int} (h : ¬ (0 ≤ i ∧ i ≤ j ∧ j ≤ ss.length)) : putS ss id i j = [] := by
  unfold putS; rw [if_neg]; rw [putOk_iff]; exact h
theorem putS_length {ss : List Stop} {id i j : Int} (h : 0 ≤ i ∧ i ≤ j ∧ j ≤ ss.length) : (putS ss id i j).length = ss.length + 2 := by
  rw [putS_in h]
  simp only [List.length_append, List.length_take, List.length_drop, List.length_cons, List.length_nil]
  omega
theorem sput_ok : sput_vc := by
  unfold sput_vc
  simp only [bad_false, int0, nilOf, decide_eq_true_eq, decide_eq_false_iff_not, Bool.not_eq_true', Bool.not_eq_false', Bool.not_true, Bool.not_false, Bool.false_eq_true, Bool.true_eq_false, eq_self, true_and, and_true, false_or, or_false, false_implies, true_implies, implies_true, Int.not_lt, Int.not_le, gt_iff_lt, ge_iff_le, ne_eq]
  intro ss hl id i j hb
  have hl := hl.le
  refine ⟨fun h1 => ⟨fun h2 => ⟨fun h3 => putS_out (by omega), fun h3 => ?_⟩, fun h2 => putS_out (by omega)⟩, fun h1 => putS_out (by omega)⟩
  rw [putS_in ⟨h1, h2, h3⟩, wrap_id (by omega) (by omega)]
  simp only [part, List.length_append, List.length_take, List.length_drop, List.length_cons, List.length_nil, List.length_replicate, Int.toNat_zero, Nat.le_eq, List.replicate_zero, List.nil_append, List.drop_zero, Nat.sub_zero, Int.toNat_natCast]
  refine ⟨by omega, by omega, by omega, by omega, by omega, by omega, by omega, by omega, by omega, ?_⟩
  congr 1
  exact List.take_of_length_le (by rw [List.length_drop]; omega)
theorem sput_t : Told Try.prog 52 sput_con := sput_told csOk_nil sput_ok
/-- What is still to come. -/
def remS (ss : List Stop) (id : Int) (i j k : Nat) : List Stop :=
  if k ≤ i then (ss.drop k).take (i - k) ++ ([⟨id, false⟩] ++ ((ss.drop i).take (j - i) ++ ([⟨id, true⟩] ++ ss.drop j)))
  else if k ≤ j then (ss.drop k).take (j - k) ++ ([⟨id, true⟩] ++ ss.drop j) else ss.drop k
theorem remS_step {ss : List Stop} {id : Int} {i j k : Nat} (hij : i ≤ j) (hj : j ≤ ss.length) :
    remS ss id i j k = (if k = i then [⟨id, false⟩] else []) ++ ((if k = j then [⟨id, true⟩] else []) ++ ((if k < ss.length then [ss.getD k (FK.zero .stop)] else []) ++ remS ss id i j (k + 1))) := by
  have hd : k < ss.length → ss.drop k = ss.getD k (FK.zero .stop) :: ss.drop (k + 1) := fun h => getD_drop h
  have hd' : ¬ k < ss.length → ss.drop k = [] ∧ ss.drop (k + 1) = [] := fun h => ⟨List.drop_eq_nil_of_le (by omega), List.drop_eq_nil_of_le (by omega)⟩
  unfold remS
  have T : ∀ {p : Prop}, p → (p ↔ True) := fun h => iff_true_intro h
  have F : ∀ {p : Prop}, ¬ p → (p ↔ False) := fun h => iff_false_intro h
  by_cases h1 : k < i
  · rw [hd (by omega), show i - k = (i - (k + 1)) + 1 by omega, List.take_succ_cons]
    simp only [T (show k ≤ i by omega), F (show ¬ k = i by omega), F (show ¬ k = j by omega), T (show k + 1 ≤ i by omega), T (show k < ss.length by omega), if_true, if_false, List.nil_append, List.cons_append]
  · by_cases h2 : k = i
    · subst h2
      by_cases h3 : k = j
      · subst h3
        simp only [Nat.le_refl, F (show ¬ k + 1 ≤ k by omega), if_true, if_false, Nat.sub_self, List.take_zero, List.nil_append]
        by_cases h4 : k < ss.length
        · simp only [h4, if_true, hd h4, List.cons_append, List.nil_append]
        · simp only [h4, if_false, (hd' h4).1, (hd' h4).2]; rfl
      · simp only [Nat.le_refl, h3, F (show ¬ k + 1 ≤ k by omega), T (show k + 1 ≤ j by omega), T (show k < ss.length by omega), if_true, if_false, Nat.sub_self, List.take_zero, List.nil_append]
        rw [hd (by omega), show j - k = (j - (k + 1)) + 1 by omega, List.take_succ_cons]
        simp only [List.cons_append, List.nil_append]
    · by_cases h3 : k < j
      · simp only [F (show ¬ k ≤ i by omega), h2, F (show ¬ k = j by omega), F (show ¬ k + 1 ≤ i by omega), T (show k ≤ j by omega), T (show k + 1 ≤ j by omega), T (show k < ss.length by omega), if_true, if_false, List.nil_append]
        rw [hd (by omega), show j - k = (j - (k + 1)) + 1 by omega, List.take_succ_cons]
        simp only [List.cons_append, List.nil_append]
      · by_cases h4 : k = j
        · subst h4
          simp only [F (show ¬ k ≤ i by omega), h2, F (show ¬ k + 1 ≤ i by omega), Nat.le_refl, F (show ¬ k + 1 ≤ k by omega), if_true, if_false, Nat.sub_self, List.take_zero, List.nil_append]
          by_cases h5 : k < ss.length
          · simp only [h5, if_true, hd h5, List.cons_append, List.nil_append]
          · simp only [h5, if_false, (hd' h5).1, (hd' h5).2]; rfl
        · simp only [F (show ¬ k ≤ i by omega), h2, h4, F (show ¬ k + 1 ≤ i by omega), F (show ¬ k ≤ j by omega), F (show ¬ k + 1 ≤ j by omega), if_false, List.nil_append]
          by_cases h5 : k < ss.length
          · simp only [h5, if_true, hd h5, List.cons_append, List.nil_append]
          · simp only [h5, if_false, (hd' h5).1, (hd' h5).2]; rfl
theorem remS_zero {ss : List Stop} {id i j : Int} (h : 0 ≤ i ∧ i ≤ j ∧ j ≤ ss.length) : remS ss id i.toNat j.toNat 0 = putS ss id i j := by
  rw [putS_in h]
  unfold remS
  rw [if_pos (by omega)]
  simp
theorem remS_end {ss : List Stop} {id : Int} {i j k : Nat} (hij : i ≤ j) (hj : j ≤ ss.length) (h : ss.length < k) : remS ss id i j k = [] := by
  unfold remS
  rw [if_neg (by omega), if_neg (by omega)]
  exact List.drop_eq_nil_of_le (by omega)
theorem findO_isNone {os : List Order} {id : Int} : (findO os id).isNone = !(findO os id).isSome := by cases findO os id <;> rfl

/-! ### Latest times -/
theorem last_bound (w : Win) (s u : Int) : 0 ≤ (last_ w s u).1 ∧ (last_ w s u).1 ≤ 1000000 := by
  unfold last_
  split
  · rename_i h
    simp only [Bool.and_eq_true, decide_eq_true_eq] at h
    obtain ⟨⟨⟨h1, h2⟩, h3⟩, h4⟩ := h
    have := right_iff.1 h1
    dsimp only
    omega
  · exact ⟨by decide, by decide⟩
theorem last_ref {w : Win} {s u : Int} (h0 : 0 ≤ s) (h1 : s ≤ 1000000) (hu : -10000000 ≤ u) (hu' : u ≤ 10000000) : lastRef w s u = last_ w s u := by
  unfold lastRef last_
  rw [wrap_id (by omega) (by omega)]
  cases hr : right w with
  | false => simp
  | true =>
    have := right_iff.1 hr
    by_cases h : w.lo ≤ u - s
    · rw [if_pos (by simp; omega), if_pos (by omega), if_pos (by simp; omega)]
    · rw [if_neg (c := (true && decide (0 ≤ s) && decide (0 ≤ u) && decide (w.lo ≤ u - s)) = true) (by simp; omega)]
      split
      · rw [if_neg (by omega)]
      · rfl
theorem latest_bound {m : MapD} {d : Driver} {os : List Order} : ∀ (l : List Stop), ∀ t ∈ latest m d os l, 0 ≤ t ∧ t ≤ 1000000
  | [], t, h => by cases h
  | s :: l, t, h => by
    unfold latest at h
    rcases List.mem_cons.1 h with rfl | h
    · exact last_bound _ _ _
    · exact latest_bound l t h
theorem latest_length {m : MapD} {d : Driver} {os : List Order} : ∀ (l : List Stop), (latest m d os l).length = l.length
  | [] => rfl
  | s :: l => by simp [latest, latest_length l]
theorem rep_set {α : Type} (k : Nat) (z v : α) (L : List α) : (List.replicate (k + 1) z ++ L).set k v = List.replicate k z ++ v :: L := by
  rw [List.replicate_succ', List.append_assoc, List.set_append_right _ _ (by simp)]
  simp
theorem rep_get {α : Type} (k : Nat) (z v d : α) (L : List α) : (List.replicate k z ++ v :: L).getD k d = v := by
  simp [List.getD_eq_getElem?_getD]
def behindOf (os : List Order) : List Stop → Int
  | [] => -1
  | s :: _ => (stopSite os s).pl
end Go.Eng

/- Plans copied, stops put in and taken out, in plain words; what the functions tell. -/
set_option linter.unusedVariables false
set_option linter.unusedSimpArgs false
namespace Go.Eng
open Go Go.Proofs
/-- A list of routes that fits into memory. -/
def PlanFits (p : List Route) : Prop := p.length * 40 ≤ 140737488351232 ∧ ∀ r ∈ p, r.stops.length * 16 ≤ 140737488351232
noncomputable def sameP (a b : List Route) : Bool := @decide (a = b) (Classical.propDecidable _)
def begunP (id : Int) (p : List Route) : Bool := p.any fun r => (r.stops.take r.served.toNat).any fun s => decide (s.order = id)
def goneP (p : List Route) (ids : List Int) (id : Int) : Bool := ids.contains id && !begunP id p
def keepS (p : List Route) (ids : List Int) (ss : List Stop) : List Stop := ss.filter fun s => !goneP p ids s.order
def withoutP (p : List Route) (ids : List Int) : List Route := p.map fun r => ⟨r.driver, r.served, keepS p ids r.stops⟩
def spotOk (r : Route) (s : Spot) : Bool := decide (r.stops.length ≤ 78) && decide (r.served ≤ s.pick) && decide (s.pick ≤ s.drop) && decide (s.drop ≤ r.stops.length)
def withAt (id : Int) (s : Spot) : List Route → Option (List Route)
  | [] => none
  | r :: l => if r.driver = s.driver then (if spotOk r s then some (⟨r.driver, r.served, putS r.stops id s.pick s.drop⟩ :: l) else none) else match withAt id s l with | none => none | some l' => some (r :: l')
noncomputable def withP (p : List Route) (id : Int) (s : Spot) : Option (List Route) := if rightP p && decide (1 ≤ id) && decide (id ≤ 1000000) && (findP id p).isNone then withAt id s p else none
/-! ### Contracts -/
def kcopy_con : Con := ⟨[.c (.a .route)], fun p => ⟨some (PlanFits p), [⟨none, [.c (.od .route 40 p)]⟩]⟩⟩
def kcopy_cs : Cons := []
def kcopy_la : List (Nat × LA) := [(3, ⟨[0], [.appd 3 .route 40, .i 4]⟩)]
def pcopy_con : Con := ⟨[.c (.a .route)], fun p => ⟨some (PlanFits p), [⟨none, [.c (.od .route 40 p)]⟩]⟩⟩
def pcopy_cs : Cons := []
def pcopy_la : List (Nat × LA) := [(3, ⟨[6, 7], [.appd 3 .route 40, .i 8]⟩)]
noncomputable def kroutes_con : Con := ⟨[.c (.a .route), .c (.a .route)], fun a b => one [.c (.b (sameP a b))]⟩
noncomputable def kroutes_cs : Cons := [(48, sameS_con)]
def kroutes_la : List (Nat × LA) := [(4, ⟨[0, 1], [.i 5]⟩)]
def pbegun_con : Con := ⟨[.c (.a .route), .c .i], fun p id => one [.c (.b (begunP id p))]⟩
def pbegun_cs : Cons := []
def pbegun_la : List (Nat × LA) := [(2, ⟨[1, 9, 10], [.i 11]⟩), (5, ⟨[1, 6, 9, 10, 11, 16, 17], [.i 18]⟩)]
def pwithout_con : Con := ⟨[.c (.a .route), .c (.a (.f .int))], fun p ids => ⟨some (PlanFits p), [⟨none, [.c (.od .route 40 (withoutP p ids))]⟩]⟩⟩
def pwithout_cs : Cons := [(53, pbegun_con)]
def pwithout_la : List (Nat × LA) := [(3, ⟨[0, 5, 15, 16], [.i 17, .mp 5 .int]⟩), (10, ⟨[5, 30, 31], [.appd 8 .route 40, .i 32]⟩), (14, ⟨[5, 8, 10, 30, 31, 32, 37, 38], [.app 11 .stop 36, .i 39]⟩)]
noncomputable def pwith_con : Con := ⟨[.c (.a .route), .c .i, .r (.f .spot)], fun p id s => one [.c (.od .route 40 ((withP p id s).getD [])), .c (.b (withP p id s).isSome)]⟩
noncomputable def pwith_cs : Cons := [(25, pfind_con), (26, pright_con), (51, pcopy_con), (52, sput_con)]
def pwith_la : List (Nat × LA) := [(5, ⟨[0, 1, 5, 33, 34], [.i 35]⟩)]
end Go.Eng

/- The conditions of functions, as print.. of the engine told them. -/
set_option linter.unusedVariables false
namespace Go.Eng
open Go Go.Proofs
def kcopy_vc : Prop :=
  ∀ (x : List Route), (LenOk x.length ∧ ∀ (r : Route), List.Mem r x → LenOk r.stops.length) → (x.length * (40 : Nat) ≤ (140737488351232 : Nat) ∧ ∀ (r : Route), List.Mem r x → r.stops.length * (16 : Nat) ≤ (140737488351232 : Nat)) → ∃ (inv :
  List Route → Int → Prop), ∃ (μ : List Route → Int → Nat), (((0 : Int) = (0 : Int) ∧ nilOf Route = nilOf Route ∧ x = x) ∧ inv [] (0 : Int)) ∧ ∀ (x_3 : List Route) (x_4 : Int), inv x_3 x_4 → (decide (x_4 < (↑x.length : Int)) = true → ((0 :
  Int) ≤ x_4 ∧ x_4 < (↑x.length : Int)) ∧ x_4.toNat < x.length ∧ ((0 : Int) ≤ x_4 ∧ x_4 < (↑x.length : Int)) ∧ x_4.toNat < x.length ∧ ((0 : Int) ≤ x_4 ∧ x_4 < (↑x.length : Int)) ∧ x_4.toNat < x.length ∧ (True ∧ ((0 : Nat) + (x.getD x_4.toNat
  (Route.mk (0 : Int) (0 : Int) [])).stops.length) * ((8 : Nat) * (2 : Nat)) ≤ (140737488355328 : Nat)) ∧ (x_3.length + [Route.mk (x.getD x_4.toNat (Route.mk (0 : Int) (0 : Int) [])).driver (x.getD x_4.toNat (Route.mk (0 : Int) (0 : Int)
  [])).served ([] ++ (x.getD x_4.toNat (Route.mk (0 : Int) (0 : Int) [])).stops)].length) * K.route.byt ≤ (140737488355328 : Nat) ∧ (wrap (x_4 + (1 : Int)) = wrap (x_4 + (1 : Int)) ∧ x_3 ++ [Route.mk (x.getD x_4.toNat (Route.mk (0 : Int) (0 :
  Int) [])).driver (x.getD x_4.toNat (Route.mk (0 : Int) (0 : Int) [])).served ([] ++ (x.getD x_4.toNat (Route.mk (0 : Int) (0 : Int) [])).stops)] = x_3 ++ [Route.mk (x.getD x_4.toNat (Route.mk (0 : Int) (0 : Int) [])).driver (x.getD
  x_4.toNat (Route.mk (0 : Int) (0 : Int) [])).served ([] ++ (x.getD x_4.toNat (Route.mk (0 : Int) (0 : Int) [])).stops)] ∧ x = x) ∧ inv (x_3 ++ [Route.mk (x.getD x_4.toNat (Route.mk (0 : Int) (0 : Int) [])).driver (x.getD x_4.toNat (Route.mk
  (0 : Int) (0 : Int) [])).served ([] ++ (x.getD x_4.toNat (Route.mk (0 : Int) (0 : Int) [])).stops)]) (wrap (x_4 + (1 : Int))) ∧ μ (x_3 ++ [Route.mk (x.getD x_4.toNat (Route.mk (0 : Int) (0 : Int) [])).driver (x.getD x_4.toNat (Route.mk (0 :
  Int) (0 : Int) [])).served ([] ++ (x.getD x_4.toNat (Route.mk (0 : Int) (0 : Int) [])).stops)]) (wrap (x_4 + (1 : Int))) < μ x_3 x_4) ∧ (decide (x_4 < (↑x.length : Int)) = false → x_3 = x)
theorem kcopy_told (hc : CsOk Try.prog kcopy_cs) (h : kcopy_vc) : Told Try.prog 20 kcopy_con := told (A := kcopy_la) tabOk mixed hc Try.func20 (by kernel_rfl) (by kernel_rfl) h
def pcopy_vc : Prop :=
  ∀ (x : List Route), (LenOk x.length ∧ ∀ (r : Route), List.Mem r x → LenOk r.stops.length) → (x.length * (40 : Nat) ≤ (140737488351232 : Nat) ∧ ∀ (r : Route), List.Mem r x → r.stops.length * (16 : Nat) ≤ (140737488351232 : Nat)) → ∃ (inv :
  List Route → Int → Prop), ∃ (μ : List Route → Int → Nat), ((((↑x.length : Int) = (↑x.length : Int) ∧ (0 : Int) = (0 : Int)) ∧ x = x ∧ nilOf Route = nilOf Route) ∧ inv [] (0 : Int)) ∧ ∀ (x_3 : List Route) (x_4 : Int), inv x_3 x_4 → (decide
  (x_4 < (↑x.length : Int)) = true → ((0 : Int) ≤ x_4 ∧ x_4 < (↑x.length : Int)) ∧ x_4.toNat < x.length ∧ (True ∧ (x.getD x_4.toNat (Route.mk (0 : Int) (0 : Int) [])).stops.length * ((8 : Nat) * (2 : Nat)) ≤ (140737488355328 : Nat)) ∧
  (x_3.length + [x.getD x_4.toNat (Route.mk (0 : Int) (0 : Int) [])].length) * K.route.byt ≤ (140737488355328 : Nat) ∧ (((↑x.length : Int) = (↑x.length : Int) ∧ wrap (x_4 + (1 : Int)) = wrap (x_4 + (1 : Int))) ∧ x = x ∧ x_3 ++ [x.getD
  x_4.toNat (Route.mk (0 : Int) (0 : Int) [])] = x_3 ++ [x.getD x_4.toNat (Route.mk (0 : Int) (0 : Int) [])]) ∧ inv (x_3 ++ [x.getD x_4.toNat (Route.mk (0 : Int) (0 : Int) [])]) (wrap (x_4 + (1 : Int))) ∧ μ (x_3 ++ [x.getD x_4.toNat (Route.mk
  (0 : Int) (0 : Int) [])]) (wrap (x_4 + (1 : Int))) < μ x_3 x_4) ∧ (decide (x_4 < (↑x.length : Int)) = false → x_3 = x)
theorem pcopy_told (hc : CsOk Try.prog pcopy_cs) (h : pcopy_vc) : Told Try.prog 51 pcopy_con := told (A := pcopy_la) tabOk mixed hc Try.func51 (by kernel_rfl) (by kernel_rfl) h
def kroutes_vc : Prop :=
  ∀ (x : List Route), (LenOk x.length ∧ ∀ (r : Route), List.Mem r x → LenOk r.stops.length) → ∀ (x_2 : List Route), (LenOk x_2.length ∧ ∀ (r : Route), List.Mem r x_2 → LenOk r.stops.length) → ((!decide ((↑x.length : Int) = (↑x_2.length :
  Int))) = true → false = sameP x x_2) ∧ ((!decide ((↑x.length : Int) = (↑x_2.length : Int))) = false → ∃ (inv : Int → Prop), ∃ (μ : Int → Nat), (((0 : Int) = (0 : Int) ∧ x_2 = x_2 ∧ x = x) ∧ inv (0 : Int)) ∧ ∀ (x_5 : Int), inv x_5 → (decide
  (x_5 < (↑x.length : Int)) = true → ((0 : Int) ≤ x_5 ∧ x_5 < (↑x.length : Int)) ∧ x_5.toNat < x.length ∧ ((0 : Int) ≤ x_5 ∧ x_5 < (↑x_2.length : Int)) ∧ x_5.toNat < x_2.length ∧ ((!decide ((x.getD x_5.toNat (Route.mk (0 : Int) (0 : Int)
  [])).driver = (x_2.getD x_5.toNat (Route.mk (0 : Int) (0 : Int) [])).driver)) = false → ((0 : Int) ≤ x_5 ∧ x_5 < (↑x.length : Int)) ∧ x_5.toNat < x.length ∧ ((0 : Int) ≤ x_5 ∧ x_5 < (↑x_2.length : Int)) ∧ x_5.toNat < x_2.length ∧ ((!decide
  ((x.getD x_5.toNat (Route.mk (0 : Int) (0 : Int) [])).served = (x_2.getD x_5.toNat (Route.mk (0 : Int) (0 : Int) [])).served)) = false → ((0 : Int) ≤ x_5 ∧ x_5 < (↑x.length : Int)) ∧ x_5.toNat < x.length ∧ ((0 : Int) ≤ x_5 ∧ x_5 <
  (↑x_2.length : Int)) ∧ x_5.toNat < x_2.length ∧ ((!same (x.getD x_5.toNat (Route.mk (0 : Int) (0 : Int) [])).stops (x_2.getD x_5.toNat (Route.mk (0 : Int) (0 : Int) [])).stops) = true → false = sameP x x_2) ∧ ((!same (x.getD x_5.toNat
  (Route.mk (0 : Int) (0 : Int) [])).stops (x_2.getD x_5.toNat (Route.mk (0 : Int) (0 : Int) [])).stops) = false → (wrap (x_5 + (1 : Int)) = wrap (x_5 + (1 : Int)) ∧ x_2 = x_2 ∧ x = x) ∧ inv (wrap (x_5 + (1 : Int))) ∧ μ (wrap (x_5 + (1 :
  Int))) < μ x_5)) ∧ ((!decide ((x.getD x_5.toNat (Route.mk (0 : Int) (0 : Int) [])).served = (x_2.getD x_5.toNat (Route.mk (0 : Int) (0 : Int) [])).served)) = !false → false = sameP x x_2)) ∧ ((!decide ((x.getD x_5.toNat (Route.mk (0 : Int)
  (0 : Int) [])).driver = (x_2.getD x_5.toNat (Route.mk (0 : Int) (0 : Int) [])).driver)) = !false → false = sameP x x_2)) ∧ (decide (x_5 < (↑x.length : Int)) = false → true = sameP x x_2))
theorem kroutes_told (hc : CsOk Try.prog kroutes_cs) (h : kroutes_vc) : Told Try.prog 22 kroutes_con := told (A := kroutes_la) tabOk mixed hc Try.func22 (by kernel_rfl) (by kernel_rfl) h
def pbegun_vc : Prop :=
  ∀ (x : List Route), (LenOk x.length ∧ ∀ (r : Route), List.Mem r x → LenOk r.stops.length) → ∀ (x_2 : Int), ∃ (inv : Int → Prop), ∃ (μ : Int → Nat), (((x_2 = x_2 ∧ (↑x.length : Int) = (↑x.length : Int) ∧ (0 : Int) = (0 : Int)) ∧ x = x) ∧ inv
  (0 : Int)) ∧ ∀ (x_3 : Int), inv x_3 → (decide (x_3 < (↑x.length : Int)) = true → ((0 : Int) ≤ x_3 ∧ x_3 < (↑x.length : Int)) ∧ x_3.toNat < x.length ∧ ∃ (inv_1 : Int → Prop), ∃ (μ_1 : Int → Nat), (((x_2 = x_2 ∧ (↑x.length : Int) = (↑x.length
  : Int) ∧ x_3 = x_3 ∧ (↑(x.getD x_3.toNat (Route.mk (0 : Int) (0 : Int) [])).stops.length : Int) = (↑(x.getD x_3.toNat (Route.mk (0 : Int) (0 : Int) [])).stops.length : Int) ∧ (0 : Int) = (0 : Int)) ∧ ((x.getD x_3.toNat (Route.mk (0 : Int)
  (0 : Int) [])).driver = (x.getD x_3.toNat (Route.mk (0 : Int) (0 : Int) [])).driver ∧ (x.getD x_3.toNat (Route.mk (0 : Int) (0 : Int) [])).served = (x.getD x_3.toNat (Route.mk (0 : Int) (0 : Int) [])).served) ∧ (x.getD x_3.toNat (Route.mk
  (0 : Int) (0 : Int) [])).stops = (x.getD x_3.toNat (Route.mk (0 : Int) (0 : Int) [])).stops ∧ x = x) ∧ inv_1 (0 : Int)) ∧ ∀ (x_6 : Int), inv_1 x_6 → (decide (x_6 < (↑(x.getD x_3.toNat (Route.mk (0 : Int) (0 : Int) [])).stops.length : Int))
  = true → ((0 : Int) ≤ x_6 ∧ x_6 < (↑(x.getD x_3.toNat (Route.mk (0 : Int) (0 : Int) [])).stops.length : Int)) ∧ x_6.toNat < (x.getD x_3.toNat (Route.mk (0 : Int) (0 : Int) [])).stops.length ∧ (decide (x_6 < (x.getD x_3.toNat (Route.mk (0 :
  Int) (0 : Int) [])).served) = true → (decide (((x.getD x_3.toNat (Route.mk (0 : Int) (0 : Int) [])).stops.getD x_6.toNat FK.stop.zero).order = x_2) = true → true = begunP x_2 x) ∧ (decide (((x.getD x_3.toNat (Route.mk (0 : Int) (0 : Int)
  [])).stops.getD x_6.toNat FK.stop.zero).order = x_2) = false → ((x_2 = x_2 ∧ (↑x.length : Int) = (↑x.length : Int) ∧ x_3 = x_3 ∧ (↑(x.getD x_3.toNat (Route.mk (0 : Int) (0 : Int) [])).stops.length : Int) = (↑(x.getD x_3.toNat (Route.mk (0 :
  Int) (0 : Int) [])).stops.length : Int) ∧ wrap (x_6 + (1 : Int)) = wrap (x_6 + (1 : Int))) ∧ ((x.getD x_3.toNat (Route.mk (0 : Int) (0 : Int) [])).driver = (x.getD x_3.toNat (Route.mk (0 : Int) (0 : Int) [])).driver ∧ (x.getD x_3.toNat
  (Route.mk (0 : Int) (0 : Int) [])).served = (x.getD x_3.toNat (Route.mk (0 : Int) (0 : Int) [])).served) ∧ (x.getD x_3.toNat (Route.mk (0 : Int) (0 : Int) [])).stops = (x.getD x_3.toNat (Route.mk (0 : Int) (0 : Int) [])).stops ∧ x = x) ∧
  inv_1 (wrap (x_6 + (1 : Int))) ∧ μ_1 (wrap (x_6 + (1 : Int))) < μ_1 x_6)) ∧ (decide (x_6 < (x.getD x_3.toNat (Route.mk (0 : Int) (0 : Int) [])).served) = !true → ((x_2 = x_2 ∧ (↑x.length : Int) = (↑x.length : Int) ∧ x_3 = x_3 ∧ (↑(x.getD
  x_3.toNat (Route.mk (0 : Int) (0 : Int) [])).stops.length : Int) = (↑(x.getD x_3.toNat (Route.mk (0 : Int) (0 : Int) [])).stops.length : Int) ∧ wrap (x_6 + (1 : Int)) = wrap (x_6 + (1 : Int))) ∧ ((x.getD x_3.toNat (Route.mk (0 : Int) (0 :
  Int) [])).driver = (x.getD x_3.toNat (Route.mk (0 : Int) (0 : Int) [])).driver ∧ (x.getD x_3.toNat (Route.mk (0 : Int) (0 : Int) [])).served = (x.getD x_3.toNat (Route.mk (0 : Int) (0 : Int) [])).served) ∧ (x.getD x_3.toNat (Route.mk (0 :
  Int) (0 : Int) [])).stops = (x.getD x_3.toNat (Route.mk (0 : Int) (0 : Int) [])).stops ∧ x = x) ∧ inv_1 (wrap (x_6 + (1 : Int))) ∧ μ_1 (wrap (x_6 + (1 : Int))) < μ_1 x_6)) ∧ (decide (x_6 < (↑(x.getD x_3.toNat (Route.mk (0 : Int) (0 : Int)
  [])).stops.length : Int)) = false → ((x_2 = x_2 ∧ (↑x.length : Int) = (↑x.length : Int) ∧ wrap (x_3 + (1 : Int)) = wrap (x_3 + (1 : Int))) ∧ x = x) ∧ inv (wrap (x_3 + (1 : Int))) ∧ μ (wrap (x_3 + (1 : Int))) < μ x_3)) ∧ (decide (x_3 <
  (↑x.length : Int)) = false → false = begunP x_2 x)
theorem pbegun_told (hc : CsOk Try.prog pbegun_cs) (h : pbegun_vc) : Told Try.prog 53 pbegun_con := told (A := pbegun_la) tabOk mixed hc Try.func53 (by kernel_rfl) (by kernel_rfl) h
def pwithout_vc : Prop :=
  ∀ (x : List Route), (LenOk x.length ∧ ∀ (r : Route), List.Mem r x → LenOk r.stops.length) → ∀ (x_2 : List Int), LenOk x_2.length → (x.length * (40 : Nat) ≤ (140737488351232 : Nat) ∧ ∀ (r : Route), List.Mem r x → r.stops.length * (16 : Nat)
  ≤ (140737488351232 : Nat)) → ∃ (inv : Int → (MK.int.T → Int) → Prop), ∃ (μ : Int → (MK.int.T → Int) → Nat), ((((↑x_2.length : Int) = (↑x_2.length : Int) ∧ (0 : Int) = (0 : Int)) ∧ x_2 = x_2 ∧ noF MK.int.T = noF MK.int.T ∧ x = x) ∧ inv (0 :
  Int) (noF MK.int.T)) ∧ ∀ (x_5 : Int) (x_6 : MK.int.T → Int), inv x_5 x_6 → (decide (x_5 < (↑x_2.length : Int)) = true → ((0 : Int) ≤ x_5 ∧ x_5 < (↑x_2.length : Int)) ∧ x_5.toNat < x_2.length ∧ ((!begunP (x_2.getD x_5.toNat (Int.ofNat (0 :
  Nat))) x) = true → (((↑x_2.length : Int) = (↑x_2.length : Int) ∧ wrap (x_5 + (1 : Int)) = wrap (x_5 + (1 : Int))) ∧ x_2 = x_2 ∧ upF x_6 (x_2.getD x_5.toNat (Int.ofNat (0 : Nat))) (wrap (x_6 (x_2.getD x_5.toNat (Int.ofNat (0 : Nat))) + (1 :
  Int))) = upF x_6 (x_2.getD x_5.toNat (Int.ofNat (0 : Nat))) (wrap (x_6 (x_2.getD x_5.toNat (Int.ofNat (0 : Nat))) + (1 : Int))) ∧ x = x) ∧ inv (wrap (x_5 + (1 : Int))) (upF x_6 (x_2.getD x_5.toNat (Int.ofNat (0 : Nat))) (wrap (x_6 (x_2.getD
  x_5.toNat (Int.ofNat (0 : Nat))) + (1 : Int)))) ∧ μ (wrap (x_5 + (1 : Int))) (upF x_6 (x_2.getD x_5.toNat (Int.ofNat (0 : Nat))) (wrap (x_6 (x_2.getD x_5.toNat (Int.ofNat (0 : Nat))) + (1 : Int)))) < μ x_5 x_6) ∧ ((!begunP (x_2.getD
  x_5.toNat (Int.ofNat (0 : Nat))) x) = false → (((↑x_2.length : Int) = (↑x_2.length : Int) ∧ wrap (x_5 + (1 : Int)) = wrap (x_5 + (1 : Int))) ∧ x_2 = x_2 ∧ x_6 = x_6 ∧ x = x) ∧ inv (wrap (x_5 + (1 : Int))) x_6 ∧ μ (wrap (x_5 + (1 : Int)))
  x_6 < μ x_5 x_6)) ∧ (decide (x_5 < (↑x_2.length : Int)) = false → ∃ (inv : List Route → Int → Prop), ∃ (μ : List Route → Int → Nat), ((((↑x.length : Int) = (↑x.length : Int) ∧ (0 : Int) = (0 : Int)) ∧ x = x ∧ nilOf Route = nilOf Route ∧ x_6
  = x_6) ∧ inv [] (0 : Int)) ∧ ∀ (x_9 : List Route) (x_10 : Int), inv x_9 x_10 → (decide (x_10 < (↑x.length : Int)) = true → ((0 : Int) ≤ x_10 ∧ x_10 < (↑x.length : Int)) ∧ x_10.toNat < x.length ∧ ∃ (inv_1 : List Stop → Int → Prop), ∃ (μ_1 :
  List Stop → Int → Nat), ((((↑x.length : Int) = (↑x.length : Int) ∧ x_10 = x_10 ∧ (↑(x.getD x_10.toNat (Route.mk (0 : Int) (0 : Int) [])).stops.length : Int) = (↑(x.getD x_10.toNat (Route.mk (0 : Int) (0 : Int) [])).stops.length : Int) ∧ (0
  : Int) = (0 : Int)) ∧ ((x.getD x_10.toNat (Route.mk (0 : Int) (0 : Int) [])).driver = (x.getD x_10.toNat (Route.mk (0 : Int) (0 : Int) [])).driver ∧ (x.getD x_10.toNat (Route.mk (0 : Int) (0 : Int) [])).served = (x.getD x_10.toNat (Route.mk
  (0 : Int) (0 : Int) [])).served) ∧ (x.getD x_10.toNat (Route.mk (0 : Int) (0 : Int) [])).stops = (x.getD x_10.toNat (Route.mk (0 : Int) (0 : Int) [])).stops ∧ x = x ∧ nilOf Stop = nilOf Stop ∧ x_9 = x_9 ∧ x_6 = x_6) ∧ inv_1 [] (0 : Int)) ∧
  ∀ (x_13 : List Stop) (x_14 : Int), inv_1 x_13 x_14 → (decide (x_14 < (↑(x.getD x_10.toNat (Route.mk (0 : Int) (0 : Int) [])).stops.length : Int)) = true → ((0 : Int) ≤ x_14 ∧ x_14 < (↑(x.getD x_10.toNat (Route.mk (0 : Int) (0 : Int)
  [])).stops.length : Int)) ∧ x_14.toNat < (x.getD x_10.toNat (Route.mk (0 : Int) (0 : Int) [])).stops.length ∧ (decide (x_6 ((x.getD x_10.toNat (Route.mk (0 : Int) (0 : Int) [])).stops.getD x_14.toNat FK.stop.zero).order = (0 : Int)) = true
  → (True ∧ (x_13.length + [(x.getD x_10.toNat (Route.mk (0 : Int) (0 : Int) [])).stops.getD x_14.toNat FK.stop.zero].length) * ((8 : Nat) * (2 : Nat)) ≤ (140737488355328 : Nat)) ∧ (((↑x.length : Int) = (↑x.length : Int) ∧ x_10 = x_10 ∧
  (↑(x.getD x_10.toNat (Route.mk (0 : Int) (0 : Int) [])).stops.length : Int) = (↑(x.getD x_10.toNat (Route.mk (0 : Int) (0 : Int) [])).stops.length : Int) ∧ wrap (x_14 + (1 : Int)) = wrap (x_14 + (1 : Int))) ∧ ((x.getD x_10.toNat (Route.mk
  (0 : Int) (0 : Int) [])).driver = (x.getD x_10.toNat (Route.mk (0 : Int) (0 : Int) [])).driver ∧ (x.getD x_10.toNat (Route.mk (0 : Int) (0 : Int) [])).served = (x.getD x_10.toNat (Route.mk (0 : Int) (0 : Int) [])).served) ∧ (x.getD
  x_10.toNat (Route.mk (0 : Int) (0 : Int) [])).stops = (x.getD x_10.toNat (Route.mk (0 : Int) (0 : Int) [])).stops ∧ x = x ∧ x_13 ++ [(x.getD x_10.toNat (Route.mk (0 : Int) (0 : Int) [])).stops.getD x_14.toNat FK.stop.zero] = x_13 ++
  [(x.getD x_10.toNat (Route.mk (0 : Int) (0 : Int) [])).stops.getD x_14.toNat FK.stop.zero] ∧ x_9 = x_9 ∧ x_6 = x_6) ∧ inv_1 (x_13 ++ [(x.getD x_10.toNat (Route.mk (0 : Int) (0 : Int) [])).stops.getD x_14.toNat FK.stop.zero]) (wrap (x_14 +
  (1 : Int))) ∧ μ_1 (x_13 ++ [(x.getD x_10.toNat (Route.mk (0 : Int) (0 : Int) [])).stops.getD x_14.toNat FK.stop.zero]) (wrap (x_14 + (1 : Int))) < μ_1 x_13 x_14) ∧ (decide (x_6 ((x.getD x_10.toNat (Route.mk (0 : Int) (0 : Int)
  [])).stops.getD x_14.toNat FK.stop.zero).order = (0 : Int)) = false → (((↑x.length : Int) = (↑x.length : Int) ∧ x_10 = x_10 ∧ (↑(x.getD x_10.toNat (Route.mk (0 : Int) (0 : Int) [])).stops.length : Int) = (↑(x.getD x_10.toNat (Route.mk (0 :
  Int) (0 : Int) [])).stops.length : Int) ∧ wrap (x_14 + (1 : Int)) = wrap (x_14 + (1 : Int))) ∧ ((x.getD x_10.toNat (Route.mk (0 : Int) (0 : Int) [])).driver = (x.getD x_10.toNat (Route.mk (0 : Int) (0 : Int) [])).driver ∧ (x.getD x_10.toNat
  (Route.mk (0 : Int) (0 : Int) [])).served = (x.getD x_10.toNat (Route.mk (0 : Int) (0 : Int) [])).served) ∧ (x.getD x_10.toNat (Route.mk (0 : Int) (0 : Int) [])).stops = (x.getD x_10.toNat (Route.mk (0 : Int) (0 : Int) [])).stops ∧ x = x ∧
  x_13 = x_13 ∧ x_9 = x_9 ∧ x_6 = x_6) ∧ inv_1 x_13 (wrap (x_14 + (1 : Int))) ∧ μ_1 x_13 (wrap (x_14 + (1 : Int))) < μ_1 x_13 x_14)) ∧ (decide (x_14 < (↑(x.getD x_10.toNat (Route.mk (0 : Int) (0 : Int) [])).stops.length : Int)) = false →
  (x_9.length + [Route.mk (x.getD x_10.toNat (Route.mk (0 : Int) (0 : Int) [])).driver (x.getD x_10.toNat (Route.mk (0 : Int) (0 : Int) [])).served x_13].length) * K.route.byt ≤ (140737488355328 : Nat) ∧ (((↑x.length : Int) = (↑x.length :
  Int) ∧ wrap (x_10 + (1 : Int)) = wrap (x_10 + (1 : Int))) ∧ x = x ∧ x_9 ++ [Route.mk (x.getD x_10.toNat (Route.mk (0 : Int) (0 : Int) [])).driver (x.getD x_10.toNat (Route.mk (0 : Int) (0 : Int) [])).served x_13] = x_9 ++ [Route.mk (x.getD
  x_10.toNat (Route.mk (0 : Int) (0 : Int) [])).driver (x.getD x_10.toNat (Route.mk (0 : Int) (0 : Int) [])).served x_13] ∧ x_6 = x_6) ∧ inv (x_9 ++ [Route.mk (x.getD x_10.toNat (Route.mk (0 : Int) (0 : Int) [])).driver (x.getD x_10.toNat
  (Route.mk (0 : Int) (0 : Int) [])).served x_13]) (wrap (x_10 + (1 : Int))) ∧ μ (x_9 ++ [Route.mk (x.getD x_10.toNat (Route.mk (0 : Int) (0 : Int) [])).driver (x.getD x_10.toNat (Route.mk (0 : Int) (0 : Int) [])).served x_13]) (wrap (x_10 +
  (1 : Int))) < μ x_9 x_10)) ∧ (decide (x_10 < (↑x.length : Int)) = false → x_9 = withoutP x x_2))
theorem pwithout_told (hc : CsOk Try.prog pwithout_cs) (h : pwithout_vc) : Told Try.prog 28 pwithout_con := told (A := pwithout_la) tabOk mixed hc Try.func28 (by kernel_rfl) (by kernel_rfl) h
def pwith_vc : Prop :=
  ∀ (x : List Route), (LenOk x.length ∧ ∀ (r : Route), List.Mem r x → LenOk r.stops.length) → ∀ (x_2 : Int) (x_3 : Spot), ((!rightP x) = false → (decide (x_2 < (1 : Int)) = false → (decide (x_2 > (1000000 : Int)) = false → ((findP x_2
  x).isSome = true → false = (withP x x_2 x_3).isSome ∧ (withP x x_2 x_3).getD [] = nilOf Route) ∧ ((findP x_2 x).isSome = false → ∃ (inv : Int → Prop), ∃ (μ : Int → Nat), (((x_2 = x_2 ∧ (↑x.length : Int) = (↑x.length : Int) ∧ (0 : Int) = (0
  : Int)) ∧ (x_3.driver = x_3.driver ∧ x_3.pick = x_3.pick ∧ x_3.drop = x_3.drop ∧ x_3.cost = x_3.cost) ∧ x = x) ∧ inv (0 : Int)) ∧ ∀ (x_8 : Int), inv x_8 → (decide (x_8 < (↑x.length : Int)) = true → ((0 : Int) ≤ x_8 ∧ x_8 < (↑x.length :
  Int)) ∧ x_8.toNat < x.length ∧ ((!decide ((x.getD x_8.toNat (Route.mk (0 : Int) (0 : Int) [])).driver = x_3.driver)) = true → ((x_2 = x_2 ∧ (↑x.length : Int) = (↑x.length : Int) ∧ wrap (x_8 + (1 : Int)) = wrap (x_8 + (1 : Int))) ∧
  (x_3.driver = x_3.driver ∧ x_3.pick = x_3.pick ∧ x_3.drop = x_3.drop ∧ x_3.cost = x_3.cost) ∧ x = x) ∧ inv (wrap (x_8 + (1 : Int))) ∧ μ (wrap (x_8 + (1 : Int))) < μ x_8) ∧ ((!decide ((x.getD x_8.toNat (Route.mk (0 : Int) (0 : Int)
  [])).driver = x_3.driver)) = false → (decide ((↑(x.getD x_8.toNat (Route.mk (0 : Int) (0 : Int) [])).stops.length : Int) > (78 : Int)) = false → (decide (x_3.pick < (x.getD x_8.toNat (Route.mk (0 : Int) (0 : Int) [])).served) = false →
  (decide (x_3.drop < x_3.pick) = false → (decide (x_3.drop > (↑(x.getD x_8.toNat (Route.mk (0 : Int) (0 : Int) [])).stops.length : Int)) = true → false = (withP x x_2 x_3).isSome ∧ (withP x x_2 x_3).getD [] = nilOf Route) ∧ (decide (x_3.drop
  > (↑(x.getD x_8.toNat (Route.mk (0 : Int) (0 : Int) [])).stops.length : Int)) = false → (x.length * (40 : Nat) ≤ (140737488351232 : Nat) ∧ ∀ (r : Route), List.Mem r x → r.stops.length * (16 : Nat) ≤ (140737488351232 : Nat)) ∧ (x.getD
  x_8.toNat (Route.mk (0 : Int) (0 : Int) [])).stops.length * (16 : Nat) ≤ (140737488351232 : Nat) ∧ ((0 : Int) ≤ x_8 ∧ x_8 < (↑x.length : Int)) ∧ x_8.toNat < x.length ∧ true = (withP x x_2 x_3).isSome ∧ x.set x_8.toNat (Route.mk (x.getD
  x_8.toNat (Route.mk (0 : Int) (0 : Int) [])).driver (x.getD x_8.toNat (Route.mk (0 : Int) (0 : Int) [])).served (putS (x.getD x_8.toNat (Route.mk (0 : Int) (0 : Int) [])).stops x_2 x_3.pick x_3.drop)) = (withP x x_2 x_3).getD [])) ∧ (decide
  (x_3.drop < x_3.pick) = !false → false = (withP x x_2 x_3).isSome ∧ (withP x x_2 x_3).getD [] = nilOf Route)) ∧ (decide (x_3.pick < (x.getD x_8.toNat (Route.mk (0 : Int) (0 : Int) [])).served) = !false → false = (withP x x_2 x_3).isSome ∧
  (withP x x_2 x_3).getD [] = nilOf Route)) ∧ (decide ((↑(x.getD x_8.toNat (Route.mk (0 : Int) (0 : Int) [])).stops.length : Int) > (78 : Int)) = !false → false = (withP x x_2 x_3).isSome ∧ (withP x x_2 x_3).getD [] = nilOf Route))) ∧ (decide
  (x_8 < (↑x.length : Int)) = false → false = (withP x x_2 x_3).isSome ∧ (withP x x_2 x_3).getD [] = nilOf Route))) ∧ (decide (x_2 > (1000000 : Int)) = !false → false = (withP x x_2 x_3).isSome ∧ (withP x x_2 x_3).getD [] = nilOf Route)) ∧
  (decide (x_2 < (1 : Int)) = !false → false = (withP x x_2 x_3).isSome ∧ (withP x x_2 x_3).getD [] = nilOf Route)) ∧ ((!rightP x) = !false → false = (withP x x_2 x_3).isSome ∧ (withP x x_2 x_3).getD [] = nilOf Route)
theorem pwith_told (hc : CsOk Try.prog pwith_cs) (h : pwith_vc) : Told Try.prog 27 pwith_con := told (A := pwith_la) tabOk mixed hc Try.func27 (by kernel_rfl) (by kernel_rfl) h
end Go.Eng

/- Plans copied, stops put in and taken out: it is so. -/
set_option linter.unusedVariables false
set_option linter.unusedSimpArgs false
namespace Go.Eng
open Go Go.Proofs
theorem takeS {α : Type} {l : List α} {i : Nat} (d : α) (h : i < l.length) : l.take (i + 1) = l.take i ++ [l.getD i d] := by
  rw [List.take_succ_eq_append_getElem h, getD_get d h]
theorem kcopy_ok : kcopy_vc := by
  unfold kcopy_vc
  simp only [bad_false, int0, nilOf, decide_eq_true_eq, decide_eq_false_iff_not, Bool.not_eq_true', Bool.not_eq_false', Bool.not_true, Bool.not_false, Bool.false_eq_true, Bool.true_eq_false, eq_self, true_and, and_true, false_or, or_false, false_implies, true_implies, implies_true, Int.not_lt, Int.not_le, gt_iff_lt, ge_iff_le, ne_eq]
  rintro x ⟨hl, hr⟩ ⟨hb, hb'⟩
  have hl := hl.le
  refine ⟨fun o i => 0 ≤ i ∧ i ≤ x.length ∧ o = x.take i.toNat, fun _ i => x.length - i.toNat, ⟨by omega, by omega, by simp⟩, fun o i hi => ⟨fun h => ?_, fun h => ?_⟩⟩
  · obtain ⟨h0, h1, rfl⟩ := hi
    obtain ⟨e1, e2, e3, e4⟩ := ix rz hl h0 h
    have hm := hb' _ (getD_mem rz e3)
    rw [e1]; dsimp only; rw [e2, takeS rz e3]
    change List Route at x
    generalize x.getD i.toNat { driver := 0, served := 0, stops := [] } = r at *
    refine ⟨⟨h0, h⟩, e3, ⟨h0, h⟩, e3, ⟨h0, h⟩, e3, by omega, ?_, ⟨by omega, by omega, by simp⟩, by omega⟩
    simp only [K.byt, List.length_take, List.length_cons, List.length_nil]; omega
  · obtain ⟨h0, h1, rfl⟩ := hi
    exact List.take_of_length_le (by omega)
theorem kcopy_t : Told Try.prog 20 kcopy_con := kcopy_told csOk_nil kcopy_ok
theorem pcopy_ok : pcopy_vc := by
  unfold pcopy_vc
  simp only [bad_false, int0, nilOf, decide_eq_true_eq, decide_eq_false_iff_not, Bool.not_eq_true', Bool.not_eq_false', Bool.not_true, Bool.not_false, Bool.false_eq_true, Bool.true_eq_false, eq_self, true_and, and_true, false_or, or_false, false_implies, true_implies, implies_true, Int.not_lt, Int.not_le, gt_iff_lt, ge_iff_le, ne_eq]
  rintro x ⟨hl, hr⟩ ⟨hb, hb'⟩
  have hl := hl.le
  refine ⟨fun o i => 0 ≤ i ∧ i ≤ x.length ∧ o = x.take i.toNat, fun _ i => x.length - i.toNat, ⟨by omega, by omega, by simp⟩, fun o i hi => ⟨fun h => ?_, fun h => ?_⟩⟩
  · obtain ⟨h0, h1, rfl⟩ := hi
    obtain ⟨e1, e2, e3, e4⟩ := ix rz hl h0 h
    have hm := hb' _ (getD_mem rz e3)
    rw [e1]; dsimp only; rw [e2, takeS rz e3]
    change List Route at x
    generalize x.getD i.toNat { driver := 0, served := 0, stops := [] } = r at *
    refine ⟨⟨h0, h⟩, e3, by omega, ?_, ⟨by omega, by omega, rfl⟩, by omega⟩
    simp only [K.byt, List.length_take, List.length_cons, List.length_nil]; omega
  · obtain ⟨h0, h1, rfl⟩ := hi
    exact List.take_of_length_le (by omega)
theorem pcopy_t : Told Try.prog 51 pcopy_con := pcopy_told csOk_nil pcopy_ok
theorem sameP_iff {a b : List Route} : sameP a b = true ↔ a = b := by simp [sameP]
theorem sameP_no {a b : List Route} (h : a ≠ b) : false = sameP a b := by simp [sameP, h]
theorem kroutes_ok : kroutes_vc := by
  unfold kroutes_vc
  simp only [bad_false, int0, nilOf, decide_eq_true_eq, decide_eq_false_iff_not, Bool.not_eq_true', Bool.not_eq_false', Bool.not_true, Bool.not_false, Bool.false_eq_true, Bool.true_eq_false, eq_self, true_and, and_true, false_or, or_false, false_implies, true_implies, implies_true, Int.not_lt, Int.not_le, gt_iff_lt, ge_iff_le, ne_eq]
  rintro x ⟨hl, hr⟩ y ⟨hl', hr'⟩
  have hl := hl.le
  refine ⟨fun hn => sameP_no fun e => hn (by rw [e]), fun hn => ⟨fun i => 0 ≤ i ∧ i ≤ x.length ∧ x.take i.toNat = y.take i.toNat, fun i => x.length - i.toNat, ⟨by omega, by omega, by simp⟩, fun i hi => ⟨fun h => ?_, fun h => ?_⟩⟩⟩
  · obtain ⟨h0, h1, hI⟩ := hi
    obtain ⟨e1, e2, e3, e4⟩ := ix rz hl h0 h
    have e3' : i.toNat < y.length := by omega
    have hT := takeS rz e3
    have hT' := takeS rz e3'
    have hne : x.getD i.toNat rz ≠ y.getD i.toNat rz → false = sameP x y := fun q => sameP_no fun e => q (by rw [e])
    rw [e1]; dsimp only; rw [e2]
    have b1 : 0 ≤ i ∧ i < (x.length : Int) := ⟨h0, h⟩
    have b2 : 0 ≤ i ∧ i < (y.length : Int) := ⟨h0, by omega⟩
    change List Route at x y
    generalize x.getD i.toNat { driver := 0, served := 0, stops := [] } = r at *
    generalize y.getD i.toNat { driver := 0, served := 0, stops := [] } = r' at *
    refine ⟨b1, e3, b2, e3', fun q1 => ⟨b1, e3, b2, e3', fun q2 => ⟨b1, e3, b2, e3', fun q3 => hne fun e => ?_, fun q3 => ⟨⟨by omega, by omega, ?_⟩, by omega⟩⟩, fun q2 => hne fun e => q2 (by rw [e])⟩, fun q1 => hne fun e => q1 (by rw [e])⟩
    · rw [e, same_self] at q3; cases q3
    · rw [hT, hT', hI]
      have : r = r' := by
        cases r; cases r'
        have q4 := same_iff.1 q3
        clear q3
        simp only at q1 q2 q4
        subst q1 q2 q4; rfl
      rw [this]
  · obtain ⟨h0, h1, hI⟩ := hi
    rw [List.take_of_length_le (by omega), List.take_of_length_le (by omega)] at hI
    exact (sameP_iff.2 hI).symm
theorem kroutes_t : Told Try.prog 22 kroutes_con := kroutes_told (csOk_cons sameS_t csOk_nil) kroutes_ok
theorem begun_yes {p : List Route} {id : Int} {i j : Nat} (hi : i < p.length) (hj : j < (p.getD i rz).stops.length) (hs : (j : Int) < (p.getD i rz).served) (h : ((p.getD i rz).stops.getD j (FK.zero .stop)).order = id) : begunP id p = true := by
  unfold begunP
  rw [List.any_eq_true]
  refine ⟨p.getD i rz, getD_mem rz hi, ?_⟩
  rw [List.any_eq_true]
  refine ⟨(p.getD i rz).stops.getD j (FK.zero .stop), ?_, decide_eq_true h⟩
  rw [getD_get _ hj]
  exact List.mem_take_iff_getElem.2 ⟨j, by omega, rfl⟩
theorem pbegun_ok : pbegun_vc := by
  unfold pbegun_vc
  simp only [bad_false, int0, nilOf, decide_eq_true_eq, decide_eq_false_iff_not, Bool.not_eq_true', Bool.not_eq_false', Bool.not_true, Bool.not_false, Bool.false_eq_true, Bool.true_eq_false, eq_self, true_and, and_true, false_or, or_false, false_implies, true_implies, implies_true, Int.not_lt, Int.not_le, gt_iff_lt, ge_iff_le, ne_eq]
  rintro x ⟨hl, hr⟩ id
  have hl := hl.le
  refine ⟨fun i => 0 ≤ i ∧ i ≤ x.length ∧ begunP id (x.take i.toNat) = false, fun i => x.length - i.toNat, ⟨by omega, by omega, rfl⟩, fun i hi => ⟨fun h => ?_, fun h => ?_⟩⟩
  · obtain ⟨h0, h1, hI⟩ := hi
    obtain ⟨e1, e2, e3, e4⟩ := ix rz hl h0 h
    have hrl := route_len hr _ (getD_mem rz e3)
    have hy := fun j => begun_yes (p := x) (id := id) (i := i.toNat) (j := j) e3
    rw [e1]; dsimp only; rw [e2, takeS rz e3]
    change List Route at x
    generalize x.getD i.toNat { driver := 0, served := 0, stops := [] } = r at *
    refine ⟨⟨h0, h⟩, e3, fun j => 0 ≤ j ∧ ∀ k, k < j.toNat → k < r.stops.length → (k : Int) < r.served → (r.stops.getD k (FK.zero .stop)).order ≠ id, fun j => r.stops.length - j.toNat, ⟨by omega, fun k hk => by simp at hk⟩, fun j hj => ⟨fun g => ?_, fun g => ?_⟩⟩
    · obtain ⟨j0, hJ⟩ := hj
      obtain ⟨d1, d2, d3, d4⟩ := ix (FK.zero .stop) hrl j0 g
      rw [d1]; dsimp only; rw [d2]
      refine ⟨⟨j0, g⟩, d3, fun a => ⟨fun b => (hy j.toNat d3 (by omega) b).symm, fun b => ⟨⟨by omega, fun k hk hk' hs => ?_⟩, by omega⟩⟩, fun a => ⟨⟨by omega, fun k hk hk' hs => ?_⟩, by omega⟩⟩
      · by_cases e : k < j.toNat
        · exact hJ k e hk' hs
        · rw [show k = j.toNat by omega]; exact b
      · by_cases e : k < j.toNat
        · exact hJ k e hk' hs
        · omega
    · obtain ⟨j0, hJ⟩ := hj
      refine ⟨⟨by omega, by omega, ?_⟩, by omega⟩
      unfold begunP at hI ⊢
      rw [List.any_append, hI, Bool.false_or, List.any_cons, List.any_nil, Bool.or_false, ← Bool.not_eq_true, List.any_eq_true]
      rintro ⟨s, hs, he⟩
      obtain ⟨k, hk, rfl⟩ := List.mem_take_iff_getElem.1 hs
      have := hJ k (by omega) (by omega) (by omega)
      rw [getD_get _ (by omega)] at this
      exact this (by simpa using he)
  · obtain ⟨h0, h1, hI⟩ := hi
    rw [List.take_of_length_le (by omega)] at hI
    exact hI.symm
theorem pbegun_t : Told Try.prog 53 pbegun_con := pbegun_told csOk_nil pbegun_ok
def Gone (p : List Route) (f : Int → Int) (ids : List Int) : Prop := ∀ z, 0 ≤ f z ∧ f z ≤ ids.length ∧ (f z = 0 ↔ goneP p ids z = false)
theorem gone_none {p : List Route} : Gone p (noF MK.int.T) [] := fun z => ⟨Int.le_refl _, by simp [noF], by simp [noF, goneP]⟩
theorem gone_one {p : List Route} {f : Int → Int} {ids : List Int} {v : Int} (h : Gone p f ids) (hl : (ids.length : Int) < 9223372036854775807) (hb : begunP v p = false) : Gone p (upF f v (wrap (f v + 1))) (ids ++ [v]) := by
  intro z
  obtain ⟨h0, h1, h2⟩ := h z
  unfold upF
  by_cases e : z = v
  · subst e
    rw [if_pos rfl, wrap_id (by omega) (by omega)]
    refine ⟨by omega, by simp; omega, ⟨fun q => by omega, fun q => ?_⟩⟩
    simp [goneP, hb] at q
  · rw [if_neg e]
    refine ⟨h0, by simp; omega, h2.trans ?_⟩
    simp [goneP, e]
theorem gone_two {p : List Route} {f : Int → Int} {ids : List Int} {v : Int} (h : Gone p f ids) (hb : begunP v p = true) : Gone p f (ids ++ [v]) := by
  intro z
  obtain ⟨h0, h1, h2⟩ := h z
  refine ⟨h0, by simp; omega, h2.trans ?_⟩
  by_cases e : z = v
  · subst e; simp [goneP, hb]
  · simp [goneP, e]
theorem pwithout_ok : pwithout_vc := by
  unfold pwithout_vc
  simp only [bad_false, int0, nilOf, decide_eq_true_eq, decide_eq_false_iff_not, Bool.not_eq_true', Bool.not_eq_false', Bool.not_true, Bool.not_false, Bool.false_eq_true, Bool.true_eq_false, eq_self, true_and, and_true, false_or, or_false, false_implies, true_implies, implies_true, Int.not_lt, Int.not_le, gt_iff_lt, ge_iff_le, ne_eq]
  rintro x ⟨hl, hr⟩ ids hids ⟨hb, hb'⟩
  have hl := hl.le
  have hids := hids.le
  refine ⟨fun i f => 0 ≤ i ∧ i ≤ ids.length ∧ Gone x f (ids.take i.toNat), fun i _ => ids.length - i.toNat, ⟨by omega, by omega, gone_none⟩, fun i f hi => ⟨fun h => ?_, fun h => ?_⟩⟩
  · obtain ⟨h0, h1, hG⟩ := hi
    obtain ⟨e1, e2, e3, e4⟩ := ix (0 : Int) hids h0 h
    rw [e1]; dsimp only; rw [e2, takeS (0 : Int) e3]
    have hlen : ((ids.take i.toNat).length : Int) < 9223372036854775807 := by rw [List.length_take]; omega
    refine ⟨⟨h0, h⟩, e3, fun q => ⟨⟨by omega, by omega, gone_one hG hlen q⟩, by omega⟩, fun q => ⟨⟨by omega, by omega, gone_two hG q⟩, by omega⟩⟩
  · obtain ⟨h0, h1, hG⟩ := hi
    rw [List.take_of_length_le (by omega)] at hG
    have hf : ∀ z, f z = 0 ↔ goneP x ids z = false := fun z => (hG z).2.2
    refine ⟨fun o i => 0 ≤ i ∧ i ≤ x.length ∧ o = (x.take i.toNat).map fun r => ⟨r.driver, r.served, keepS x ids r.stops⟩, fun _ i => x.length - i.toNat, ⟨by omega, by omega, rfl⟩, fun o i hi => ⟨fun g => ?_, fun g => ?_⟩⟩
    · obtain ⟨h0, h1, rfl⟩ := hi
      obtain ⟨e1, e2, e3, e4⟩ := ix rz hl h0 g
      have hrl := route_len hr _ (getD_mem rz e3)
      have hrb := hb' _ (getD_mem rz e3)
      rw [e1]; dsimp only; rw [e2, takeS rz e3]
      change List Route at x
      generalize x.getD i.toNat { driver := 0, served := 0, stops := [] } = r at *
      refine ⟨⟨h0, g⟩, e3, fun l j => 0 ≤ j ∧ j ≤ r.stops.length ∧ l.length ≤ j.toNat ∧ l = keepS x ids (r.stops.take j.toNat), fun _ j => r.stops.length - j.toNat, ⟨by omega, by omega, by simp, rfl⟩, fun l j hj => ⟨fun u => ?_, fun u => ?_⟩⟩
      · obtain ⟨j0, j1, jl, rfl⟩ := hj
        obtain ⟨d1, d2, d3, d4⟩ := ix (FK.zero .stop) hrl j0 u
        rw [d1]; dsimp only; rw [d2, takeS (FK.zero .stop) d3]
        generalize r.stops.getD j.toNat (FK.zero .stop) = s at *
        refine ⟨⟨j0, u⟩, d3, fun q => ⟨by simp only [List.length_cons, List.length_nil]; omega, ⟨by omega, by omega, by simp only [List.length_append, List.length_cons, List.length_nil]; omega, ?_⟩, by omega⟩, fun q => ⟨⟨by omega, by omega, by omega, ?_⟩, by omega⟩⟩
        · have := (hf _).1 q
          simp [keepS, this]
        · have : goneP x ids s.order = true := by
            rw [← Bool.not_eq_false]; exact fun e => q ((hf _).2 e)
          simp [keepS, this]
      · obtain ⟨j0, j1, jl, rfl⟩ := hj
        rw [List.take_of_length_le (l := r.stops) (by omega)]
        refine ⟨?_, ⟨by omega, by omega, by simp⟩, by omega⟩
        simp only [K.byt, List.length_map, List.length_take, List.length_cons, List.length_nil]; omega
    · obtain ⟨h0, h1, rfl⟩ := hi
      rw [List.take_of_length_le (by omega)]; rfl
theorem pwithout_t : Told Try.prog 28 pwithout_con := pwithout_told (csOk_cons pbegun_t csOk_nil) pwithout_ok
theorem withAt_none {id : Int} {s : Spot} {p : List Route} (h : ∀ r ∈ p, r.driver ≠ s.driver) : withAt id s p = none := by
  induction p with
  | nil => rfl
  | cons r l ih =>
    rw [withAt, if_neg (h r (by simp)), ih fun q hq => h q (by simp [hq])]
theorem withAt_at {id : Int} {s : Spot} {p : List Route} {i : Nat} (hi : i < p.length) (hb : ∀ k, k < i → (p.getD k rz).driver ≠ s.driver) (hd : (p.getD i rz).driver = s.driver) :
    withAt id s p = if spotOk (p.getD i rz) s then some (p.set i ⟨(p.getD i rz).driver, (p.getD i rz).served, putS (p.getD i rz).stops id s.pick s.drop⟩) else none := by
  induction p generalizing i with
  | nil => simp at hi
  | cons r l ih =>
    cases i with
    | zero =>
      rw [withAt, List.getD_cons_zero] at *
      rw [if_pos hd]; rfl
    | succ i =>
      have h0 := hb 0 (by omega)
      rw [List.getD_cons_zero] at h0
      rw [withAt, if_neg h0, List.getD_cons_succ]
      rw [ih (by simpa using hi) (fun k hk => by simpa using hb (k + 1) (by omega)) (by simpa using hd)]
      by_cases e : spotOk (l.getD i rz) s
      · rw [if_pos e, if_pos e]; rfl
      · rw [if_neg e, if_neg e]
theorem withP_out {p : List Route} {id : Int} {s : Spot} (h : ¬ (rightP p = true ∧ 1 ≤ id ∧ id ≤ 1000000 ∧ findP id p = none)) : withP p id s = none := by
  unfold withP
  rw [if_neg]
  intro q
  simp [and_assoc] at q
  exact h ⟨q.1, q.2.1, q.2.2.1, by simpa using q.2.2.2⟩
theorem withP_in {p : List Route} {id : Int} {s : Spot} (h : rightP p = true ∧ 1 ≤ id ∧ id ≤ 1000000 ∧ findP id p = none) : withP p id s = withAt id s p := by
  unfold withP
  rw [if_pos]
  simp [h.1, h.2.1, h.2.2.1, h.2.2.2]
theorem pwith_ok : pwith_vc := by
  unfold pwith_vc
  simp only [bad_false, int0, nilOf, decide_eq_true_eq, decide_eq_false_iff_not, Bool.not_eq_true', Bool.not_eq_false', Bool.not_true, Bool.not_false, Bool.false_eq_true, Bool.true_eq_false, eq_self, true_and, and_true, false_or, or_false, false_implies, true_implies, implies_true, Int.not_lt, Int.not_le, gt_iff_lt, ge_iff_le, ne_eq]
  rintro x ⟨hl, hr⟩ id s
  have hl := hl.le
  have no : withP x id s = none → false = (withP x id s).isSome ∧ (withP x id s).getD [] = [] := fun h => by rw [h]; exact ⟨rfl, rfl⟩
  refine ⟨fun a => ⟨fun b => ⟨fun c => ⟨fun d => no (withP_out fun q => ?_), fun d => ?_⟩, fun c => no (withP_out fun q => by omega)⟩, fun b => no (withP_out fun q => by omega)⟩, fun a => no (withP_out fun q => by rw [q.1] at a; cases a)⟩
  · rw [q.2.2.2] at d; cases d
  have hn : findP id x = none := by simpa using d
  have hR := rightP_iff.1 a
  have hin := withP_in (s := s) ⟨a, b, c, hn⟩
  rw [hin] at no ⊢
  refine ⟨fun i => 0 ≤ i ∧ i ≤ x.length ∧ ∀ k, k < i.toNat → (x.getD k rz).driver ≠ s.driver, fun i => x.length - i.toNat, ⟨by omega, by omega, fun k hk => by simp at hk⟩, fun i hi => ⟨fun h => ?_, fun h => ?_⟩⟩
  · obtain ⟨h0, h1, hI⟩ := hi
    obtain ⟨e1, e2, e3, e4⟩ := ix rz hl h0 h
    rw [e1]; dsimp only; rw [e2]
    have hat := withAt_at (id := id) e3 hI
    have hfit : PlanFits x := ⟨by have := hR.1; omega, fun r hr => by have := (okR_mem hR.2 r hr).2.2.1; omega⟩
    refine ⟨⟨h0, h⟩, e3, fun q => ⟨⟨by omega, by omega, fun k hk => ?_⟩, by omega⟩, fun q => ?_⟩
    · by_cases e : k < i.toNat
      · exact hI k e
      · rw [show k = i.toNat by omega]; exact q
    have hat := hat q
    change List Route at x
    generalize hgr : x.getD i.toNat { driver := 0, served := 0, stops := [] } = r at *
    have bad : ¬ spotOk r s = true → false = (withAt id s x).isSome ∧ (withAt id s x).getD [] = [] := fun q => no (by rw [hat, if_neg q])
    refine ⟨fun f1 => ⟨fun f2 => ⟨fun f3 => ⟨fun f4 => bad fun q => ?_, fun f4 => ?_⟩, fun f3 => bad fun q => ?_⟩, fun f2 => bad fun q => ?_⟩, fun f1 => bad fun q => ?_⟩
    · simp [spotOk] at q; omega
    · have : spotOk r s = true := by simp [spotOk]; omega
      rw [hat, if_pos this]
      exact ⟨hfit, by omega, ⟨h0, h⟩, e3, rfl, rfl⟩
    · simp [spotOk] at q; omega
    · simp [spotOk] at q; omega
    · simp [spotOk] at q; omega
  · obtain ⟨h0, h1, hI⟩ := hi
    refine no (withAt_none ((forall_getD rz).2 fun k hk => hI k (by omega)))
theorem pwith_t : Told Try.prog 27 pwith_con := pwith_told (csOk_cons pfind_t (csOk_cons pright_t (csOk_cons pcopy_t (csOk_cons sput_t csOk_nil)))) pwith_ok
end Go.Eng

/- Plans: plain laws that others use. -/
set_option linter.unusedVariables false
set_option linter.unusedSimpArgs false
namespace Go.Eng
open Go Go.Proofs
theorem stands_iff {l : List Stop} {s : Stop} : stands l s = true ↔ s ∈ l := by
  unfold stands
  rw [List.any_eq_true]
  constructor
  · rintro ⟨x, hx, he⟩
    have : x = s := by cases x; cases s; simpa [sEq] using he
    exact this ▸ hx
  · intro h
    exact ⟨s, h, by simp [sEq]⟩
theorem whereS_iff {s : Stop} {l : List Stop} : (whereS s l < 0 ↔ stands l s = false) ∧ (0 ≤ whereS s l ↔ stands l s = true) := by
  have key : 0 ≤ whereS s l ↔ s ∈ l := by
    induction l with
    | nil => simp [whereS]
    | cons x l ih =>
      rw [whereS]
      by_cases e : x = s
      · rw [if_pos e]; simp [e]
      · rw [if_neg e]
        have e' : ¬ s = x := fun q => e q.symm
        have hb := (whereS_bound s l).1
        rw [List.mem_cons]
        by_cases h2 : whereS s l < 0
        · rw [if_pos h2]
          have : s ∉ l := fun q => by have := ih.2 q; omega
          simp [e', this]
        · rw [if_neg h2]
          have : s ∈ l := ih.1 (by omega)
          simp only [this, or_true, iff_true]
          omega
  constructor
  · rw [← Bool.not_eq_true, stands_iff, ← key]; omega
  · rw [stands_iff, ← key]
theorem stop_known {m : MapD} {os : List Order} {s : Stop} (hk : knownO (some m) os = true) (h : (findO os s.order).isSome = true) :
    SiteOk m (stopSite os s) ∧ (0 ≤ (stopSite os s).lo ∧ (stopSite os s).lo ≤ (stopSite os s).hi ∧ (stopSite os s).hi ≤ 1000000) ∧ 1 ≤ (fo os s.order).size ∧ (fo os s.order).size ≤ 1000 := by
  have ho := (fo_ok hk h).1
  refine ⟨siteOf_ok ho s.drop, ?_, ho.size⟩
  unfold stopSite siteOf
  split
  · exact ho.dw
  · exact ho.pw
theorem take_more {α : Type} {l : List α} {i : Nat} (d : α) (h : i < l.length) : l.take (i + 1) = l.take i ++ [l.getD i d] := by
  rw [List.take_succ_eq_append_getElem h, getD_get d h]
theorem findD_mem {id : Int} {l : List Driver} {d : Driver} (h : findD id l = some d) : d ∈ l ∧ d.id = id := by
  induction l with
  | nil => cases h
  | cons a l ih =>
    rw [findD] at h
    split at h
    · cases h; simp [*]
    · exact ⟨List.mem_cons_of_mem _ (ih h).1, (ih h).2⟩
theorem well_driver {m : MapD} {ds : List Driver} {os : List Order} {p : List Route} (h : wellP (some m) ds os p = true) {d : Driver} (hd : d ∈ ds) : driverE (some m) d = 0 := by
  obtain ⟨k, hk, rfl⟩ := List.getElem_of_mem hd
  have := (okD_iff.1 ((wellP_iff.1 h).2.2.2.2 k hk)).1
  rwa [getD_get _ hk] at this
theorem well_timed {m : MapD} {ds : List Driver} {os : List Order} {p : List Route} (hm : MapOk m) (h : wellP (some m) ds os p = true) {r : Route} (hr : r ∈ p) {d : Driver} (hd : d ∈ ds) : TimedPre m d os r.stops :=
  ⟨hm, driverE_ok (well_driver h hd), (wellP_iff.1 h).2.2.1, (okR_mem (rightP_iff.1 (wellP_iff.1 h).2.2.2.1).2 r hr).2.2.1⟩
theorem flatMap_drop {α β : Type} {f : α → List β} {l : List α} {i : Nat} (d : α) (h : i < l.length) : (l.drop i).flatMap f = f (l.getD i d) ++ (l.drop (i + 1)).flatMap f := by
  rw [getD_drop h, List.flatMap_cons]
theorem routed_self {last : Int} {all : List Stop} {p : List Route} (h : okR last all p) : ∀ r ∈ p, routed r.driver p = some r := by
  induction p generalizing last all with
  | nil => simp
  | cons a l ih =>
    intro r hr
    rw [routed]
    rcases List.mem_cons.1 hr with rfl | hr
    · rw [if_pos rfl]
    · have := (okR_mem h.2.2 r hr).1
      rw [if_neg (by omega)]
      exact ih h.2.2 r hr
theorem kept_self {p : List Route} : keptP p p = rightP p := by
  cases e : rightP p with
  | false => exact (kept_no fun h => right_ne e h.1).symm
  | true =>
    have hR := rightP_iff.1 e
    refine keptP_iff.2 ⟨hR, hR, fun r hr => by rw [routed_self hR.2 r hr]; rfl, fun r hr => ?_⟩
    unfold keptR; rw [routed_self hR.2 r hr]; exact ⟨rfl, rfl⟩
end Go.Eng

/- Certificates: it is so. -/
set_option linter.unusedVariables false
set_option linter.unusedSimpArgs false
namespace Go.Eng
open Go Go.Proofs
/-- What is still to be made. -/
theorem makeGo_step {m : MapD} {ds : List Driver} {os : List Order} {i : Nat} {r : Route} {l : List Route} {vs : List (List Visit)} {W : Except Fault (List (List Visit))} (h : W = match makeGo m ds os i (r :: l) with | .error f => .error f | .ok w => .ok (vs ++ w)) :
    (findD r.driver ds = none → W = .error ⟨i, 8⟩) ∧ (∀ d, findD r.driver ds = some d → (∀ f, drive (some m) d os r.stops = .error f → W = .error ⟨i, f.why⟩) ∧
      ∀ v, drive (some m) d os r.stops = .ok v → W = match makeGo m ds os (i + 1) l with | .error f => .error f | .ok w => .ok (vs ++ [v] ++ w)) := by
  rw [makeGo] at h
  refine ⟨fun e => by rw [e] at h; exact h, fun d e => ⟨fun f ef => by rw [e] at h; dsimp only at h; rw [ef] at h; exact h, fun v ev => ?_⟩⟩
  rw [e] at h; dsimp only at h; rw [ev] at h; dsimp only at h
  rw [h]
  cases makeGo m ds os (i + 1) l with
  | error f => rfl
  | ok w => simp
theorem well_drive {m : MapD} {ds : List Driver} {os : List Order} {p : List Route} (h : wellP (some m) ds os p = true) {r : Route} (hr : r ∈ p) {d : Driver} (hd : d ∈ ds) : drive (some m) d os r.stops = driveT m d os r.stops := by
  have hR := rightP_iff.1 (wellP_iff.1 h).2.2.2.1
  have : fitB (some m) d os r.stops = true := by
    simp [fitB, well_driver h hd, (wellP_iff.1 h).2.2.1, (okR_mem hR.2 r hr).2.2.1]
  unfold drive
  dsimp only
  rw [if_pos this]
theorem driveT_good {r : Except Fault (List Visit)} : (good (fauR r) = true → (∃ v, r = .ok v) ∨ ∃ f, r = .error f ∧ f.why = 0) ∧ (good (fauR r) = false → ∃ f, r = .error f) := by
  cases r with
  | ok v => exact ⟨fun _ => .inl ⟨v, rfl⟩, fun h => by simp [fauR, good] at h⟩
  | error f => exact ⟨fun h => .inr ⟨f, rfl, of_decide_eq_true h⟩, fun _ => ⟨f, rfl⟩⟩
theorem driveT_ok {m : MapD} {d : Driver} {os : List Order} {ss : List Stop} (h : good (fauR (driveT m d os ss)) = true) : ∃ v, driveT m d os ss = .ok v := by
  rcases driveT_good.1 h with h | ⟨f, h1, h2⟩
  · exact h
  · exact absurd h2 (driveGo_why h1)
theorem byt_rows : (K.rows FK.visit).byt = 24 := rfl
theorem cmake_ok : cmake_vc := by
  unfold cmake_vc
  simp only [bad_false, int0, nilOf, decide_eq_true_eq, decide_eq_false_iff_not, Bool.not_eq_true', Bool.not_eq_false', Bool.not_true, Bool.not_false, Bool.false_eq_true, Bool.true_eq_false, eq_self, true_and, and_true, false_or, or_false, false_implies, true_implies, implies_true, Int.not_lt, Int.not_le, gt_iff_lt, ge_iff_le, ne_eq]
  refine ⟨fun ds _ os _ p _ hmo => ⟨hmo, fun _ => ⟨⟨rfl, rfl⟩, rfl⟩, fun h => by cases h⟩, ?_⟩
  intro m hm ds hd os ho p hp hmo
  have hpl := hp.1.le
  refine ⟨hmo, fun h => by simp [makeP, h, cfauR, certR], fun hw => ?_⟩
  have hR := rightP_iff.1 (wellP_iff.1 hw).2.2.2.1
  have hM : makeP (some m) ds os p = makeGo m ds os 0 p := by simp [makeP, hw]
  rw [hM]
  refine ⟨fun vs i => 0 ≤ i ∧ i ≤ p.length ∧ vs.length ≤ i.toNat ∧ makeGo m ds os 0 p = (match makeGo m ds os i.toNat (p.drop i.toNat) with | .error f => .error f | .ok w => .ok (vs ++ w)), fun _ i => p.length - i.toNat, ⟨by omega, by omega, by simp, ?_⟩, fun vs i hi => ⟨fun h => ?_, fun h => ?_⟩⟩
  · simp only [Int.toNat_zero, List.drop_zero, List.nil_append]
    cases makeGo m ds os 0 p <;> rfl
  · obtain ⟨h0, h1, hL, hI⟩ := hi
    obtain ⟨e1, e2, e3, e4⟩ := ix rz hpl h0 h
    have hrm := getD_mem rz e3
    have h8 := hR.1
    rw [e4] at hI
    rw [e1]; dsimp only; rw [e2]
    obtain ⟨s1, s2⟩ := makeGo_step hI
    change List Route at p
    generalize p.getD i.toNat { driver := 0, served := 0, stops := [] } = r at *
    refine ⟨⟨h0, h⟩, e3, fun q => ?_, fun q => ?_⟩
    · rw [s1 (by simpa using q)]
      exact ⟨⟨by show i = ((i.toNat : Nat) : Int); omega, rfl⟩, rfl⟩
    · obtain ⟨d, hd'⟩ := Option.isSome_iff_exists.1 q
      obtain ⟨t1, t2⟩ := s2 d hd'
      have hwd := well_drive hw hrm (findD_mem hd').1
      rw [hd']
      dsimp only [Option.getD]
      rw [hwd] at t1 t2
      refine ⟨well_timed (hmo m rfl) hw hrm (findD_mem hd').1, fun g => ?_, fun g => ?_⟩
      · obtain ⟨f, hf⟩ := driveT_good.2 g
        rw [t1 f hf, hf]
        exact ⟨⟨by show i = ((i.toNat : Nat) : Int); omega, rfl⟩, rfl⟩
      · obtain ⟨v, hv⟩ := driveT_ok g
        rw [byt_rows, hv]
        refine ⟨by simp only [List.length_cons, List.length_nil]; omega, ⟨by omega, by omega, by simp only [List.length_append, List.length_cons, List.length_nil]; omega, t2 v hv⟩, by omega⟩
  · obtain ⟨h0, h1, hL, hI⟩ := hi
    rw [ixEnd h] at hI
    rw [hI]
    simp [makeGo, cfauR, certR]
theorem cmake_t : Told Try.prog 29 cmake_con := cmake_told (csOk_cons ctog_t (csOk_cons cdriver_t (csOk_cons timed_t (csOk_cons goodF_t csOk_nil)))) cmake_ok
end Go.Eng
